/- Folded tasks served by turns are served by the divided turns, the gaps that turns serve are the least ones, and who asks more has greater gaps. -/
import Derived.Test.YtliepcfgcglcmaaGreatCFnFolding8
section
namespace Go.Proofs.YtliepcfgcglcmaaGreat.P
open Go.RowKit Go.Proofs.YtliepcfgcglcmaaGreatW.PrintWords Go.Proofs.YtliepcfgcglcmaaGreatW.PrintLast Go.Proofs.YtliepcfgcglcmaaGreatW.PrintMore
attribute [local go_sem] Kn Kj Ld Li Kb Ke Kl Km
set_option linter.unusedVariables false
set_option linter.unusedSimpArgs false
set_option maxHeartbeats 80000000 in
set_option maxRecDepth 100000 in
theorem Ad.calls (k : Nat) (A0 : Option Addr) (c0 : Nat) (l0 : List Int) (r : Bool) (w : World) (hr0 : Kd.C (Kd.int .u8) w A0 l0.length l0) (hc0 : l0.length ≤ c0) (h : Ad.f k l0 = some r) :
    Calls Tryz.prog 3 #[.slice A0 l0.length c0] w fun e w' => e = .returned (.bool r) ∧ Below w.heap.size w w' := by
 have hu26 := Tryz.underlying26
 have HR0 := Aa.mk hr0
 have HC0 := Aa.mk hc0
 clear hr0 hc0
 have HB := Aa.mk (Below.refl w.heap.size w)
 have H := h
 clear h
 unfold Ad.f at H
 obtain ⟨t101, A2, H⟩ := zO H
 try dsimp only at H
 by_cases c3 : t101 = true
 ·
  subst c3
  rw [if_pos rfl] at H
  obtain rfl := Option.some.inj H
  go_enter Tryz.func3, Tryz.ntmps3
  go_wp2_with (first | (refine gK 4 ?_; refine gL 58 Tryz.func4 #[.slice A0 l0.length c0] ?_; (with_reducible refine (Pf.calls _ _ l0 true _ (zC HR0.out) HC0.out A2.out).mono ?_); rintro e w' ⟨rfl, ⟨nd, rfl⟩⟩; refine ⟨_, rfl, ?_⟩))
  go_ret
  exact ⟨zE, zB⟩
 replace c3 := Bool.eq_false_iff.mpr c3
 subst c3
 rw [if_neg zf] at H
 obtain ⟨⟨t102, t105, t106⟩, A4, H⟩ := zO H
 try dsimp only at H
 obtain ⟨⟨t108, t111⟩, A5, H⟩ := zO H
 try dsimp only at H
 obtain ⟨⟨t113, t116⟩, A6, H⟩ := zO H
 try dsimp only at H
 have HC7 := Aa.mk H
 clear H
 go_enter Tryz.func3, Tryz.ntmps3
 go_upto_region 6 with (first | (refine gK 4 ?_; refine gL 58 Tryz.func4 #[.slice A0 l0.length c0] ?_; (with_reducible refine (Pf.calls _ _ l0 false _ (zC HR0.out) HC0.out A2.out).mono ?_); rintro e w' ⟨rfl, ⟨nd, rfl⟩⟩; refine ⟨_, rfl, ?_⟩) | (refine gK 5 ?_; refine gL 61 Tryz.func5 #[.slice A0 l0.length c0] ?_; (with_reducible refine (Cg.calls k _ _ l0 t102 t105 t106 _ (zC HR0.out) HC0.out A4.out).mono ?_); rintro e w8 ⟨v103, rfl, ho0, hb⟩; refine ⟨_, rfl, ?_⟩; have n_ := y2 (Kd.Bk ho0 (An (zB))) (Ab (zB) hb); clear HB; obtain ⟨HO104, HB⟩ := n_; (try clear ho0 hb)) | ((with_reducible refine Ay (N := 3) rfl ?_); (try (refine Ed (by rfl) ?_; dsimp only)); refine Be zr (N := 3) zr (cs := #[.slice none 0 0]) (t := 26) zg ?_; intro gb107 hg w9 hbox hb; have n_ := y5 (Kd.Ap (zR HO104.out) hb) (Ab (zB) hb) (hbox) ((zS hg : w.heap.size ≤ gb107)) ((zS hg : w.heap.size ≤ gb107)); clear HO104 HB; obtain ⟨HO104, HB, BK107, GW107, GE107⟩ := n_; clear hb hbox hg; obtain ⟨Ao10, co10, eo10⟩ := Kd.Bb HO104.out; subst eo10; obtain ⟨hcz11_0, hfz11_0⟩ := zw BK107.out) | (refine gK 6 ?_; refine gL 69 Tryz.func6 #[.agg #[.slice Ao10 t102.length co10], .int .i64 t105, .int .i64 t106] ?_; (with_reducible refine (Bc.calls k _ _ t102 t105 t106 t108 t111 _ ?side1 ?side2 A5.out).mono ?_); (case side1 => exact (zQ HO104.out BK107.out)); (case side2 => exact (Kd.Ae HO104.out).2.1); rintro e w12 ⟨v109, rfl, ho0, hb⟩; refine ⟨_, rfl, ?_⟩; have n_ := y4 (Kd.Bu (zV HO104.out BK107.out) (Kd.Bs ho0) hb) (Kd.Bk (Kd.Bt ho0 (Kd.Cx (zV HO104.out BK107.out))) (An (zB))) (Cy (g := gb107) (o := .cells #[.slice Ao10 t102.length co10] 26 (0, 0)) (by (with_reducible repeat (first | refine Am ?_ _ | refine Ag ?_ | refine Ak ?_ _)); refine Cl (cs := #[.slice none 0 0]) ?_ 0 _ rfl; (with_reducible repeat (first | refine Am ?_ _ | refine Ag ?_ | refine Ak ?_ _)); exact BK107.out) hb) (Ab (zB) hb); clear HO104 BK107 HB; obtain ⟨HO104, HO110, BK107, HB⟩ := n_; (try clear ho0 hb)) | ((with_reducible refine Ay (N := 6) rfl ?_); (try (refine Ed (by rfl) ?_; dsimp only)); refine Be zr (N := 6) zr (cs := #[.slice none 0 0]) (t := 26) zg ?_; intro gb112 hg w13 hbox hb; have n_ := y9 (Kd.Ap (zR HO104.out) hb) (Kd.Ap (zR HO110.out) hb) (zb BK107.out hb) (Ab (zB) hb) (hbox) ((zS hg : w.heap.size ≤ gb112)) ((zS hg : w.heap.size ≤ gb112)) ((zL hg BK107.out : gb107 ≠ gb112)) ((zM hg BK107.out : gb112 ≠ gb107)); clear HO104 HO110 BK107 HB; obtain ⟨HO104, HO110, BK107, HB, BK112, GW112, GE112, NB107_112, NB112_107⟩ := n_; clear hb hbox hg; obtain ⟨Ao14, co14, eo14⟩ := Kd.Bb HO110.out; subst eo14; have hnb15 := NB112_107.out; have hnc15 := NB107_112.out; obtain ⟨hcz16_0, hfz16_0⟩ := zw BK112.out; obtain ⟨hcz17_0, hfz17_0⟩ := zw BK107.out) | (refine gK 7 ?_; refine gL 76 Tryz.func7 #[.agg #[.slice Ao10 t102.length co10], .int .i64 t105, .int .i64 t106] ?_; (with_reducible refine (Bp.calls k _ _ t102 t105 t106 t113 t116 _ ?side1 ?side2 A6.out).mono ?_); (case side1 => exact (zQ HO104.out BK112.out)); (case side2 => exact (Kd.Ae HO104.out).2.1); rintro e w18 ⟨v114, rfl, ho0, hb⟩; refine ⟨_, rfl, ?_⟩; have n_ := y6 (Kd.Bu (zV HO104.out BK112.out) (Kd.Bs ho0) hb) (Kd.Bu (zV HO110.out BK112.out) (Kd.Bs ho0) hb) (Kd.Bk (Kd.Bt (Kd.Bt ho0 (Kd.Cx (zV HO104.out BK112.out))) (Kd.Cx (zV HO110.out BK112.out))) (An (zB))) (Cy (g := gb107) (o := .cells #[.slice Ao10 t102.length co10] 26 (0, 0)) (by refine zG ?_; refine Ce ?_ NB107_112.out _; refine zG ?_; exact BK107.out) hb) (Cy (g := gb112) (o := .cells #[.slice Ao14 t108.length co14] 26 (0, 0)) (by (with_reducible repeat (first | refine Am ?_ _ | refine Ag ?_ | refine Ak ?_ _)); refine Cl (cs := #[.slice none 0 0]) ?_ 0 _ rfl; (with_reducible repeat (first | refine Am ?_ _ | refine Ag ?_ | refine Ak ?_ _)); exact BK112.out) hb) (Ab (zB) hb); clear HO104 HO110 BK107 BK112 HB; obtain ⟨HO104, HO110, HO115, BK107, BK112, HB⟩ := n_; (try clear ho0 hb)) | ((with_reducible refine Ay (N := 8) rfl ?_); (try (refine Ed (by rfl) ?_; dsimp only)); refine Be zr (N := 8) zr (cs := #[.slice none 0 0]) (t := 26) zg ?_; intro gb117 hg w19 hbox hb; have n_ := y13 (Kd.Ap (zR HO104.out) hb) (Kd.Ap (zR HO110.out) hb) (Kd.Ap (zR HO115.out) hb) (zb BK107.out hb) (zb BK112.out hb) (Ab (zB) hb) (hbox) ((zS hg : w.heap.size ≤ gb117)) ((zS hg : w.heap.size ≤ gb117)) ((zL hg BK107.out : gb107 ≠ gb117)) ((zM hg BK107.out : gb117 ≠ gb107)) ((zL hg BK112.out : gb112 ≠ gb117)) ((zM hg BK112.out : gb117 ≠ gb112)); clear HO104 HO110 HO115 BK107 BK112 HB; obtain ⟨HO104, HO110, HO115, BK107, BK112, HB, BK117, GW117, GE117, NB107_117, NB117_107, NB112_117, NB117_112⟩ := n_; clear hb hbox hg; obtain ⟨Ao20, co20, eo20⟩ := Kd.Bb HO115.out; subst eo20; have hnb21 := NB117_107.out; have hnc21 := NB107_117.out; have hnb22 := NB117_112.out; have hnc22 := NB112_117.out; obtain ⟨hcz23_0, hfz23_0⟩ := zw BK117.out))
 (try simp only [Act.put, List.setIfInBounds_toArray, List.set_cons_zero, List.set_cons_succ])
 go_cut [87] (fun v87 wc => ∃ (kq : Nat) (x87_6 : Bool), v87 = .bool x87_6 ∧ Aa (Ad.j0 kq l0 t105 t106 t111 x87_6 t102 t108 = some r) ∧ Aa (kq ≤ k) ∧ Aa (Kd.R (Kd.int .i64) 2 wc w.heap.size (fun k_ => some k_ ≠ ((.slice Ao14 t108.length co14) : Value).ownBlock) (.slice Ao10 t102.length co10) t102) ∧ Aa (Kd.R (Kd.int .i64) 2 wc w.heap.size (fun k_ => some k_ ≠ ((.slice Ao10 t102.length co10) : Value).ownBlock) (.slice Ao14 t108.length co14) t108) ∧ Aa (wc.heap[gb107]? = some (.cells #[(.slice Ao10 t102.length co10)] 26 (0, 0))) ∧ Aa (wc.heap[gb112]? = some (.cells #[(.slice Ao14 t108.length co14)] 26 (0, 0))) ∧ Aa (Below w.heap.size w wc))
 case first =>
  as_aux_lemma =>
   have H := HC7.out
   clear HC7
   by_cases c24 : t111 = t116
   case neg =>
    rw [if_neg c24] at H
    have c24b0 : (t111 == t116) = false := beq_eq_false_iff_ne.mpr c24
    have c24b1 : (t111 != t116) = true := bne_iff_ne.mpr c24
    (first | rw [c24b0] | (simp only [Ec, En]; rw [c24b0]) | skip)
    have H' := Aa.mk H
    clear H
    go_wp2
    go_meet
    case rel => exact ⟨_, (true), zF, H', ⟨by first | omega | exact Nat.le_refl _⟩, ⟨by refine zR ?_; exact Kd.Ai (Kd.Dv (p := ⟨gb117, 0, none⟩) (Kd.Cj HO104.out BK117.out (by decide)) (fun _ hk => hk.2) (.slice Ao20 t113.length co20)) (fun _ hk => hk.1.1.2)⟩, ⟨by refine zR ?_; exact Kd.Ai (Kd.Dv (p := ⟨gb117, 0, none⟩) (Kd.Cj HO110.out BK117.out (by decide)) (fun _ hk => hk.2) (.slice Ao20 t113.length co20)) (fun _ hk => hk.1.1.2)⟩, ⟨by refine zG ?_; refine Ce ?_ NB107_117.out _; refine zG ?_; exact BK107.out⟩, ⟨by refine zG ?_; refine Ce ?_ NB112_117.out _; refine zG ?_; exact BK112.out⟩, ⟨zB⟩⟩
   rw [if_pos c24] at H
   have c24b0 : (t111 == t116) = true := beq_iff_eq.mpr c24
   have c24b1 : (t111 != t116) = false := bne_eq_false_iff_eq.mpr c24
   clear c24
   (first | rw [c24b0] | (simp only [Ec, En]; rw [c24b0]) | skip)
   obtain ⟨t118, A25, H⟩ := zO H
   try dsimp only at H
   have H' := Aa.mk H
   clear H
   have hnb26 := NB112_107.out
   have hnc26 := NB107_112.out
   have hnb27 := NB112_117.out
   have hnc27 := NB117_112.out
   obtain ⟨hcz28_0, hfz28_0⟩ := zw BK112.out
   have hnb29 := NB117_107.out
   have hnc29 := NB107_117.out
   obtain ⟨hcz30_0, hfz30_0⟩ := zw BK117.out
   go_wp2_with (first | (go_at_call 8; (with_reducible refine (Fp.calls k _ _ t108 _ _ t113 t118 _ ?side1 ?side2 ?side3 ?side4 A25.out).mono ?_); (case side1 => exact (zQ HO110.out BK117.out)); (case side2 => exact (Kd.Ae HO110.out).2.1); (case side3 => exact (zQ HO115.out BK117.out)); (case side4 => exact (Kd.Ae HO115.out).2.1); rintro e w31 ⟨rfl, hb⟩; have n_ := y7 (Kd.Ap (zV HO104.out BK117.out) hb) (Kd.Ap (zV HO110.out BK117.out) hb) (Kd.Ap (zV HO115.out BK117.out) hb) (Cy (g := gb107) (o := .cells #[.slice Ao10 t102.length co10] 26 (0, 0)) (by refine zG ?_; refine Ce ?_ NB107_117.out _; refine zG ?_; exact BK107.out) hb) (Cy (g := gb112) (o := .cells #[.slice Ao14 t108.length co14] 26 (0, 0)) (by refine zG ?_; refine Ce ?_ NB112_117.out _; refine zG ?_; exact BK112.out) hb) (Cy (g := gb117) (o := .cells #[.slice Ao20 t113.length co20] 26 (0, 0)) (by (with_reducible repeat (first | refine Am ?_ _ | refine Ag ?_ | refine Ak ?_ _)); refine Cl (cs := #[.slice none 0 0]) ?_ 0 _ rfl; (with_reducible repeat (first | refine Am ?_ _ | refine Ag ?_ | refine Ak ?_ _)); exact BK117.out) hb) (Ab (zB) hb); clear HO104 HO110 HO115 BK107 BK112 BK117 HB; obtain ⟨HO104, HO110, HO115, BK107, BK112, BK117, HB⟩ := n_; (try clear hb)))
   go_meet
   case rel => exact ⟨_, (!t118), zF, H', ⟨by first | omega | exact Nat.le_refl _⟩, ⟨by refine zR ?_; exact Kd.Ai HO104.out (fun _ hk => hk.1.2)⟩, ⟨by refine zR ?_; exact Kd.Ai HO110.out (fun _ hk => hk.1.2)⟩, ⟨zG BK107.out⟩, ⟨zG BK112.out⟩, ⟨zB⟩⟩
 case rest =>
  as_aux_lemma =>
   clear HC7
   try clear c3
   try clear hcz11_0
   try clear hcz16_0
   try clear hcz17_0
   try clear hcz23_0
   try clear hfz11_0
   try clear hfz16_0
   try clear hfz17_0
   try clear hfz23_0
   obtain ⟨kq, x87_6, rfl, HA, HJ6, HO_108000, HO_113000, BK107, BK112, HB⟩ := hcut
   cases kq with
   | zero => exact absurd HA.out (by simp [Ad.j0])
   | succ kj6 =>
    have H := HA.out
    clear HA
    simp only [Ad.j0] at H
    by_cases c32 : x87_6 = true
    ·
     subst c32
     rw [if_pos rfl] at H
     obtain rfl := Option.some.inj H
     go_wp2
     go_ret
     exact ⟨zE, zB⟩
    replace c32 := Bool.eq_false_iff.mpr c32
    subst c32
    rw [if_neg zf] at H
    have HC33 := Aa.mk H
    clear H
    go_upto_if 89 with (fail)
    go_cut [] (fun wc => ∃ (kq : Nat), Aa (Ad.j1 kq l0 = some r) ∧ Aa (kq ≤ kj6) ∧ Aa (Below w.heap.size w wc))
    case first =>
     as_aux_lemma =>
      have H := HC33.out
      clear HC33
      by_cases c34 : t111 = 0
      case neg =>
       as_aux_lemma =>
        rw [if_neg c34] at H
        have c34b0 : (t111 == 0) = false := beq_eq_false_iff_ne.mpr c34
        have c34b1 : (t111 != 0) = true := bne_iff_ne.mpr c34
        (first | rw [c34b0] | (simp only [Ec, En]; rw [c34b0]) | skip)
        have H' := Aa.mk H
        clear H
        go_wp2
        go_meet
        case rel => exact ⟨_, H', ⟨by have := HJ6.out; first | omega | exact Nat.le_refl _⟩, ⟨zB⟩⟩
      rw [if_pos c34] at H
      have c34b0 : (t111 == 0) = true := beq_iff_eq.mpr c34
      have c34b1 : (t111 != 0) = false := bne_eq_false_iff_eq.mpr c34
      clear c34
      (first | rw [c34b0] | (simp only [Ec, En]; rw [c34b0]) | skip)
      obtain ⟨⟨t119, t122, t123⟩, A35, H⟩ := zO H
      try dsimp only at H
      by_cases c36 : t123 = 0
      case neg =>
       as_aux_lemma =>
        rw [if_neg c36] at H
        have c36b0 : (t123 == 0) = false := beq_eq_false_iff_ne.mpr c36
        have c36b1 : (t123 != 0) = true := bne_iff_ne.mpr c36
        have H' := Aa.mk H
        clear H
        have hnb107 := NB112_107.out
        have hnc107 := NB107_112.out
        obtain ⟨hcz108_0, hfz108_0⟩ := zw BK112.out
        go_wp2_with (first | (refine gK 9 ?_; refine gL 92 Tryz.func9 #[.agg #[.slice Ao14 t108.length co14]] ?_; (with_reducible refine (Ci.calls kj6 _ _ t108 t119 t122 t123 _ ?side1 ?side2 A35.out).mono ?_); (case side1 => exact zC (Kd.Ae HO_113000.out).2.2); (case side2 => exact (Kd.Ae HO_113000.out).2.1); rintro e w109 ⟨v120, rfl, ho0, hb⟩; refine ⟨_, rfl, ?_⟩; have n_ := y6 (Kd.Bu (zR HO_108000.out) (Kd.Bs ho0) hb) (Kd.Bu (zR HO_113000.out) (Kd.Bs ho0) hb) (Kd.Bk (Kd.Bt (Kd.Bt ho0 (Kd.Cx (zR HO_108000.out))) (Kd.Cx (zR HO_113000.out))) (An (zB))) (zb BK107.out hb) (zb BK112.out hb) (Ab (zB) hb); clear HO_108000 HO_113000 BK107 BK112 HB; obtain ⟨HO_108000, HO_113000, HO121, BK107, BK112, HB⟩ := n_; (try clear ho0 hb)))
        go_meet
        case rel => exact ⟨_, H', ⟨by have := HJ6.out; first | omega | exact Nat.le_refl _⟩, ⟨zB⟩⟩
      rw [if_pos c36] at H
      have c36b0 : (t123 == 0) = true := beq_iff_eq.mpr c36
      have c36b1 : (t123 != 0) = false := bne_eq_false_iff_eq.mpr c36
      clear c36
      obtain ⟨⟨t124, t125⟩, A37, H⟩ := zO H
      try dsimp only at H
      by_cases c38 : t125 = 0
      case neg =>
       as_aux_lemma =>
        rw [if_neg c38] at H
        have c38b0 : (t125 == 0) = false := beq_eq_false_iff_ne.mpr c38
        have c38b1 : (t125 != 0) = true := bne_iff_ne.mpr c38
        have H' := Aa.mk H
        clear H
        have hnb102 := NB112_107.out
        have hnc102 := NB107_112.out
        obtain ⟨hcz103_0, hfz103_0⟩ := zw BK112.out
        go_wp2_with (first | (refine gK 9 ?_; refine gL 92 Tryz.func9 #[.agg #[.slice Ao14 t108.length co14]] ?_; (with_reducible refine (Ci.calls kj6 _ _ t108 t119 t122 t123 _ ?side1 ?side2 A35.out).mono ?_); (case side1 => exact zC (Kd.Ae HO_113000.out).2.2); (case side2 => exact (Kd.Ae HO_113000.out).2.1); rintro e w104 ⟨v120, rfl, ho0, hb⟩; refine ⟨_, rfl, ?_⟩; have n_ := y6 (Kd.Bu (zR HO_108000.out) (Kd.Bs ho0) hb) (Kd.Bu (zR HO_113000.out) (Kd.Bs ho0) hb) (Kd.Bk (Kd.Bt (Kd.Bt ho0 (Kd.Cx (zR HO_108000.out))) (Kd.Cx (zR HO_113000.out))) (An (zB))) (zb BK107.out hb) (zb BK112.out hb) (Ab (zB) hb); clear HO_108000 HO_113000 BK107 BK112 HB; obtain ⟨HO_108000, HO_113000, HO121, BK107, BK112, HB⟩ := n_; (try clear ho0 hb); obtain ⟨Ao105, co105, eo105⟩ := Kd.Bb HO121.out; subst eo105) | (refine gK 10 ?_; refine gL 101 Tryz.func10 #[.slice Ao105 t119.length co105, .int .i64 t105, .int .i64 2] ?_; (with_reducible refine (Dm.calls kj6 _ _ t119 t105 2 t124 t125 _ ?side1 ?side2 A37.out).mono ?_); (case side1 => exact zC (Kd.Ae HO121.out).2.2); (case side2 => exact (Kd.Ae HO121.out).2.1); rintro e w106 ⟨v126, rfl, ho0, hb⟩; refine ⟨_, rfl, ?_⟩; have n_ := y7 (Kd.Bu (zR HO_108000.out) (Kd.Bs ho0) hb) (Kd.Bu (zR HO_113000.out) (Kd.Bs ho0) hb) (Kd.Bu (zR HO121.out) (Kd.Bs ho0) hb) (Kd.Bk (Kd.Bt (Kd.Bt (Kd.Bt ho0 (Kd.Cx (zR HO_108000.out))) (Kd.Cx (zR HO_113000.out))) (Kd.Cx (zR HO121.out))) (An (zB))) (zb BK107.out hb) (zb BK112.out hb) (Ab (zB) hb); clear HO_108000 HO_113000 HO121 BK107 BK112 HB; obtain ⟨HO_108000, HO_113000, HO121, HO127, BK107, BK112, HB⟩ := n_; (try clear ho0 hb)))
        go_meet
        case rel => exact ⟨_, H', ⟨by have := HJ6.out; first | omega | exact Nat.le_refl _⟩, ⟨zB⟩⟩
      rw [if_pos c38] at H
      have c38b0 : (t125 == 0) = true := beq_iff_eq.mpr c38
      have c38b1 : (t125 != 0) = false := bne_eq_false_iff_eq.mpr c38
      clear c38
      obtain ⟨y128, hy128, H⟩ := zY H
      try dsimp only at H
      have Ny128 := Aa.mk hy128
      clear hy128
      by_cases c39 : 0 ≤ t106
      case neg => rw [if_neg c39] at H; exact absurd H (by simp)
      rw [if_pos c39] at H
      have c39b0 := eq_true c39
      have c39b1 := decide_eq_true c39
      clear c39
      by_cases c40 : t106 ≤ (t102.length : Int)
      case neg => rw [if_neg c40] at H; exact absurd H (by simp)
      rw [if_pos c40] at H
      have c40b0 := eq_true c40
      have c40b1 := decide_eq_true c40
      clear c40
      obtain ⟨y131, hy131, H⟩ := zY H
      try dsimp only at H
      have Ny131 := Aa.mk hy131
      clear hy131
      by_cases c41 : y128.length + y131.length < 17592186044416
      case neg => rw [if_neg c41] at H; exact absurd H (by simp)
      rw [if_pos c41] at H
      have LMc41 := Aa.mk c41
      clear c41
      obtain ⟨y135, hy135, H⟩ := zY H
      try dsimp only at H
      have Ny135 := Aa.mk hy135
      clear hy135
      obtain ⟨ji42, hji42⟩ : ∃ j_ : Int, (wrap64 (t106 + 1)) = j_ := ⟨_, rfl⟩
      replace H : (if 0 ≤ (ji42) then (if (ji42) ≤ (t102.length : Int) then ((some (t102.drop ((ji42) : Int).toNat : List Int)).bind fun y138 => (if y135.length + y138.length < 17592186044416 then ((some (y135 ++ y138 : List Int)).bind fun y142 => (if t106 < (t102.length : Int) then (if y142.length < 17592186044416 then ((Dy.f kj6 (y142 ++ [rd t102 t106]) t124).bind fun bt149 => (if bt149.2 = 0 then (if bt149.1 = true then (Ad.j1 kj6 l0) else (some false)) else (some false))) else (none)) else (none))) else (none))) else (none)) else (none)) = some r := by first | (rw [hji42] at H; exact H) | (simp only [hji42] at H ⊢; exact H)
      (try rw [hji42] at A35)
      (try rw [hji42] at A37)
      have hji42w : (IntKind.i64.wrap (t106 + 1)) = ji42 := (Ec _).trans hji42
      by_cases c43 : 0 ≤ (ji42)
      case neg => rw [if_neg c43] at H; exact absurd H (by simp)
      rw [if_pos c43] at H
      have c43b0 := eq_true c43
      have c43b1 := decide_eq_true c43
      clear c43
      by_cases c44 : (ji42) ≤ (t102.length : Int)
      case neg => rw [if_neg c44] at H; exact absurd H (by simp)
      rw [if_pos c44] at H
      have c44b0 := eq_true c44
      have c44b1 := decide_eq_true c44
      clear c44
      obtain ⟨y138, hy138, H⟩ := zY H
      try dsimp only at H
      have Ny138 := Aa.mk hy138
      clear hy138
      by_cases c45 : y135.length + y138.length < 17592186044416
      case neg => rw [if_neg c45] at H; exact absurd H (by simp)
      rw [if_pos c45] at H
      have LMc45 := Aa.mk c45
      clear c45
      obtain ⟨y142, hy142, H⟩ := zY H
      try dsimp only at H
      have Ny142 := Aa.mk hy142
      clear hy142
      by_cases c46 : t106 < (t102.length : Int)
      case neg => rw [if_neg c46] at H; exact absurd H (by simp)
      rw [if_pos c46] at H
      have c46b0 := decide_eq_true c46
      clear c46
      by_cases c47 : y142.length < 17592186044416
      case neg => rw [if_neg c47] at H; exact absurd H (by simp)
      rw [if_pos c47] at H
      have LMc47 := Aa.mk c47
      clear c47
      obtain ⟨y146, hy146⟩ : ∃ y_ : List Int, y_ = (y142 ++ [rd t102 t106]) := ⟨_, rfl⟩
      replace H : ((Dy.f kj6 y146 t124).bind fun bt149 => (if bt149.2 = 0 then (if bt149.1 = true then (Ad.j1 kj6 l0) else (some false)) else (some false))) = some r := zH hy146
      have Ny146 := Aa.mk hy146
      clear hy146
      obtain ⟨⟨t149, t150⟩, A48, H⟩ := zO H
      try dsimp only at H
      by_cases c49 : t150 = 0
      case neg =>
       rw [if_neg c49] at H
       have c49b0 : (t150 == 0) = false := beq_eq_false_iff_ne.mpr c49
       have c49b1 : (t150 != 0) = true := bne_iff_ne.mpr c49
       obtain rfl := Option.some.inj H
       have hnb85 := NB112_107.out
       have hnc85 := NB107_112.out
       obtain ⟨hcz86_0, hfz86_0⟩ := zw BK112.out
       try go_wp2_with (first | (refine gK 9 ?_; refine gL 92 Tryz.func9 #[.agg #[.slice Ao14 t108.length co14]] ?_; (with_reducible refine (Ci.calls kj6 _ _ t108 t119 t122 t123 _ ?side1 ?side2 A35.out).mono ?_); (case side1 => exact zC (Kd.Ae HO_113000.out).2.2); (case side2 => exact (Kd.Ae HO_113000.out).2.1); rintro e w87 ⟨v120, rfl, ho0, hb⟩; refine ⟨_, rfl, ?_⟩; have n_ := y6 (Kd.Bu (zR HO_108000.out) (Kd.Bs ho0) hb) (Kd.Bu (zR HO_113000.out) (Kd.Bs ho0) hb) (Kd.Bk (Kd.Bt (Kd.Bt ho0 (Kd.Cx (zR HO_108000.out))) (Kd.Cx (zR HO_113000.out))) (An (zB))) (zb BK107.out hb) (zb BK112.out hb) (Ab (zB) hb); clear HO_108000 HO_113000 BK107 BK112 HB; obtain ⟨HO_108000, HO_113000, HO121, BK107, BK112, HB⟩ := n_; (try clear ho0 hb); obtain ⟨Ao88, co88, eo88⟩ := Kd.Bb HO121.out; subst eo88) | (refine gK 10 ?_; refine gL 101 Tryz.func10 #[.slice Ao88 t119.length co88, .int .i64 t105, .int .i64 2] ?_; (with_reducible refine (Dm.calls kj6 _ _ t119 t105 2 t124 t125 _ ?side1 ?side2 A37.out).mono ?_); (case side1 => exact zC (Kd.Ae HO121.out).2.2); (case side2 => exact (Kd.Ae HO121.out).2.1); rintro e w89 ⟨v126, rfl, ho0, hb⟩; refine ⟨_, rfl, ?_⟩; have n_ := y7 (Kd.Bu (zR HO_108000.out) (Kd.Bs ho0) hb) (Kd.Bu (zR HO_113000.out) (Kd.Bs ho0) hb) (Kd.Bu (zR HO121.out) (Kd.Bs ho0) hb) (Kd.Bk (Kd.Bt (Kd.Bt (Kd.Bt ho0 (Kd.Cx (zR HO_108000.out))) (Kd.Cx (zR HO_113000.out))) (Kd.Cx (zR HO121.out))) (An (zB))) (zb BK107.out hb) (zb BK112.out hb) (Ab (zB) hb); clear HO_108000 HO_113000 HO121 BK107 BK112 HB; obtain ⟨HO_108000, HO_113000, HO121, HO127, BK107, BK112, HB⟩ := n_; (try clear ho0 hb)))
       have n_ := y7 (Kd.Ep HO_108000.out) (Kd.Ep HO_113000.out) (Kd.Ep HO121.out) (Kd.Ep HO127.out) (Ag BK107.out) (Ag BK112.out) (Bz HB.out)
       clear HO_108000 HO_113000 HO121 HO127 BK107 BK112 HB
       obtain ⟨HO_108000, HO_113000, HO121, HO127, BK107, BK112, HB⟩ := n_
       have q91 : (t106 : Int) ≤ ((t102.length : Int) : Int) := zD
       obtain ⟨i091, hi091, _, hsz91, _⟩ := info_parts Gb
       have hroom91 : t102.length ≤ co10 := (Kd.Ae HO_108000.out).2.1
       have hC91 : Kd.C (Kd.int .i64) _ Ao10 t102.length t102 := (Kd.Ae HO_108000.out).2.2
       have hcut91 := Ri (P := Tryz.prog) 24 2 .i64 Tryz.underlying24 hi091 Ao10 t102.length co10 t106 (zD) q91 hroom91
       have hr91 := Kd.Nb (m := (t106 : Int).toNat) hC91 (by omega)
       have hy91 : y131.length = (t106 : Int).toNat := (by rw [Ny131.out, List.length_take]; omega)
       rw [← Ny131.out] at hr91
       rw [← hy91] at hcut91
       have HR134 := Aa.mk hr91
       have HC134 := Aa.mk (show y131.length ≤ co10 from by omega)
       clear hr91 hC91 hroom91 hi091 hsz91
       have KY91 := Aa.mk hy91
       clear hy91
       have KL91 := Aa.mk (show (t106 : Int).toNat ≤ t102.length from by omega)
       replace q91 := eq_true q91
       have q92 : ((ji42) : Int) ≤ ((t102.length : Int) : Int) := zD
       obtain ⟨i092, hi092, _, hsz92, _⟩ := info_parts Gb
       have hroom92 : t102.length ≤ co10 := (Kd.Ae HO_108000.out).2.1
       have hC92 : Kd.C (Kd.int .i64) _ Ao10 t102.length t102 := (Kd.Ae HO_108000.out).2.2
       have q092 : (0 : Int) ≤ ((ji42) : Int) := zD
       have hcut92 := Qd (P := Tryz.prog) 24 2 .i64 Tryz.underlying24 hi092 1 hsz92 Ao10 t102.length co10 (ji42) q092 q92
       have hr92 := Kd.Nd (m := ((ji42) : Int).toNat) (c := co10) hC92 (by omega) hroom92
       obtain ⟨A92, hA92⟩ : ∃ A1, A1 = (if co10 = ((ji42) : Int).toNat then Ao10 else (Ao10 : Option Addr).map (·.add (((ji42) : Int).toNat * 1))) := ⟨_, rfl⟩
       obtain ⟨c92, hc92⟩ : ∃ c1, c1 = co10 - ((ji42) : Int).toNat := ⟨_, rfl⟩
       have hy92 : y138.length = t102.length - ((ji42) : Int).toNat := (by rw [Ny138.out, List.length_drop] <;> omega)
       rw [show (t102).drop ((ji42) : Int).toNat = y138 from Ny138.out.symm] at hr92
       replace hr92 : Kd.C (Kd.int .i64) _ A92 y138.length y138 := (by rw [hA92]; exact hr92)
       rw [← hy92, ← hA92, ← hc92] at hcut92
       have HR141 := Aa.mk hr92
       have HC141 := Aa.mk (show y138.length ≤ c92 from by rw [hy92, hc92]; exact Nat.sub_le_sub_right hroom92 _)
       clear hr92 hC92 hroom92 hi092 hsz92 hc92
       have KY92 := Aa.mk hy92
       have KA92 := Aa.mk hA92
       clear hy92 hA92
       have KL92 := Aa.mk (show ((ji42) : Int).toNat ≤ t102.length from by omega)
       replace q92 := eq_true q92
       refine Fg (n := 13) (S := fun w' => w'.cell? ⟨gb107, 0, none⟩ = some (.slice Ao10 t102.length co10)) (ds := []) #[false,false,false,false,false,false,false,false,false,false,false,false,false] zk rfl rfl ((Au BK107.out 0).trans rfl) (fun hHeld => ?_); refine Eh Ad.tab13 Ad.bits13 (fun HT_ HW_ => ?_)
       generalize w89.drew = w90 at HO_108000 HO_113000 HO121 HO127 BK107 BK112 HB HR134 HR141 hHeld ⊢
       refine pT 1 107 HT_ ?_
       refine pT 3 109 HT_ ?_
       refine pT 6 112 HT_ ?_
       refine pT 8 114 HT_ ?_
       refine pT 9 115 HT_ ?_
       refine tT 2 108 HT_ HW_ hHeld ?_
       refine pT 4 110 HT_ ?_
       refine tT 7 113 HT_ HW_ hHeld ?_
       refine pT 10 116 HT_ ?_
       refine Fk (i := 0) (N := some 106) #[true,true,true,true,true,false,true,true,true,true,true,false,false] rfl rfl (Db HT_.out zk) (by decide) (fun K hK => ?_)
       refine Kd.Lu (Kd.int .i64) _ 2 ?hg (N := 106) ?hd (xs := ([] : List Int)) (inner := []) (ok := fun _ => True) (okp := fun _ => True) ?hr ?hp (fun _ hk => hk) trivial (Below.refl _ _) (Nat.le_refl _) (by simp) ?_; (case hd => rfl); (case hg => rfl); (case hr => first | (go_simp; done) | (go_simp; rfl)); (case hp => exact (Dk.none _ _))
       intro v129 w93 ho94 hb hg_ hnew_
       clear hg_ hnew_
       (first | rw [← Ny128.out] at ho94 | (simp only [Int.reduceToNat] at ho94; rw [← Ny128.out] at ho94))
       have n_ := y10 (Kd.Bu (zR HO_108000.out) (Kd.Bs ho94) hb) (Kd.Bu (zR HO_113000.out) (Kd.Bs ho94) hb) (Kd.Bu (zR HO121.out) (Kd.Bs ho94) hb) (Kd.Bu (zR HO127.out) (Kd.Bs ho94) hb) (Kd.Bk (Kd.Bt (Kd.Bt (Kd.Bt (Kd.Bt ho94 (Kd.Cx (zR HO_108000.out))) (Kd.Cx (zR HO_113000.out))) (Kd.Cx (zR HO121.out))) (Kd.Cx (zR HO127.out))) (An (zB))) (zb BK107.out hb) (zb BK112.out hb) (Kd.Bh (by repeat (first | (with_reducible exact HR134.out) | (with_reducible refine Kd.Fb ?_ _) | (with_reducible refine Kd.Fa ?_ _) | (with_reducible refine Kd.Fv ?_) | exact HR134.out)) hb) (Kd.Bh (by repeat (first | (with_reducible exact HR141.out) | (with_reducible refine Kd.Fb ?_ _) | (with_reducible refine Kd.Fa ?_ _) | (with_reducible refine Kd.Fv ?_) | exact HR141.out)) hb) (Ab (zB) hb)
       clear HO_108000 HO_113000 HO121 HO127 BK107 BK112 HR134 HR141 HB
       obtain ⟨HO_108000, HO_113000, HO121, HO127, HO130, BK107, BK112, HR134, HR141, HB⟩ := n_
       clear hb ho94
       refine hK.out _ _ ((Au BK107.out 0).trans rfl) (fun hHeld => ?_)
       clear hK K
       refine nT 106 ?_
       refine Fk (i := 5) (N := some 111) #[true,true,true,true,true,true,true,true,true,true,true,false,false] rfl rfl (Db HT_.out zk) (by decide) (fun K hK => ?_)
       refine Kd.Fq (Kd.int .i64) (w0 := w) w.heap.size (by rfl) (.tmp 106) (.tmp 110) 24 2 (.int .i64 0) 8 rfl Tryz.underlying24 Gb rfl (by decide) (by omega) v129 y128 y131 _ _ _ (fun k_ => some k_ ≠ (.slice Ao10 t102.length co10 : Value).ownBlock ∧ some k_ ≠ (.slice Ao14 t108.length co14 : Value).ownBlock ∧ some k_ ≠ (.slice Ao88 t119.length co88 : Value).ownBlock ∧ some k_ ≠ (v126 : Value).ownBlock) (fun _ => False) rfl rfl ?aO ?aR (fun _ _ h => h) (fun _ h => h.elim) ?aF ?aB ?aS ?aL ?_
       (case aR => repeat (first | exact (by repeat (first | (with_reducible exact HR134.out) | (with_reducible refine Kd.Fb ?_ _) | (with_reducible refine Kd.Fa ?_ _) | (with_reducible refine Kd.Fv ?_) | exact HR134.out)) | (with_reducible refine Kd.Fb ?_ _) | (with_reducible refine Kd.Fa ?_ _) | (with_reducible refine Kd.Fv ?_)))
       (case aB => exact (zB))
       (case aF => exact (fun k_ hk => ⟨Kd.fresh' (Kd.Cx (zR HO_108000.out)) k_ hk, Kd.fresh' (Kd.Cx (zR HO_113000.out)) k_ hk, Kd.fresh' (Kd.Cx (zR HO121.out)) k_ hk, Kd.fresh' (Kd.Cx (zR HO127.out)) k_ hk⟩))
       (case aO => exact (by refine zR ?_; exact Kd.Ai HO130.out (fun _ hk => ⟨hk.1.1.1.2, ⟨hk.1.1.2, ⟨hk.1.2, hk.2⟩⟩⟩)))
       (case aS => exact (An (zB)))
       (case aL => have := LMc41.out; omega)
       intro v136 w95 ho hb hg hat
       rw [← Ny135.out] at ho
       have n_ := y10 (Kd.Cp (ok := (fun k_ => some k_ ≠ (.slice Ao14 t108.length co14 : Value).ownBlock ∧ some k_ ≠ (.slice Ao88 t119.length co88 : Value).ownBlock ∧ some k_ ≠ (v126 : Value).ownBlock)) (by refine zR ?_; exact Kd.Ai HO_108000.out (fun _ hk => ⟨⟨hk.1.1.1, ⟨hk.1.1.2, hk.1.2⟩⟩, hk.2⟩)) hg hat) (Kd.Cp (ok := (fun k_ => some k_ ≠ (.slice Ao10 t102.length co10 : Value).ownBlock ∧ some k_ ≠ (.slice Ao88 t119.length co88 : Value).ownBlock ∧ some k_ ≠ (v126 : Value).ownBlock)) (by refine zR ?_; exact Kd.Ai HO_113000.out (fun _ hk => ⟨⟨hk.1.1.1, ⟨hk.1.1.2, hk.1.2⟩⟩, hk.2⟩)) hg hat) (Cm (g := gb107) (o := .cells #[.slice Ao10 t102.length co10] 26 (0, 0)) (zG BK107.out) hg (Kd.Em HO130.out BK107.out (by decide))) (Cm (g := gb112) (o := .cells #[.slice Ao14 t108.length co14] 26 (0, 0)) (zG BK112.out) hg (Kd.Em HO130.out BK112.out (by decide))) (Kd.Cp (ok := (fun k_ => some k_ ≠ (.slice Ao10 t102.length co10 : Value).ownBlock ∧ some k_ ≠ (.slice Ao14 t108.length co14 : Value).ownBlock ∧ some k_ ≠ (v126 : Value).ownBlock)) (by refine zR ?_; exact Kd.Ai HO121.out (fun _ hk => ⟨⟨hk.1.1.1.2, ⟨hk.1.1.2, hk.1.2⟩⟩, hk.2⟩)) hg hat) (Kd.Cp (ok := (fun k_ => some k_ ≠ (.slice Ao10 t102.length co10 : Value).ownBlock ∧ some k_ ≠ (.slice Ao14 t108.length co14 : Value).ownBlock ∧ some k_ ≠ (.slice Ao88 t119.length co88 : Value).ownBlock)) (by refine zR ?_; exact Kd.Ai HO127.out (fun _ hk => ⟨⟨hk.1.1.1.2, ⟨hk.1.1.2, hk.1.2⟩⟩, hk.2⟩)) hg hat) (hb) ((show Kd.C (Kd.int .i64) w95 Ao10 y131.length y131 from by rw [Ny131.out]; exact Kd.Nb (m := (t106 : Int).toNat) ((Kd.Ae (Kd.Cp (ok := (fun k_ => some k_ ≠ (.slice Ao14 t108.length co14 : Value).ownBlock ∧ some k_ ≠ (.slice Ao88 t119.length co88 : Value).ownBlock ∧ some k_ ≠ (v126 : Value).ownBlock)) (by refine zR ?_; exact Kd.Ai HO_108000.out (fun _ hk => ⟨⟨hk.1.1.1, ⟨hk.1.1.2, hk.1.2⟩⟩, hk.2⟩)) hg hat)).2.2) KL91.out)) ((show Kd.C (Kd.int .i64) w95 A92 y138.length y138 from by rw [Ny138.out, KA92.out]; exact Kd.Nd (m := ((ji42) : Int).toNat) (c := co10) ((Kd.Ae (Kd.Cp (ok := (fun k_ => some k_ ≠ (.slice Ao14 t108.length co14 : Value).ownBlock ∧ some k_ ≠ (.slice Ao88 t119.length co88 : Value).ownBlock ∧ some k_ ≠ (v126 : Value).ownBlock)) (by refine zR ?_; exact Kd.Ai HO_108000.out (fun _ hk => ⟨⟨hk.1.1.1, ⟨hk.1.1.2, hk.1.2⟩⟩, hk.2⟩)) hg hat)).2.2) KL92.out ((Kd.Ae (Kd.Cp (ok := (fun k_ => some k_ ≠ (.slice Ao14 t108.length co14 : Value).ownBlock ∧ some k_ ≠ (.slice Ao88 t119.length co88 : Value).ownBlock ∧ some k_ ≠ (v126 : Value).ownBlock)) (by refine zR ?_; exact Kd.Ai HO_108000.out (fun _ hk => ⟨⟨hk.1.1.1, ⟨hk.1.1.2, hk.1.2⟩⟩, hk.2⟩)) hg hat)).2.1))) (ho)
       clear HO_108000 HO_113000 BK107 BK112 HO121 HO127 HB HR134 HR141 HO130
       obtain ⟨HO_108000, HO_113000, BK107, BK112, HO121, HO127, HB, HR134, HR141, HO137⟩ := n_
       clear ho hb hg hat
       refine hK.out _ _ ((Au BK107.out 0).trans rfl) (fun hHeld => ?_)
       clear hK K
       refine nT 111 ?_
       refine Fk (i := 11) (N := some 117) #[true,true,true,true,true,true,true,true,true,true,true,true,false] rfl rfl (Db HT_.out zk) (by decide) (fun K hK => ?_)
       refine Kd.Fq (Kd.int .i64) (w0 := w) w.heap.size (by rfl) (.tmp 111) (.tmp 116) 24 2 (.int .i64 0) 8 rfl Tryz.underlying24 Gb rfl (by decide) (by omega) v136 y135 y138 _ _ _ (fun k_ => some k_ ≠ (.slice Ao10 t102.length co10 : Value).ownBlock ∧ some k_ ≠ (.slice Ao14 t108.length co14 : Value).ownBlock ∧ some k_ ≠ (.slice Ao88 t119.length co88 : Value).ownBlock ∧ some k_ ≠ (v126 : Value).ownBlock) (fun _ => False) rfl rfl ?aO ?aR (fun _ _ h => h) (fun _ h => h.elim) ?aF ?aB ?aS ?aL ?_
       (case aR => repeat (first | exact (by repeat (first | (with_reducible exact HR141.out) | (with_reducible refine Kd.Fb ?_ _) | (with_reducible refine Kd.Fa ?_ _) | (with_reducible refine Kd.Fv ?_) | exact HR141.out)) | (with_reducible refine Kd.Fb ?_ _) | (with_reducible refine Kd.Fa ?_ _) | (with_reducible refine Kd.Fv ?_)))
       (case aB => exact (zB))
       (case aF => exact (fun k_ hk => ⟨Kd.fresh' (Kd.Cx (zR HO_108000.out)) k_ hk, Kd.fresh' (Kd.Cx (zR HO_113000.out)) k_ hk, Kd.fresh' (Kd.Cx (zR HO121.out)) k_ hk, Kd.fresh' (Kd.Cx (zR HO127.out)) k_ hk⟩))
       (case aO => exact (zR HO137.out))
       (case aS => exact (An (zB)))
       (case aL => have := LMc45.out; omega)
       intro v143 w96 ho hb hg hat
       rw [← Ny142.out] at ho
       have n_ := y10 (Kd.Cp (ok := (fun k_ => some k_ ≠ (.slice Ao14 t108.length co14 : Value).ownBlock ∧ some k_ ≠ (.slice Ao88 t119.length co88 : Value).ownBlock ∧ some k_ ≠ (v126 : Value).ownBlock)) (zR HO_108000.out) hg hat) (Kd.Cp (ok := (fun k_ => some k_ ≠ (.slice Ao10 t102.length co10 : Value).ownBlock ∧ some k_ ≠ (.slice Ao88 t119.length co88 : Value).ownBlock ∧ some k_ ≠ (v126 : Value).ownBlock)) (zR HO_113000.out) hg hat) (Cm (g := gb107) (o := .cells #[.slice Ao10 t102.length co10] 26 (0, 0)) (zG BK107.out) hg (Kd.Em HO137.out BK107.out (by decide))) (Cm (g := gb112) (o := .cells #[.slice Ao14 t108.length co14] 26 (0, 0)) (zG BK112.out) hg (Kd.Em HO137.out BK112.out (by decide))) (Kd.Cp (ok := (fun k_ => some k_ ≠ (.slice Ao10 t102.length co10 : Value).ownBlock ∧ some k_ ≠ (.slice Ao14 t108.length co14 : Value).ownBlock ∧ some k_ ≠ (v126 : Value).ownBlock)) (zR HO121.out) hg hat) (Kd.Cp (ok := (fun k_ => some k_ ≠ (.slice Ao10 t102.length co10 : Value).ownBlock ∧ some k_ ≠ (.slice Ao14 t108.length co14 : Value).ownBlock ∧ some k_ ≠ (.slice Ao88 t119.length co88 : Value).ownBlock)) (zR HO127.out) hg hat) (hb) ((show Kd.C (Kd.int .i64) w96 Ao10 y131.length y131 from by rw [Ny131.out]; exact Kd.Nb (m := (t106 : Int).toNat) ((Kd.Ae (Kd.Cp (ok := (fun k_ => some k_ ≠ (.slice Ao14 t108.length co14 : Value).ownBlock ∧ some k_ ≠ (.slice Ao88 t119.length co88 : Value).ownBlock ∧ some k_ ≠ (v126 : Value).ownBlock)) (zR HO_108000.out) hg hat)).2.2) KL91.out)) ((show Kd.C (Kd.int .i64) w96 A92 y138.length y138 from by rw [Ny138.out, KA92.out]; exact Kd.Nd (m := ((ji42) : Int).toNat) (c := co10) ((Kd.Ae (Kd.Cp (ok := (fun k_ => some k_ ≠ (.slice Ao14 t108.length co14 : Value).ownBlock ∧ some k_ ≠ (.slice Ao88 t119.length co88 : Value).ownBlock ∧ some k_ ≠ (v126 : Value).ownBlock)) (zR HO_108000.out) hg hat)).2.2) KL92.out ((Kd.Ae (Kd.Cp (ok := (fun k_ => some k_ ≠ (.slice Ao14 t108.length co14 : Value).ownBlock ∧ some k_ ≠ (.slice Ao88 t119.length co88 : Value).ownBlock ∧ some k_ ≠ (v126 : Value).ownBlock)) (zR HO_108000.out) hg hat)).2.1))) (ho)
       clear HO_108000 HO_113000 BK107 BK112 HO121 HO127 HB HR134 HR141 HO137
       obtain ⟨HO_108000, HO_113000, BK107, BK112, HO121, HO127, HB, HR134, HR141, HO144⟩ := n_
       clear ho hb hg hat
       refine hK.out _ _ ((Au BK107.out 0).trans rfl) (fun hHeld => ?_)
       clear hK K
       refine nT 117 ?_
       refine pT 12 15 HT_ ?_
       refine Gf (Fo HT_.out zk) ?_
       obtain ⟨hcz97_0, hfz97_0⟩ := zw BK107.out
       have p145 : 0 ≤ (t106 : Int) := zD
       have q145 : t106 < (t102.length : Int) := zD
       obtain ⟨ad145, e145, hx145_0⟩ := Kd.Cv (Kd.Ae HO_108000.out).2.2 t106 p145 q145
       cases e145
       replace p145 := eq_true p145
       replace q145 := eq_true q145
       try go_wp2_with (first | ((with_reducible refine Dp (b := .append) (xs := #[.tmp 119, .tmp 125]) rfl ?_); (try (refine Ed (by rfl) ?_; dsimp only)); at_builtin; refine Kd.Gk (Kd.int .i64) (w0 := w) w.heap.size rfl (.tmp 119) (.tmp 125) 24 2 (.int .i64 0) 8 rfl Tryz.underlying24 Gb rfl (by decide) (by omega) v143 y142 (rd t102 t106) [.int .i64 (rd t102 t106)] (fun k_ => some k_ ≠ (.slice (some ad145) t102.length co10 : Value).ownBlock ∧ some k_ ≠ (.slice Ao14 t108.length co14 : Value).ownBlock ∧ some k_ ≠ (.slice Ao88 t119.length co88 : Value).ownBlock ∧ some k_ ≠ (v126 : Value).ownBlock) (fun _ => False) rfl rfl ?aP (fun _ hk => hk.elim) ?aF ?aO ?aB ?aS ?aL ?_; (case aP => exact rfl); (case aB => exact (zB)); (case aF => exact (fun k_ hk => ⟨Kd.fresh' (Kd.Cx (zR HO_108000.out)) k_ hk, Kd.fresh' (Kd.Cx (zR HO_113000.out)) k_ hk, Kd.fresh' (Kd.Cx (zR HO121.out)) k_ hk, Kd.fresh' (Kd.Cx (zR HO127.out)) k_ hk⟩)); (case aO => exact (zR HO144.out)); (case aS => exact (An (zB))); (case aL => have := LMc47.out; omega); intro v147 w98 ho hb hg hat; rw [← Ny146.out] at ho; have n_ := y10 (Kd.Cp (ok := (fun k_ => some k_ ≠ (.slice Ao14 t108.length co14 : Value).ownBlock ∧ some k_ ≠ (.slice Ao88 t119.length co88 : Value).ownBlock ∧ some k_ ≠ (v126 : Value).ownBlock)) (zR HO_108000.out) hg hat) (Kd.Cp (ok := (fun k_ => some k_ ≠ (.slice (some ad145) t102.length co10 : Value).ownBlock ∧ some k_ ≠ (.slice Ao88 t119.length co88 : Value).ownBlock ∧ some k_ ≠ (v126 : Value).ownBlock)) (zR HO_113000.out) hg hat) (Cm (g := gb107) (o := .cells #[.slice (some ad145) t102.length co10] 26 (0, 0)) (zG BK107.out) hg (Kd.Em HO144.out BK107.out (by decide))) (Cm (g := gb112) (o := .cells #[.slice Ao14 t108.length co14] 26 (0, 0)) (zG BK112.out) hg (Kd.Em HO144.out BK112.out (by decide))) (Kd.Cp (ok := (fun k_ => some k_ ≠ (.slice (some ad145) t102.length co10 : Value).ownBlock ∧ some k_ ≠ (.slice Ao14 t108.length co14 : Value).ownBlock ∧ some k_ ≠ (v126 : Value).ownBlock)) (zR HO121.out) hg hat) (Kd.Cp (ok := (fun k_ => some k_ ≠ (.slice (some ad145) t102.length co10 : Value).ownBlock ∧ some k_ ≠ (.slice Ao14 t108.length co14 : Value).ownBlock ∧ some k_ ≠ (.slice Ao88 t119.length co88 : Value).ownBlock)) (zR HO127.out) hg hat) (hb) ((show Kd.C (Kd.int .i64) w98 (some ad145) y131.length y131 from by rw [Ny131.out]; exact Kd.Nb (m := (t106 : Int).toNat) ((Kd.Ae (Kd.Cp (ok := (fun k_ => some k_ ≠ (.slice Ao14 t108.length co14 : Value).ownBlock ∧ some k_ ≠ (.slice Ao88 t119.length co88 : Value).ownBlock ∧ some k_ ≠ (v126 : Value).ownBlock)) (zR HO_108000.out) hg hat)).2.2) KL91.out)) ((show Kd.C (Kd.int .i64) w98 A92 y138.length y138 from by rw [Ny138.out, KA92.out]; exact Kd.Nd (m := ((ji42) : Int).toNat) (c := co10) ((Kd.Ae (Kd.Cp (ok := (fun k_ => some k_ ≠ (.slice Ao14 t108.length co14 : Value).ownBlock ∧ some k_ ≠ (.slice Ao88 t119.length co88 : Value).ownBlock ∧ some k_ ≠ (v126 : Value).ownBlock)) (zR HO_108000.out) hg hat)).2.2) KL92.out ((Kd.Ae (Kd.Cp (ok := (fun k_ => some k_ ≠ (.slice Ao14 t108.length co14 : Value).ownBlock ∧ some k_ ≠ (.slice Ao88 t119.length co88 : Value).ownBlock ∧ some k_ ≠ (v126 : Value).ownBlock)) (zR HO_108000.out) hg hat)).2.1))) (ho); clear HO_108000 HO_113000 BK107 BK112 HO121 HO127 HB HR134 HR141 HO144; obtain ⟨HO_108000, HO_113000, BK107, BK112, HO121, HO127, HB, HR134, HR141, HO148⟩ := n_; clear ho hb hg hat; obtain ⟨Ao99, co99, eo99⟩ := Kd.Bb HO148.out; subst eo99; obtain ⟨Ao100, co100, eo100⟩ := Kd.Bb HO127.out; subst eo100) | (refine gK 11 ?_; refine gL 129 Tryz.func11 #[.agg #[.slice Ao99 y146.length co99], .slice Ao100 t124.length co100] ?_; (with_reducible refine (Dy.calls kj6 _ _ y146 _ _ t124 t149 t150 _ ?side1 ?side2 ?side3 ?side4 A48.out).mono ?_); (case side1 => exact zC (Kd.Ae HO148.out).2.2); (case side2 => exact (Kd.Ae HO148.out).2.1); (case side3 => exact zC (Kd.Ae HO127.out).2.2); (case side4 => exact (Kd.Ae HO127.out).2.1); rintro e w101 ⟨rfl, hb⟩; refine ⟨_, rfl, ?_⟩; have n_ := y10 (Kd.Ap (zR HO_108000.out) hb) (Kd.Ap (zR HO_113000.out) hb) (Kd.Ap (zR HO121.out) hb) (Kd.Ap (zR HO127.out) hb) (Kd.Ap (zR HO148.out) hb) (zb BK107.out hb) (zb BK112.out hb) (Kd.Bh (by repeat (first | (with_reducible exact HR134.out) | (with_reducible refine Kd.Fb ?_ _) | (with_reducible refine Kd.Fa ?_ _) | (with_reducible refine Kd.Fv ?_) | exact HR134.out)) hb) (Kd.Bh (by repeat (first | (with_reducible exact HR141.out) | (with_reducible refine Kd.Fb ?_ _) | (with_reducible refine Kd.Fa ?_ _) | (with_reducible refine Kd.Fv ?_) | exact HR141.out)) hb) (Ab (zB) hb); clear HO_108000 HO_113000 HO121 HO127 HO148 BK107 BK112 HR134 HR141 HB; obtain ⟨HO_108000, HO_113000, HO121, HO127, HO148, BK107, BK112, HR134, HR141, HB⟩ := n_; (try clear hb)))
       go_ret
       exact ⟨by first | rfl | (simp [Gn, Gm] <;> rfl) | (simp only [← hji42]; first | rfl | (simp [Gn, Gm] <;> rfl)) | (simp [*, Gn, Gm] <;> rfl), zB⟩
      rw [if_pos c49] at H
      have c49b0 : (t150 == 0) = true := beq_iff_eq.mpr c49
      have c49b1 : (t150 != 0) = false := bne_eq_false_iff_eq.mpr c49
      clear c49
      by_cases c50 : t149 = true
      ·
       as_aux_lemma =>
        subst c50
        rw [if_pos rfl] at H
        have H' := Aa.mk H
        clear H
        have hnb51 := NB112_107.out
        have hnc51 := NB107_112.out
        obtain ⟨hcz52_0, hfz52_0⟩ := zw BK112.out
        try go_wp2_with (first | (refine gK 9 ?_; refine gL 92 Tryz.func9 #[.agg #[.slice Ao14 t108.length co14]] ?_; (with_reducible refine (Ci.calls kj6 _ _ t108 t119 t122 t123 _ ?side1 ?side2 A35.out).mono ?_); (case side1 => exact zC (Kd.Ae HO_113000.out).2.2); (case side2 => exact (Kd.Ae HO_113000.out).2.1); rintro e w53 ⟨v120, rfl, ho0, hb⟩; refine ⟨_, rfl, ?_⟩; have n_ := y6 (Kd.Bu (zR HO_108000.out) (Kd.Bs ho0) hb) (Kd.Bu (zR HO_113000.out) (Kd.Bs ho0) hb) (Kd.Bk (Kd.Bt (Kd.Bt ho0 (Kd.Cx (zR HO_108000.out))) (Kd.Cx (zR HO_113000.out))) (An (zB))) (zb BK107.out hb) (zb BK112.out hb) (Ab (zB) hb); clear HO_108000 HO_113000 BK107 BK112 HB; obtain ⟨HO_108000, HO_113000, HO121, BK107, BK112, HB⟩ := n_; (try clear ho0 hb); obtain ⟨Ao54, co54, eo54⟩ := Kd.Bb HO121.out; subst eo54) | (refine gK 10 ?_; refine gL 101 Tryz.func10 #[.slice Ao54 t119.length co54, .int .i64 t105, .int .i64 2] ?_; (with_reducible refine (Dm.calls kj6 _ _ t119 t105 2 t124 t125 _ ?side1 ?side2 A37.out).mono ?_); (case side1 => exact zC (Kd.Ae HO121.out).2.2); (case side2 => exact (Kd.Ae HO121.out).2.1); rintro e w55 ⟨v126, rfl, ho0, hb⟩; refine ⟨_, rfl, ?_⟩; have n_ := y7 (Kd.Bu (zR HO_108000.out) (Kd.Bs ho0) hb) (Kd.Bu (zR HO_113000.out) (Kd.Bs ho0) hb) (Kd.Bu (zR HO121.out) (Kd.Bs ho0) hb) (Kd.Bk (Kd.Bt (Kd.Bt (Kd.Bt ho0 (Kd.Cx (zR HO_108000.out))) (Kd.Cx (zR HO_113000.out))) (Kd.Cx (zR HO121.out))) (An (zB))) (zb BK107.out hb) (zb BK112.out hb) (Ab (zB) hb); clear HO_108000 HO_113000 HO121 BK107 BK112 HB; obtain ⟨HO_108000, HO_113000, HO121, HO127, BK107, BK112, HB⟩ := n_; (try clear ho0 hb)))
        have n_ := y7 (Kd.Ep HO_108000.out) (Kd.Ep HO_113000.out) (Kd.Ep HO121.out) (Kd.Ep HO127.out) (Ag BK107.out) (Ag BK112.out) (Bz HB.out)
        clear HO_108000 HO_113000 HO121 HO127 BK107 BK112 HB
        obtain ⟨HO_108000, HO_113000, HO121, HO127, BK107, BK112, HB⟩ := n_
        have q57 : (t106 : Int) ≤ ((t102.length : Int) : Int) := zD
        obtain ⟨i057, hi057, _, hsz57, _⟩ := info_parts Gb
        have hroom57 : t102.length ≤ co10 := (Kd.Ae HO_108000.out).2.1
        have hC57 : Kd.C (Kd.int .i64) _ Ao10 t102.length t102 := (Kd.Ae HO_108000.out).2.2
        have hcut57 := Ri (P := Tryz.prog) 24 2 .i64 Tryz.underlying24 hi057 Ao10 t102.length co10 t106 (zD) q57 hroom57
        have hr57 := Kd.Nb (m := (t106 : Int).toNat) hC57 (by omega)
        have hy57 : y131.length = (t106 : Int).toNat := (by rw [Ny131.out, List.length_take]; omega)
        rw [← Ny131.out] at hr57
        rw [← hy57] at hcut57
        have HR134 := Aa.mk hr57
        have HC134 := Aa.mk (show y131.length ≤ co10 from by omega)
        clear hr57 hC57 hroom57 hi057 hsz57
        have KY57 := Aa.mk hy57
        clear hy57
        have KL57 := Aa.mk (show (t106 : Int).toNat ≤ t102.length from by omega)
        replace q57 := eq_true q57
        have q58 : ((ji42) : Int) ≤ ((t102.length : Int) : Int) := zD
        obtain ⟨i058, hi058, _, hsz58, _⟩ := info_parts Gb
        have hroom58 : t102.length ≤ co10 := (Kd.Ae HO_108000.out).2.1
        have hC58 : Kd.C (Kd.int .i64) _ Ao10 t102.length t102 := (Kd.Ae HO_108000.out).2.2
        have q058 : (0 : Int) ≤ ((ji42) : Int) := zD
        have hcut58 := Qd (P := Tryz.prog) 24 2 .i64 Tryz.underlying24 hi058 1 hsz58 Ao10 t102.length co10 (ji42) q058 q58
        have hr58 := Kd.Nd (m := ((ji42) : Int).toNat) (c := co10) hC58 (by omega) hroom58
        obtain ⟨A58, hA58⟩ : ∃ A1, A1 = (if co10 = ((ji42) : Int).toNat then Ao10 else (Ao10 : Option Addr).map (·.add (((ji42) : Int).toNat * 1))) := ⟨_, rfl⟩
        obtain ⟨c58, hc58⟩ : ∃ c1, c1 = co10 - ((ji42) : Int).toNat := ⟨_, rfl⟩
        have hy58 : y138.length = t102.length - ((ji42) : Int).toNat := (by rw [Ny138.out, List.length_drop] <;> omega)
        rw [show (t102).drop ((ji42) : Int).toNat = y138 from Ny138.out.symm] at hr58
        replace hr58 : Kd.C (Kd.int .i64) _ A58 y138.length y138 := (by rw [hA58]; exact hr58)
        rw [← hy58, ← hA58, ← hc58] at hcut58
        have HR141 := Aa.mk hr58
        have HC141 := Aa.mk (show y138.length ≤ c58 from by rw [hy58, hc58]; exact Nat.sub_le_sub_right hroom58 _)
        clear hr58 hC58 hroom58 hi058 hsz58 hc58
        have KY58 := Aa.mk hy58
        have KA58 := Aa.mk hA58
        clear hy58 hA58
        have KL58 := Aa.mk (show ((ji42) : Int).toNat ≤ t102.length from by omega)
        replace q58 := eq_true q58
        refine Fg (n := 13) (S := fun w' => w'.cell? ⟨gb107, 0, none⟩ = some (.slice Ao10 t102.length co10)) (ds := []) #[false,false,false,false,false,false,false,false,false,false,false,false,false] zk rfl rfl ((Au BK107.out 0).trans rfl) (fun hHeld => ?_); refine Eh Ad.tab13 Ad.bits13 (fun HT_ HW_ => ?_)
        generalize w55.drew = w56 at HO_108000 HO_113000 HO121 HO127 BK107 BK112 HB HR134 HR141 hHeld ⊢
        refine pT 1 107 HT_ ?_
        refine pT 3 109 HT_ ?_
        refine pT 6 112 HT_ ?_
        refine pT 8 114 HT_ ?_
        refine pT 9 115 HT_ ?_
        refine tT 2 108 HT_ HW_ hHeld ?_
        refine pT 4 110 HT_ ?_
        refine tT 7 113 HT_ HW_ hHeld ?_
        refine pT 10 116 HT_ ?_
        refine Fk (i := 0) (N := some 106) #[true,true,true,true,true,false,true,true,true,true,true,false,false] rfl rfl (Db HT_.out zk) (by decide) (fun K hK => ?_)
        refine Kd.Lu (Kd.int .i64) _ 2 ?hg (N := 106) ?hd (xs := ([] : List Int)) (inner := []) (ok := fun _ => True) (okp := fun _ => True) ?hr ?hp (fun _ hk => hk) trivial (Below.refl _ _) (Nat.le_refl _) (by simp) ?_; (case hd => rfl); (case hg => rfl); (case hr => first | (go_simp; done) | (go_simp; rfl)); (case hp => exact (Dk.none _ _))
        intro v129 w59 ho60 hb hg_ hnew_
        clear hg_ hnew_
        (first | rw [← Ny128.out] at ho60 | (simp only [Int.reduceToNat] at ho60; rw [← Ny128.out] at ho60))
        have n_ := y10 (Kd.Bu (zR HO_108000.out) (Kd.Bs ho60) hb) (Kd.Bu (zR HO_113000.out) (Kd.Bs ho60) hb) (Kd.Bu (zR HO121.out) (Kd.Bs ho60) hb) (Kd.Bu (zR HO127.out) (Kd.Bs ho60) hb) (Kd.Bk (Kd.Bt (Kd.Bt (Kd.Bt (Kd.Bt ho60 (Kd.Cx (zR HO_108000.out))) (Kd.Cx (zR HO_113000.out))) (Kd.Cx (zR HO121.out))) (Kd.Cx (zR HO127.out))) (An (zB))) (zb BK107.out hb) (zb BK112.out hb) (Kd.Bh (by repeat (first | (with_reducible exact HR134.out) | (with_reducible refine Kd.Fb ?_ _) | (with_reducible refine Kd.Fa ?_ _) | (with_reducible refine Kd.Fv ?_) | exact HR134.out)) hb) (Kd.Bh (by repeat (first | (with_reducible exact HR141.out) | (with_reducible refine Kd.Fb ?_ _) | (with_reducible refine Kd.Fa ?_ _) | (with_reducible refine Kd.Fv ?_) | exact HR141.out)) hb) (Ab (zB) hb)
        clear HO_108000 HO_113000 HO121 HO127 BK107 BK112 HR134 HR141 HB
        obtain ⟨HO_108000, HO_113000, HO121, HO127, HO130, BK107, BK112, HR134, HR141, HB⟩ := n_
        clear hb ho60
        refine hK.out _ _ ((Au BK107.out 0).trans rfl) (fun hHeld => ?_)
        clear hK K
        refine nT 106 ?_
        refine Fk (i := 5) (N := some 111) #[true,true,true,true,true,true,true,true,true,true,true,false,false] rfl rfl (Db HT_.out zk) (by decide) (fun K hK => ?_)
        refine Kd.Fq (Kd.int .i64) (w0 := w) w.heap.size (by rfl) (.tmp 106) (.tmp 110) 24 2 (.int .i64 0) 8 rfl Tryz.underlying24 Gb rfl (by decide) (by omega) v129 y128 y131 _ _ _ (fun k_ => some k_ ≠ (.slice Ao10 t102.length co10 : Value).ownBlock ∧ some k_ ≠ (.slice Ao14 t108.length co14 : Value).ownBlock ∧ some k_ ≠ (.slice Ao54 t119.length co54 : Value).ownBlock ∧ some k_ ≠ (v126 : Value).ownBlock) (fun _ => False) rfl rfl ?aO ?aR (fun _ _ h => h) (fun _ h => h.elim) ?aF ?aB ?aS ?aL ?_
        (case aR => repeat (first | exact (by repeat (first | (with_reducible exact HR134.out) | (with_reducible refine Kd.Fb ?_ _) | (with_reducible refine Kd.Fa ?_ _) | (with_reducible refine Kd.Fv ?_) | exact HR134.out)) | (with_reducible refine Kd.Fb ?_ _) | (with_reducible refine Kd.Fa ?_ _) | (with_reducible refine Kd.Fv ?_)))
        (case aB => exact (zB))
        (case aF => exact (fun k_ hk => ⟨Kd.fresh' (Kd.Cx (zR HO_108000.out)) k_ hk, Kd.fresh' (Kd.Cx (zR HO_113000.out)) k_ hk, Kd.fresh' (Kd.Cx (zR HO121.out)) k_ hk, Kd.fresh' (Kd.Cx (zR HO127.out)) k_ hk⟩))
        (case aO => exact (by refine zR ?_; exact Kd.Ai HO130.out (fun _ hk => ⟨hk.1.1.1.2, ⟨hk.1.1.2, ⟨hk.1.2, hk.2⟩⟩⟩)))
        (case aS => exact (An (zB)))
        (case aL => have := LMc41.out; omega)
        intro v136 w61 ho hb hg hat
        rw [← Ny135.out] at ho
        have n_ := y10 (Kd.Cp (ok := (fun k_ => some k_ ≠ (.slice Ao14 t108.length co14 : Value).ownBlock ∧ some k_ ≠ (.slice Ao54 t119.length co54 : Value).ownBlock ∧ some k_ ≠ (v126 : Value).ownBlock)) (by refine zR ?_; exact Kd.Ai HO_108000.out (fun _ hk => ⟨⟨hk.1.1.1, ⟨hk.1.1.2, hk.1.2⟩⟩, hk.2⟩)) hg hat) (Kd.Cp (ok := (fun k_ => some k_ ≠ (.slice Ao10 t102.length co10 : Value).ownBlock ∧ some k_ ≠ (.slice Ao54 t119.length co54 : Value).ownBlock ∧ some k_ ≠ (v126 : Value).ownBlock)) (by refine zR ?_; exact Kd.Ai HO_113000.out (fun _ hk => ⟨⟨hk.1.1.1, ⟨hk.1.1.2, hk.1.2⟩⟩, hk.2⟩)) hg hat) (Cm (g := gb107) (o := .cells #[.slice Ao10 t102.length co10] 26 (0, 0)) (zG BK107.out) hg (Kd.Em HO130.out BK107.out (by decide))) (Cm (g := gb112) (o := .cells #[.slice Ao14 t108.length co14] 26 (0, 0)) (zG BK112.out) hg (Kd.Em HO130.out BK112.out (by decide))) (Kd.Cp (ok := (fun k_ => some k_ ≠ (.slice Ao10 t102.length co10 : Value).ownBlock ∧ some k_ ≠ (.slice Ao14 t108.length co14 : Value).ownBlock ∧ some k_ ≠ (v126 : Value).ownBlock)) (by refine zR ?_; exact Kd.Ai HO121.out (fun _ hk => ⟨⟨hk.1.1.1.2, ⟨hk.1.1.2, hk.1.2⟩⟩, hk.2⟩)) hg hat) (Kd.Cp (ok := (fun k_ => some k_ ≠ (.slice Ao10 t102.length co10 : Value).ownBlock ∧ some k_ ≠ (.slice Ao14 t108.length co14 : Value).ownBlock ∧ some k_ ≠ (.slice Ao54 t119.length co54 : Value).ownBlock)) (by refine zR ?_; exact Kd.Ai HO127.out (fun _ hk => ⟨⟨hk.1.1.1.2, ⟨hk.1.1.2, hk.1.2⟩⟩, hk.2⟩)) hg hat) (hb) ((show Kd.C (Kd.int .i64) w61 Ao10 y131.length y131 from by rw [Ny131.out]; exact Kd.Nb (m := (t106 : Int).toNat) ((Kd.Ae (Kd.Cp (ok := (fun k_ => some k_ ≠ (.slice Ao14 t108.length co14 : Value).ownBlock ∧ some k_ ≠ (.slice Ao54 t119.length co54 : Value).ownBlock ∧ some k_ ≠ (v126 : Value).ownBlock)) (by refine zR ?_; exact Kd.Ai HO_108000.out (fun _ hk => ⟨⟨hk.1.1.1, ⟨hk.1.1.2, hk.1.2⟩⟩, hk.2⟩)) hg hat)).2.2) KL57.out)) ((show Kd.C (Kd.int .i64) w61 A58 y138.length y138 from by rw [Ny138.out, KA58.out]; exact Kd.Nd (m := ((ji42) : Int).toNat) (c := co10) ((Kd.Ae (Kd.Cp (ok := (fun k_ => some k_ ≠ (.slice Ao14 t108.length co14 : Value).ownBlock ∧ some k_ ≠ (.slice Ao54 t119.length co54 : Value).ownBlock ∧ some k_ ≠ (v126 : Value).ownBlock)) (by refine zR ?_; exact Kd.Ai HO_108000.out (fun _ hk => ⟨⟨hk.1.1.1, ⟨hk.1.1.2, hk.1.2⟩⟩, hk.2⟩)) hg hat)).2.2) KL58.out ((Kd.Ae (Kd.Cp (ok := (fun k_ => some k_ ≠ (.slice Ao14 t108.length co14 : Value).ownBlock ∧ some k_ ≠ (.slice Ao54 t119.length co54 : Value).ownBlock ∧ some k_ ≠ (v126 : Value).ownBlock)) (by refine zR ?_; exact Kd.Ai HO_108000.out (fun _ hk => ⟨⟨hk.1.1.1, ⟨hk.1.1.2, hk.1.2⟩⟩, hk.2⟩)) hg hat)).2.1))) (ho)
        clear HO_108000 HO_113000 BK107 BK112 HO121 HO127 HB HR134 HR141 HO130
        obtain ⟨HO_108000, HO_113000, BK107, BK112, HO121, HO127, HB, HR134, HR141, HO137⟩ := n_
        clear ho hb hg hat
        refine hK.out _ _ ((Au BK107.out 0).trans rfl) (fun hHeld => ?_)
        clear hK K
        refine nT 111 ?_
        refine Fk (i := 11) (N := some 117) #[true,true,true,true,true,true,true,true,true,true,true,true,false] rfl rfl (Db HT_.out zk) (by decide) (fun K hK => ?_)
        refine Kd.Fq (Kd.int .i64) (w0 := w) w.heap.size (by rfl) (.tmp 111) (.tmp 116) 24 2 (.int .i64 0) 8 rfl Tryz.underlying24 Gb rfl (by decide) (by omega) v136 y135 y138 _ _ _ (fun k_ => some k_ ≠ (.slice Ao10 t102.length co10 : Value).ownBlock ∧ some k_ ≠ (.slice Ao14 t108.length co14 : Value).ownBlock ∧ some k_ ≠ (.slice Ao54 t119.length co54 : Value).ownBlock ∧ some k_ ≠ (v126 : Value).ownBlock) (fun _ => False) rfl rfl ?aO ?aR (fun _ _ h => h) (fun _ h => h.elim) ?aF ?aB ?aS ?aL ?_
        (case aR => repeat (first | exact (by repeat (first | (with_reducible exact HR141.out) | (with_reducible refine Kd.Fb ?_ _) | (with_reducible refine Kd.Fa ?_ _) | (with_reducible refine Kd.Fv ?_) | exact HR141.out)) | (with_reducible refine Kd.Fb ?_ _) | (with_reducible refine Kd.Fa ?_ _) | (with_reducible refine Kd.Fv ?_)))
        (case aB => exact (zB))
        (case aF => exact (fun k_ hk => ⟨Kd.fresh' (Kd.Cx (zR HO_108000.out)) k_ hk, Kd.fresh' (Kd.Cx (zR HO_113000.out)) k_ hk, Kd.fresh' (Kd.Cx (zR HO121.out)) k_ hk, Kd.fresh' (Kd.Cx (zR HO127.out)) k_ hk⟩))
        (case aO => exact (zR HO137.out))
        (case aS => exact (An (zB)))
        (case aL => have := LMc45.out; omega)
        intro v143 w62 ho hb hg hat
        rw [← Ny142.out] at ho
        have n_ := y10 (Kd.Cp (ok := (fun k_ => some k_ ≠ (.slice Ao14 t108.length co14 : Value).ownBlock ∧ some k_ ≠ (.slice Ao54 t119.length co54 : Value).ownBlock ∧ some k_ ≠ (v126 : Value).ownBlock)) (zR HO_108000.out) hg hat) (Kd.Cp (ok := (fun k_ => some k_ ≠ (.slice Ao10 t102.length co10 : Value).ownBlock ∧ some k_ ≠ (.slice Ao54 t119.length co54 : Value).ownBlock ∧ some k_ ≠ (v126 : Value).ownBlock)) (zR HO_113000.out) hg hat) (Cm (g := gb107) (o := .cells #[.slice Ao10 t102.length co10] 26 (0, 0)) (zG BK107.out) hg (Kd.Em HO137.out BK107.out (by decide))) (Cm (g := gb112) (o := .cells #[.slice Ao14 t108.length co14] 26 (0, 0)) (zG BK112.out) hg (Kd.Em HO137.out BK112.out (by decide))) (Kd.Cp (ok := (fun k_ => some k_ ≠ (.slice Ao10 t102.length co10 : Value).ownBlock ∧ some k_ ≠ (.slice Ao14 t108.length co14 : Value).ownBlock ∧ some k_ ≠ (v126 : Value).ownBlock)) (zR HO121.out) hg hat) (Kd.Cp (ok := (fun k_ => some k_ ≠ (.slice Ao10 t102.length co10 : Value).ownBlock ∧ some k_ ≠ (.slice Ao14 t108.length co14 : Value).ownBlock ∧ some k_ ≠ (.slice Ao54 t119.length co54 : Value).ownBlock)) (zR HO127.out) hg hat) (hb) ((show Kd.C (Kd.int .i64) w62 Ao10 y131.length y131 from by rw [Ny131.out]; exact Kd.Nb (m := (t106 : Int).toNat) ((Kd.Ae (Kd.Cp (ok := (fun k_ => some k_ ≠ (.slice Ao14 t108.length co14 : Value).ownBlock ∧ some k_ ≠ (.slice Ao54 t119.length co54 : Value).ownBlock ∧ some k_ ≠ (v126 : Value).ownBlock)) (zR HO_108000.out) hg hat)).2.2) KL57.out)) ((show Kd.C (Kd.int .i64) w62 A58 y138.length y138 from by rw [Ny138.out, KA58.out]; exact Kd.Nd (m := ((ji42) : Int).toNat) (c := co10) ((Kd.Ae (Kd.Cp (ok := (fun k_ => some k_ ≠ (.slice Ao14 t108.length co14 : Value).ownBlock ∧ some k_ ≠ (.slice Ao54 t119.length co54 : Value).ownBlock ∧ some k_ ≠ (v126 : Value).ownBlock)) (zR HO_108000.out) hg hat)).2.2) KL58.out ((Kd.Ae (Kd.Cp (ok := (fun k_ => some k_ ≠ (.slice Ao14 t108.length co14 : Value).ownBlock ∧ some k_ ≠ (.slice Ao54 t119.length co54 : Value).ownBlock ∧ some k_ ≠ (v126 : Value).ownBlock)) (zR HO_108000.out) hg hat)).2.1))) (ho)
        clear HO_108000 HO_113000 BK107 BK112 HO121 HO127 HB HR134 HR141 HO137
        obtain ⟨HO_108000, HO_113000, BK107, BK112, HO121, HO127, HB, HR134, HR141, HO144⟩ := n_
        clear ho hb hg hat
        refine hK.out _ _ ((Au BK107.out 0).trans rfl) (fun hHeld => ?_)
        clear hK K
        refine nT 117 ?_
        refine pT 12 15 HT_ ?_
        refine Gf (Fo HT_.out zk) ?_
        obtain ⟨hcz63_0, hfz63_0⟩ := zw BK107.out
        have p145 : 0 ≤ (t106 : Int) := zD
        have q145 : t106 < (t102.length : Int) := zD
        obtain ⟨ad145, e145, hx145_0⟩ := Kd.Cv (Kd.Ae HO_108000.out).2.2 t106 p145 q145
        cases e145
        replace p145 := eq_true p145
        replace q145 := eq_true q145
        try go_wp2_with (first | ((with_reducible refine Dp (b := .append) (xs := #[.tmp 119, .tmp 125]) rfl ?_); (try (refine Ed (by rfl) ?_; dsimp only)); at_builtin; refine Kd.Gk (Kd.int .i64) (w0 := w) w.heap.size rfl (.tmp 119) (.tmp 125) 24 2 (.int .i64 0) 8 rfl Tryz.underlying24 Gb rfl (by decide) (by omega) v143 y142 (rd t102 t106) [.int .i64 (rd t102 t106)] (fun k_ => some k_ ≠ (.slice (some ad145) t102.length co10 : Value).ownBlock ∧ some k_ ≠ (.slice Ao14 t108.length co14 : Value).ownBlock ∧ some k_ ≠ (.slice Ao54 t119.length co54 : Value).ownBlock ∧ some k_ ≠ (v126 : Value).ownBlock) (fun _ => False) rfl rfl ?aP (fun _ hk => hk.elim) ?aF ?aO ?aB ?aS ?aL ?_; (case aP => exact rfl); (case aB => exact (zB)); (case aF => exact (fun k_ hk => ⟨Kd.fresh' (Kd.Cx (zR HO_108000.out)) k_ hk, Kd.fresh' (Kd.Cx (zR HO_113000.out)) k_ hk, Kd.fresh' (Kd.Cx (zR HO121.out)) k_ hk, Kd.fresh' (Kd.Cx (zR HO127.out)) k_ hk⟩)); (case aO => exact (zR HO144.out)); (case aS => exact (An (zB))); (case aL => have := LMc47.out; omega); intro v147 w64 ho hb hg hat; rw [← Ny146.out] at ho; have n_ := y10 (Kd.Cp (ok := (fun k_ => some k_ ≠ (.slice Ao14 t108.length co14 : Value).ownBlock ∧ some k_ ≠ (.slice Ao54 t119.length co54 : Value).ownBlock ∧ some k_ ≠ (v126 : Value).ownBlock)) (zR HO_108000.out) hg hat) (Kd.Cp (ok := (fun k_ => some k_ ≠ (.slice (some ad145) t102.length co10 : Value).ownBlock ∧ some k_ ≠ (.slice Ao54 t119.length co54 : Value).ownBlock ∧ some k_ ≠ (v126 : Value).ownBlock)) (zR HO_113000.out) hg hat) (Cm (g := gb107) (o := .cells #[.slice (some ad145) t102.length co10] 26 (0, 0)) (zG BK107.out) hg (Kd.Em HO144.out BK107.out (by decide))) (Cm (g := gb112) (o := .cells #[.slice Ao14 t108.length co14] 26 (0, 0)) (zG BK112.out) hg (Kd.Em HO144.out BK112.out (by decide))) (Kd.Cp (ok := (fun k_ => some k_ ≠ (.slice (some ad145) t102.length co10 : Value).ownBlock ∧ some k_ ≠ (.slice Ao14 t108.length co14 : Value).ownBlock ∧ some k_ ≠ (v126 : Value).ownBlock)) (zR HO121.out) hg hat) (Kd.Cp (ok := (fun k_ => some k_ ≠ (.slice (some ad145) t102.length co10 : Value).ownBlock ∧ some k_ ≠ (.slice Ao14 t108.length co14 : Value).ownBlock ∧ some k_ ≠ (.slice Ao54 t119.length co54 : Value).ownBlock)) (zR HO127.out) hg hat) (hb) ((show Kd.C (Kd.int .i64) w64 (some ad145) y131.length y131 from by rw [Ny131.out]; exact Kd.Nb (m := (t106 : Int).toNat) ((Kd.Ae (Kd.Cp (ok := (fun k_ => some k_ ≠ (.slice Ao14 t108.length co14 : Value).ownBlock ∧ some k_ ≠ (.slice Ao54 t119.length co54 : Value).ownBlock ∧ some k_ ≠ (v126 : Value).ownBlock)) (zR HO_108000.out) hg hat)).2.2) KL57.out)) ((show Kd.C (Kd.int .i64) w64 A58 y138.length y138 from by rw [Ny138.out, KA58.out]; exact Kd.Nd (m := ((ji42) : Int).toNat) (c := co10) ((Kd.Ae (Kd.Cp (ok := (fun k_ => some k_ ≠ (.slice Ao14 t108.length co14 : Value).ownBlock ∧ some k_ ≠ (.slice Ao54 t119.length co54 : Value).ownBlock ∧ some k_ ≠ (v126 : Value).ownBlock)) (zR HO_108000.out) hg hat)).2.2) KL58.out ((Kd.Ae (Kd.Cp (ok := (fun k_ => some k_ ≠ (.slice Ao14 t108.length co14 : Value).ownBlock ∧ some k_ ≠ (.slice Ao54 t119.length co54 : Value).ownBlock ∧ some k_ ≠ (v126 : Value).ownBlock)) (zR HO_108000.out) hg hat)).2.1))) (ho); clear HO_108000 HO_113000 BK107 BK112 HO121 HO127 HB HR134 HR141 HO144; obtain ⟨HO_108000, HO_113000, BK107, BK112, HO121, HO127, HB, HR134, HR141, HO148⟩ := n_; clear ho hb hg hat; obtain ⟨Ao65, co65, eo65⟩ := Kd.Bb HO148.out; subst eo65; obtain ⟨Ao66, co66, eo66⟩ := Kd.Bb HO127.out; subst eo66) | (refine gK 11 ?_; refine gL 129 Tryz.func11 #[.agg #[.slice Ao65 y146.length co65], .slice Ao66 t124.length co66] ?_; (with_reducible refine (Dy.calls kj6 _ _ y146 _ _ t124 true t150 _ ?side1 ?side2 ?side3 ?side4 A48.out).mono ?_); (case side1 => exact zC (Kd.Ae HO148.out).2.2); (case side2 => exact (Kd.Ae HO148.out).2.1); (case side3 => exact zC (Kd.Ae HO127.out).2.2); (case side4 => exact (Kd.Ae HO127.out).2.1); rintro e w67 ⟨rfl, hb⟩; refine ⟨_, rfl, ?_⟩; have n_ := y10 (Kd.Ap (zR HO_108000.out) hb) (Kd.Ap (zR HO_113000.out) hb) (Kd.Ap (zR HO121.out) hb) (Kd.Ap (zR HO127.out) hb) (Kd.Ap (zR HO148.out) hb) (zb BK107.out hb) (zb BK112.out hb) (Kd.Bh (by repeat (first | (with_reducible exact HR134.out) | (with_reducible refine Kd.Fb ?_ _) | (with_reducible refine Kd.Fa ?_ _) | (with_reducible refine Kd.Fv ?_) | exact HR134.out)) hb) (Kd.Bh (by repeat (first | (with_reducible exact HR141.out) | (with_reducible refine Kd.Fb ?_ _) | (with_reducible refine Kd.Fa ?_ _) | (with_reducible refine Kd.Fv ?_) | exact HR141.out)) hb) (Ab (zB) hb); clear HO_108000 HO_113000 HO121 HO127 HO148 BK107 BK112 HR134 HR141 HB; obtain ⟨HO_108000, HO_113000, HO121, HO127, HO148, BK107, BK112, HR134, HR141, HB⟩ := n_; (try clear hb)))
        go_meet
        case rel => exact ⟨_, H', ⟨by have := HJ6.out; first | omega | exact Nat.le_refl _⟩, ⟨zB⟩⟩
      replace c50 := Bool.eq_false_iff.mpr c50
      subst c50
      rw [if_neg zf] at H
      obtain rfl := Option.some.inj H
      have hnb68 := NB112_107.out
      have hnc68 := NB107_112.out
      obtain ⟨hcz69_0, hfz69_0⟩ := zw BK112.out
      try go_wp2_with (first | (refine gK 9 ?_; refine gL 92 Tryz.func9 #[.agg #[.slice Ao14 t108.length co14]] ?_; (with_reducible refine (Ci.calls kj6 _ _ t108 t119 t122 t123 _ ?side1 ?side2 A35.out).mono ?_); (case side1 => exact zC (Kd.Ae HO_113000.out).2.2); (case side2 => exact (Kd.Ae HO_113000.out).2.1); rintro e w70 ⟨v120, rfl, ho0, hb⟩; refine ⟨_, rfl, ?_⟩; have n_ := y6 (Kd.Bu (zR HO_108000.out) (Kd.Bs ho0) hb) (Kd.Bu (zR HO_113000.out) (Kd.Bs ho0) hb) (Kd.Bk (Kd.Bt (Kd.Bt ho0 (Kd.Cx (zR HO_108000.out))) (Kd.Cx (zR HO_113000.out))) (An (zB))) (zb BK107.out hb) (zb BK112.out hb) (Ab (zB) hb); clear HO_108000 HO_113000 BK107 BK112 HB; obtain ⟨HO_108000, HO_113000, HO121, BK107, BK112, HB⟩ := n_; (try clear ho0 hb); obtain ⟨Ao71, co71, eo71⟩ := Kd.Bb HO121.out; subst eo71) | (refine gK 10 ?_; refine gL 101 Tryz.func10 #[.slice Ao71 t119.length co71, .int .i64 t105, .int .i64 2] ?_; (with_reducible refine (Dm.calls kj6 _ _ t119 t105 2 t124 t125 _ ?side1 ?side2 A37.out).mono ?_); (case side1 => exact zC (Kd.Ae HO121.out).2.2); (case side2 => exact (Kd.Ae HO121.out).2.1); rintro e w72 ⟨v126, rfl, ho0, hb⟩; refine ⟨_, rfl, ?_⟩; have n_ := y7 (Kd.Bu (zR HO_108000.out) (Kd.Bs ho0) hb) (Kd.Bu (zR HO_113000.out) (Kd.Bs ho0) hb) (Kd.Bu (zR HO121.out) (Kd.Bs ho0) hb) (Kd.Bk (Kd.Bt (Kd.Bt (Kd.Bt ho0 (Kd.Cx (zR HO_108000.out))) (Kd.Cx (zR HO_113000.out))) (Kd.Cx (zR HO121.out))) (An (zB))) (zb BK107.out hb) (zb BK112.out hb) (Ab (zB) hb); clear HO_108000 HO_113000 HO121 BK107 BK112 HB; obtain ⟨HO_108000, HO_113000, HO121, HO127, BK107, BK112, HB⟩ := n_; (try clear ho0 hb)))
      have n_ := y7 (Kd.Ep HO_108000.out) (Kd.Ep HO_113000.out) (Kd.Ep HO121.out) (Kd.Ep HO127.out) (Ag BK107.out) (Ag BK112.out) (Bz HB.out)
      clear HO_108000 HO_113000 HO121 HO127 BK107 BK112 HB
      obtain ⟨HO_108000, HO_113000, HO121, HO127, BK107, BK112, HB⟩ := n_
      have q74 : (t106 : Int) ≤ ((t102.length : Int) : Int) := zD
      obtain ⟨i074, hi074, _, hsz74, _⟩ := info_parts Gb
      have hroom74 : t102.length ≤ co10 := (Kd.Ae HO_108000.out).2.1
      have hC74 : Kd.C (Kd.int .i64) _ Ao10 t102.length t102 := (Kd.Ae HO_108000.out).2.2
      have hcut74 := Ri (P := Tryz.prog) 24 2 .i64 Tryz.underlying24 hi074 Ao10 t102.length co10 t106 (zD) q74 hroom74
      have hr74 := Kd.Nb (m := (t106 : Int).toNat) hC74 (by omega)
      have hy74 : y131.length = (t106 : Int).toNat := (by rw [Ny131.out, List.length_take]; omega)
      rw [← Ny131.out] at hr74
      rw [← hy74] at hcut74
      have HR134 := Aa.mk hr74
      have HC134 := Aa.mk (show y131.length ≤ co10 from by omega)
      clear hr74 hC74 hroom74 hi074 hsz74
      have KY74 := Aa.mk hy74
      clear hy74
      have KL74 := Aa.mk (show (t106 : Int).toNat ≤ t102.length from by omega)
      replace q74 := eq_true q74
      have q75 : ((ji42) : Int) ≤ ((t102.length : Int) : Int) := zD
      obtain ⟨i075, hi075, _, hsz75, _⟩ := info_parts Gb
      have hroom75 : t102.length ≤ co10 := (Kd.Ae HO_108000.out).2.1
      have hC75 : Kd.C (Kd.int .i64) _ Ao10 t102.length t102 := (Kd.Ae HO_108000.out).2.2
      have q075 : (0 : Int) ≤ ((ji42) : Int) := zD
      have hcut75 := Qd (P := Tryz.prog) 24 2 .i64 Tryz.underlying24 hi075 1 hsz75 Ao10 t102.length co10 (ji42) q075 q75
      have hr75 := Kd.Nd (m := ((ji42) : Int).toNat) (c := co10) hC75 (by omega) hroom75
      obtain ⟨A75, hA75⟩ : ∃ A1, A1 = (if co10 = ((ji42) : Int).toNat then Ao10 else (Ao10 : Option Addr).map (·.add (((ji42) : Int).toNat * 1))) := ⟨_, rfl⟩
      obtain ⟨c75, hc75⟩ : ∃ c1, c1 = co10 - ((ji42) : Int).toNat := ⟨_, rfl⟩
      have hy75 : y138.length = t102.length - ((ji42) : Int).toNat := (by rw [Ny138.out, List.length_drop] <;> omega)
      rw [show (t102).drop ((ji42) : Int).toNat = y138 from Ny138.out.symm] at hr75
      replace hr75 : Kd.C (Kd.int .i64) _ A75 y138.length y138 := (by rw [hA75]; exact hr75)
      rw [← hy75, ← hA75, ← hc75] at hcut75
      have HR141 := Aa.mk hr75
      have HC141 := Aa.mk (show y138.length ≤ c75 from by rw [hy75, hc75]; exact Nat.sub_le_sub_right hroom75 _)
      clear hr75 hC75 hroom75 hi075 hsz75 hc75
      have KY75 := Aa.mk hy75
      have KA75 := Aa.mk hA75
      clear hy75 hA75
      have KL75 := Aa.mk (show ((ji42) : Int).toNat ≤ t102.length from by omega)
      replace q75 := eq_true q75
      refine Fg (n := 13) (S := fun w' => w'.cell? ⟨gb107, 0, none⟩ = some (.slice Ao10 t102.length co10)) (ds := []) #[false,false,false,false,false,false,false,false,false,false,false,false,false] zk rfl rfl ((Au BK107.out 0).trans rfl) (fun hHeld => ?_); refine Eh Ad.tab13 Ad.bits13 (fun HT_ HW_ => ?_)
      generalize w72.drew = w73 at HO_108000 HO_113000 HO121 HO127 BK107 BK112 HB HR134 HR141 hHeld ⊢
      refine pT 1 107 HT_ ?_
      refine pT 3 109 HT_ ?_
      refine pT 6 112 HT_ ?_
      refine pT 8 114 HT_ ?_
      refine pT 9 115 HT_ ?_
      refine tT 2 108 HT_ HW_ hHeld ?_
      refine pT 4 110 HT_ ?_
      refine tT 7 113 HT_ HW_ hHeld ?_
      refine pT 10 116 HT_ ?_
      refine Fk (i := 0) (N := some 106) #[true,true,true,true,true,false,true,true,true,true,true,false,false] rfl rfl (Db HT_.out zk) (by decide) (fun K hK => ?_)
      refine Kd.Lu (Kd.int .i64) _ 2 ?hg (N := 106) ?hd (xs := ([] : List Int)) (inner := []) (ok := fun _ => True) (okp := fun _ => True) ?hr ?hp (fun _ hk => hk) trivial (Below.refl _ _) (Nat.le_refl _) (by simp) ?_; (case hd => rfl); (case hg => rfl); (case hr => first | (go_simp; done) | (go_simp; rfl)); (case hp => exact (Dk.none _ _))
      intro v129 w76 ho77 hb hg_ hnew_
      clear hg_ hnew_
      (first | rw [← Ny128.out] at ho77 | (simp only [Int.reduceToNat] at ho77; rw [← Ny128.out] at ho77))
      have n_ := y10 (Kd.Bu (zR HO_108000.out) (Kd.Bs ho77) hb) (Kd.Bu (zR HO_113000.out) (Kd.Bs ho77) hb) (Kd.Bu (zR HO121.out) (Kd.Bs ho77) hb) (Kd.Bu (zR HO127.out) (Kd.Bs ho77) hb) (Kd.Bk (Kd.Bt (Kd.Bt (Kd.Bt (Kd.Bt ho77 (Kd.Cx (zR HO_108000.out))) (Kd.Cx (zR HO_113000.out))) (Kd.Cx (zR HO121.out))) (Kd.Cx (zR HO127.out))) (An (zB))) (zb BK107.out hb) (zb BK112.out hb) (Kd.Bh (by repeat (first | (with_reducible exact HR134.out) | (with_reducible refine Kd.Fb ?_ _) | (with_reducible refine Kd.Fa ?_ _) | (with_reducible refine Kd.Fv ?_) | exact HR134.out)) hb) (Kd.Bh (by repeat (first | (with_reducible exact HR141.out) | (with_reducible refine Kd.Fb ?_ _) | (with_reducible refine Kd.Fa ?_ _) | (with_reducible refine Kd.Fv ?_) | exact HR141.out)) hb) (Ab (zB) hb)
      clear HO_108000 HO_113000 HO121 HO127 BK107 BK112 HR134 HR141 HB
      obtain ⟨HO_108000, HO_113000, HO121, HO127, HO130, BK107, BK112, HR134, HR141, HB⟩ := n_
      clear hb ho77
      refine hK.out _ _ ((Au BK107.out 0).trans rfl) (fun hHeld => ?_)
      clear hK K
      refine nT 106 ?_
      refine Fk (i := 5) (N := some 111) #[true,true,true,true,true,true,true,true,true,true,true,false,false] rfl rfl (Db HT_.out zk) (by decide) (fun K hK => ?_)
      refine Kd.Fq (Kd.int .i64) (w0 := w) w.heap.size (by rfl) (.tmp 106) (.tmp 110) 24 2 (.int .i64 0) 8 rfl Tryz.underlying24 Gb rfl (by decide) (by omega) v129 y128 y131 _ _ _ (fun k_ => some k_ ≠ (.slice Ao10 t102.length co10 : Value).ownBlock ∧ some k_ ≠ (.slice Ao14 t108.length co14 : Value).ownBlock ∧ some k_ ≠ (.slice Ao71 t119.length co71 : Value).ownBlock ∧ some k_ ≠ (v126 : Value).ownBlock) (fun _ => False) rfl rfl ?aO ?aR (fun _ _ h => h) (fun _ h => h.elim) ?aF ?aB ?aS ?aL ?_
      (case aR => repeat (first | exact (by repeat (first | (with_reducible exact HR134.out) | (with_reducible refine Kd.Fb ?_ _) | (with_reducible refine Kd.Fa ?_ _) | (with_reducible refine Kd.Fv ?_) | exact HR134.out)) | (with_reducible refine Kd.Fb ?_ _) | (with_reducible refine Kd.Fa ?_ _) | (with_reducible refine Kd.Fv ?_)))
      (case aB => exact (zB))
      (case aF => exact (fun k_ hk => ⟨Kd.fresh' (Kd.Cx (zR HO_108000.out)) k_ hk, Kd.fresh' (Kd.Cx (zR HO_113000.out)) k_ hk, Kd.fresh' (Kd.Cx (zR HO121.out)) k_ hk, Kd.fresh' (Kd.Cx (zR HO127.out)) k_ hk⟩))
      (case aO => exact (by refine zR ?_; exact Kd.Ai HO130.out (fun _ hk => ⟨hk.1.1.1.2, ⟨hk.1.1.2, ⟨hk.1.2, hk.2⟩⟩⟩)))
      (case aS => exact (An (zB)))
      (case aL => have := LMc41.out; omega)
      intro v136 w78 ho hb hg hat
      rw [← Ny135.out] at ho
      have n_ := y10 (Kd.Cp (ok := (fun k_ => some k_ ≠ (.slice Ao14 t108.length co14 : Value).ownBlock ∧ some k_ ≠ (.slice Ao71 t119.length co71 : Value).ownBlock ∧ some k_ ≠ (v126 : Value).ownBlock)) (by refine zR ?_; exact Kd.Ai HO_108000.out (fun _ hk => ⟨⟨hk.1.1.1, ⟨hk.1.1.2, hk.1.2⟩⟩, hk.2⟩)) hg hat) (Kd.Cp (ok := (fun k_ => some k_ ≠ (.slice Ao10 t102.length co10 : Value).ownBlock ∧ some k_ ≠ (.slice Ao71 t119.length co71 : Value).ownBlock ∧ some k_ ≠ (v126 : Value).ownBlock)) (by refine zR ?_; exact Kd.Ai HO_113000.out (fun _ hk => ⟨⟨hk.1.1.1, ⟨hk.1.1.2, hk.1.2⟩⟩, hk.2⟩)) hg hat) (Cm (g := gb107) (o := .cells #[.slice Ao10 t102.length co10] 26 (0, 0)) (zG BK107.out) hg (Kd.Em HO130.out BK107.out (by decide))) (Cm (g := gb112) (o := .cells #[.slice Ao14 t108.length co14] 26 (0, 0)) (zG BK112.out) hg (Kd.Em HO130.out BK112.out (by decide))) (Kd.Cp (ok := (fun k_ => some k_ ≠ (.slice Ao10 t102.length co10 : Value).ownBlock ∧ some k_ ≠ (.slice Ao14 t108.length co14 : Value).ownBlock ∧ some k_ ≠ (v126 : Value).ownBlock)) (by refine zR ?_; exact Kd.Ai HO121.out (fun _ hk => ⟨⟨hk.1.1.1.2, ⟨hk.1.1.2, hk.1.2⟩⟩, hk.2⟩)) hg hat) (Kd.Cp (ok := (fun k_ => some k_ ≠ (.slice Ao10 t102.length co10 : Value).ownBlock ∧ some k_ ≠ (.slice Ao14 t108.length co14 : Value).ownBlock ∧ some k_ ≠ (.slice Ao71 t119.length co71 : Value).ownBlock)) (by refine zR ?_; exact Kd.Ai HO127.out (fun _ hk => ⟨⟨hk.1.1.1.2, ⟨hk.1.1.2, hk.1.2⟩⟩, hk.2⟩)) hg hat) (hb) ((show Kd.C (Kd.int .i64) w78 Ao10 y131.length y131 from by rw [Ny131.out]; exact Kd.Nb (m := (t106 : Int).toNat) ((Kd.Ae (Kd.Cp (ok := (fun k_ => some k_ ≠ (.slice Ao14 t108.length co14 : Value).ownBlock ∧ some k_ ≠ (.slice Ao71 t119.length co71 : Value).ownBlock ∧ some k_ ≠ (v126 : Value).ownBlock)) (by refine zR ?_; exact Kd.Ai HO_108000.out (fun _ hk => ⟨⟨hk.1.1.1, ⟨hk.1.1.2, hk.1.2⟩⟩, hk.2⟩)) hg hat)).2.2) KL74.out)) ((show Kd.C (Kd.int .i64) w78 A75 y138.length y138 from by rw [Ny138.out, KA75.out]; exact Kd.Nd (m := ((ji42) : Int).toNat) (c := co10) ((Kd.Ae (Kd.Cp (ok := (fun k_ => some k_ ≠ (.slice Ao14 t108.length co14 : Value).ownBlock ∧ some k_ ≠ (.slice Ao71 t119.length co71 : Value).ownBlock ∧ some k_ ≠ (v126 : Value).ownBlock)) (by refine zR ?_; exact Kd.Ai HO_108000.out (fun _ hk => ⟨⟨hk.1.1.1, ⟨hk.1.1.2, hk.1.2⟩⟩, hk.2⟩)) hg hat)).2.2) KL75.out ((Kd.Ae (Kd.Cp (ok := (fun k_ => some k_ ≠ (.slice Ao14 t108.length co14 : Value).ownBlock ∧ some k_ ≠ (.slice Ao71 t119.length co71 : Value).ownBlock ∧ some k_ ≠ (v126 : Value).ownBlock)) (by refine zR ?_; exact Kd.Ai HO_108000.out (fun _ hk => ⟨⟨hk.1.1.1, ⟨hk.1.1.2, hk.1.2⟩⟩, hk.2⟩)) hg hat)).2.1))) (ho)
      clear HO_108000 HO_113000 BK107 BK112 HO121 HO127 HB HR134 HR141 HO130
      obtain ⟨HO_108000, HO_113000, BK107, BK112, HO121, HO127, HB, HR134, HR141, HO137⟩ := n_
      clear ho hb hg hat
      refine hK.out _ _ ((Au BK107.out 0).trans rfl) (fun hHeld => ?_)
      clear hK K
      refine nT 111 ?_
      refine Fk (i := 11) (N := some 117) #[true,true,true,true,true,true,true,true,true,true,true,true,false] rfl rfl (Db HT_.out zk) (by decide) (fun K hK => ?_)
      refine Kd.Fq (Kd.int .i64) (w0 := w) w.heap.size (by rfl) (.tmp 111) (.tmp 116) 24 2 (.int .i64 0) 8 rfl Tryz.underlying24 Gb rfl (by decide) (by omega) v136 y135 y138 _ _ _ (fun k_ => some k_ ≠ (.slice Ao10 t102.length co10 : Value).ownBlock ∧ some k_ ≠ (.slice Ao14 t108.length co14 : Value).ownBlock ∧ some k_ ≠ (.slice Ao71 t119.length co71 : Value).ownBlock ∧ some k_ ≠ (v126 : Value).ownBlock) (fun _ => False) rfl rfl ?aO ?aR (fun _ _ h => h) (fun _ h => h.elim) ?aF ?aB ?aS ?aL ?_
      (case aR => repeat (first | exact (by repeat (first | (with_reducible exact HR141.out) | (with_reducible refine Kd.Fb ?_ _) | (with_reducible refine Kd.Fa ?_ _) | (with_reducible refine Kd.Fv ?_) | exact HR141.out)) | (with_reducible refine Kd.Fb ?_ _) | (with_reducible refine Kd.Fa ?_ _) | (with_reducible refine Kd.Fv ?_)))
      (case aB => exact (zB))
      (case aF => exact (fun k_ hk => ⟨Kd.fresh' (Kd.Cx (zR HO_108000.out)) k_ hk, Kd.fresh' (Kd.Cx (zR HO_113000.out)) k_ hk, Kd.fresh' (Kd.Cx (zR HO121.out)) k_ hk, Kd.fresh' (Kd.Cx (zR HO127.out)) k_ hk⟩))
      (case aO => exact (zR HO137.out))
      (case aS => exact (An (zB)))
      (case aL => have := LMc45.out; omega)
      intro v143 w79 ho hb hg hat
      rw [← Ny142.out] at ho
      have n_ := y10 (Kd.Cp (ok := (fun k_ => some k_ ≠ (.slice Ao14 t108.length co14 : Value).ownBlock ∧ some k_ ≠ (.slice Ao71 t119.length co71 : Value).ownBlock ∧ some k_ ≠ (v126 : Value).ownBlock)) (zR HO_108000.out) hg hat) (Kd.Cp (ok := (fun k_ => some k_ ≠ (.slice Ao10 t102.length co10 : Value).ownBlock ∧ some k_ ≠ (.slice Ao71 t119.length co71 : Value).ownBlock ∧ some k_ ≠ (v126 : Value).ownBlock)) (zR HO_113000.out) hg hat) (Cm (g := gb107) (o := .cells #[.slice Ao10 t102.length co10] 26 (0, 0)) (zG BK107.out) hg (Kd.Em HO137.out BK107.out (by decide))) (Cm (g := gb112) (o := .cells #[.slice Ao14 t108.length co14] 26 (0, 0)) (zG BK112.out) hg (Kd.Em HO137.out BK112.out (by decide))) (Kd.Cp (ok := (fun k_ => some k_ ≠ (.slice Ao10 t102.length co10 : Value).ownBlock ∧ some k_ ≠ (.slice Ao14 t108.length co14 : Value).ownBlock ∧ some k_ ≠ (v126 : Value).ownBlock)) (zR HO121.out) hg hat) (Kd.Cp (ok := (fun k_ => some k_ ≠ (.slice Ao10 t102.length co10 : Value).ownBlock ∧ some k_ ≠ (.slice Ao14 t108.length co14 : Value).ownBlock ∧ some k_ ≠ (.slice Ao71 t119.length co71 : Value).ownBlock)) (zR HO127.out) hg hat) (hb) ((show Kd.C (Kd.int .i64) w79 Ao10 y131.length y131 from by rw [Ny131.out]; exact Kd.Nb (m := (t106 : Int).toNat) ((Kd.Ae (Kd.Cp (ok := (fun k_ => some k_ ≠ (.slice Ao14 t108.length co14 : Value).ownBlock ∧ some k_ ≠ (.slice Ao71 t119.length co71 : Value).ownBlock ∧ some k_ ≠ (v126 : Value).ownBlock)) (zR HO_108000.out) hg hat)).2.2) KL74.out)) ((show Kd.C (Kd.int .i64) w79 A75 y138.length y138 from by rw [Ny138.out, KA75.out]; exact Kd.Nd (m := ((ji42) : Int).toNat) (c := co10) ((Kd.Ae (Kd.Cp (ok := (fun k_ => some k_ ≠ (.slice Ao14 t108.length co14 : Value).ownBlock ∧ some k_ ≠ (.slice Ao71 t119.length co71 : Value).ownBlock ∧ some k_ ≠ (v126 : Value).ownBlock)) (zR HO_108000.out) hg hat)).2.2) KL75.out ((Kd.Ae (Kd.Cp (ok := (fun k_ => some k_ ≠ (.slice Ao14 t108.length co14 : Value).ownBlock ∧ some k_ ≠ (.slice Ao71 t119.length co71 : Value).ownBlock ∧ some k_ ≠ (v126 : Value).ownBlock)) (zR HO_108000.out) hg hat)).2.1))) (ho)
      clear HO_108000 HO_113000 BK107 BK112 HO121 HO127 HB HR134 HR141 HO137
      obtain ⟨HO_108000, HO_113000, BK107, BK112, HO121, HO127, HB, HR134, HR141, HO144⟩ := n_
      clear ho hb hg hat
      refine hK.out _ _ ((Au BK107.out 0).trans rfl) (fun hHeld => ?_)
      clear hK K
      refine nT 117 ?_
      refine pT 12 15 HT_ ?_
      refine Gf (Fo HT_.out zk) ?_
      obtain ⟨hcz80_0, hfz80_0⟩ := zw BK107.out
      have p145 : 0 ≤ (t106 : Int) := zD
      have q145 : t106 < (t102.length : Int) := zD
      obtain ⟨ad145, e145, hx145_0⟩ := Kd.Cv (Kd.Ae HO_108000.out).2.2 t106 p145 q145
      cases e145
      replace p145 := eq_true p145
      replace q145 := eq_true q145
      try go_wp2_with (first | ((with_reducible refine Dp (b := .append) (xs := #[.tmp 119, .tmp 125]) rfl ?_); (try (refine Ed (by rfl) ?_; dsimp only)); at_builtin; refine Kd.Gk (Kd.int .i64) (w0 := w) w.heap.size rfl (.tmp 119) (.tmp 125) 24 2 (.int .i64 0) 8 rfl Tryz.underlying24 Gb rfl (by decide) (by omega) v143 y142 (rd t102 t106) [.int .i64 (rd t102 t106)] (fun k_ => some k_ ≠ (.slice (some ad145) t102.length co10 : Value).ownBlock ∧ some k_ ≠ (.slice Ao14 t108.length co14 : Value).ownBlock ∧ some k_ ≠ (.slice Ao71 t119.length co71 : Value).ownBlock ∧ some k_ ≠ (v126 : Value).ownBlock) (fun _ => False) rfl rfl ?aP (fun _ hk => hk.elim) ?aF ?aO ?aB ?aS ?aL ?_; (case aP => exact rfl); (case aB => exact (zB)); (case aF => exact (fun k_ hk => ⟨Kd.fresh' (Kd.Cx (zR HO_108000.out)) k_ hk, Kd.fresh' (Kd.Cx (zR HO_113000.out)) k_ hk, Kd.fresh' (Kd.Cx (zR HO121.out)) k_ hk, Kd.fresh' (Kd.Cx (zR HO127.out)) k_ hk⟩)); (case aO => exact (zR HO144.out)); (case aS => exact (An (zB))); (case aL => have := LMc47.out; omega); intro v147 w81 ho hb hg hat; rw [← Ny146.out] at ho; have n_ := y10 (Kd.Cp (ok := (fun k_ => some k_ ≠ (.slice Ao14 t108.length co14 : Value).ownBlock ∧ some k_ ≠ (.slice Ao71 t119.length co71 : Value).ownBlock ∧ some k_ ≠ (v126 : Value).ownBlock)) (zR HO_108000.out) hg hat) (Kd.Cp (ok := (fun k_ => some k_ ≠ (.slice (some ad145) t102.length co10 : Value).ownBlock ∧ some k_ ≠ (.slice Ao71 t119.length co71 : Value).ownBlock ∧ some k_ ≠ (v126 : Value).ownBlock)) (zR HO_113000.out) hg hat) (Cm (g := gb107) (o := .cells #[.slice (some ad145) t102.length co10] 26 (0, 0)) (zG BK107.out) hg (Kd.Em HO144.out BK107.out (by decide))) (Cm (g := gb112) (o := .cells #[.slice Ao14 t108.length co14] 26 (0, 0)) (zG BK112.out) hg (Kd.Em HO144.out BK112.out (by decide))) (Kd.Cp (ok := (fun k_ => some k_ ≠ (.slice (some ad145) t102.length co10 : Value).ownBlock ∧ some k_ ≠ (.slice Ao14 t108.length co14 : Value).ownBlock ∧ some k_ ≠ (v126 : Value).ownBlock)) (zR HO121.out) hg hat) (Kd.Cp (ok := (fun k_ => some k_ ≠ (.slice (some ad145) t102.length co10 : Value).ownBlock ∧ some k_ ≠ (.slice Ao14 t108.length co14 : Value).ownBlock ∧ some k_ ≠ (.slice Ao71 t119.length co71 : Value).ownBlock)) (zR HO127.out) hg hat) (hb) ((show Kd.C (Kd.int .i64) w81 (some ad145) y131.length y131 from by rw [Ny131.out]; exact Kd.Nb (m := (t106 : Int).toNat) ((Kd.Ae (Kd.Cp (ok := (fun k_ => some k_ ≠ (.slice Ao14 t108.length co14 : Value).ownBlock ∧ some k_ ≠ (.slice Ao71 t119.length co71 : Value).ownBlock ∧ some k_ ≠ (v126 : Value).ownBlock)) (zR HO_108000.out) hg hat)).2.2) KL74.out)) ((show Kd.C (Kd.int .i64) w81 A75 y138.length y138 from by rw [Ny138.out, KA75.out]; exact Kd.Nd (m := ((ji42) : Int).toNat) (c := co10) ((Kd.Ae (Kd.Cp (ok := (fun k_ => some k_ ≠ (.slice Ao14 t108.length co14 : Value).ownBlock ∧ some k_ ≠ (.slice Ao71 t119.length co71 : Value).ownBlock ∧ some k_ ≠ (v126 : Value).ownBlock)) (zR HO_108000.out) hg hat)).2.2) KL75.out ((Kd.Ae (Kd.Cp (ok := (fun k_ => some k_ ≠ (.slice Ao14 t108.length co14 : Value).ownBlock ∧ some k_ ≠ (.slice Ao71 t119.length co71 : Value).ownBlock ∧ some k_ ≠ (v126 : Value).ownBlock)) (zR HO_108000.out) hg hat)).2.1))) (ho); clear HO_108000 HO_113000 BK107 BK112 HO121 HO127 HB HR134 HR141 HO144; obtain ⟨HO_108000, HO_113000, BK107, BK112, HO121, HO127, HB, HR134, HR141, HO148⟩ := n_; clear ho hb hg hat; obtain ⟨Ao82, co82, eo82⟩ := Kd.Bb HO148.out; subst eo82; obtain ⟨Ao83, co83, eo83⟩ := Kd.Bb HO127.out; subst eo83) | (refine gK 11 ?_; refine gL 129 Tryz.func11 #[.agg #[.slice Ao82 y146.length co82], .slice Ao83 t124.length co83] ?_; (with_reducible refine (Dy.calls kj6 _ _ y146 _ _ t124 false t150 _ ?side1 ?side2 ?side3 ?side4 A48.out).mono ?_); (case side1 => exact zC (Kd.Ae HO148.out).2.2); (case side2 => exact (Kd.Ae HO148.out).2.1); (case side3 => exact zC (Kd.Ae HO127.out).2.2); (case side4 => exact (Kd.Ae HO127.out).2.1); rintro e w84 ⟨rfl, hb⟩; refine ⟨_, rfl, ?_⟩; have n_ := y10 (Kd.Ap (zR HO_108000.out) hb) (Kd.Ap (zR HO_113000.out) hb) (Kd.Ap (zR HO121.out) hb) (Kd.Ap (zR HO127.out) hb) (Kd.Ap (zR HO148.out) hb) (zb BK107.out hb) (zb BK112.out hb) (Kd.Bh (by repeat (first | (with_reducible exact HR134.out) | (with_reducible refine Kd.Fb ?_ _) | (with_reducible refine Kd.Fa ?_ _) | (with_reducible refine Kd.Fv ?_) | exact HR134.out)) hb) (Kd.Bh (by repeat (first | (with_reducible exact HR141.out) | (with_reducible refine Kd.Fb ?_ _) | (with_reducible refine Kd.Fa ?_ _) | (with_reducible refine Kd.Fv ?_) | exact HR141.out)) hb) (Ab (zB) hb); clear HO_108000 HO_113000 HO121 HO127 HO148 BK107 BK112 HR134 HR141 HB; obtain ⟨HO_108000, HO_113000, HO121, HO127, HO148, BK107, BK112, HR134, HR141, HB⟩ := n_; (try clear hb)))
      go_ret
      exact ⟨by first | rfl | (simp [Gn, Gm] <;> rfl) | (simp only [← hji42]; first | rfl | (simp [Gn, Gm] <;> rfl)) | (simp [*, Gn, Gm] <;> rfl), zB⟩
    case rest =>
     as_aux_lemma =>
      clear HC33
      try clear c3
      obtain ⟨kq, HA, HJ32, HB⟩ := hcut
      cases kq with
      | zero => exact absurd HA.out (by simp [Ad.j1])
      | succ kj32 =>
       have H := HA.out
       clear HA
       simp only [Ad.j1] at H
       obtain ⟨⟨t151, t152⟩, A110, H⟩ := zO H
       try dsimp only at H
       obtain ⟨⟨t155, t158⟩, A111, H⟩ := zO H
       try dsimp only at H
       obtain ⟨⟨t160, t163⟩, A112, H⟩ := zO H
       try dsimp only at H
       have HC113 := Aa.mk H
       clear H
       go_upto_region 20 with (first | (refine gK 12 ?_; refine gL 140 Tryz.func12 #[.slice A0 l0.length c0] ?_; (with_reducible refine (Dw.calls kj32 _ _ l0 t151 t152 _ ?side1 HC0.out A110.out).mono ?_); (case side1 => exact zC (Kd.Bh HR0.out HB.out)); rintro e w114 ⟨v153, rfl, ho0, hb⟩; refine ⟨_, rfl, ?_⟩; have n_ := y2 (Kd.Bk ho0 (An (zB))) (Ab (zB) hb); clear HB; obtain ⟨HO154, HB⟩ := n_; (try clear ho0 hb); obtain ⟨Ao115, co115, eo115⟩ := Kd.Bb HO154.out; subst eo115) | (refine gK 13 ?_; refine gL 146 Tryz.func13 #[.slice Ao115 t151.length co115, .int .i64 t152] ?_; (with_reducible refine (Bi.calls kj32 _ _ t151 t152 t155 t158 _ ?side1 ?side2 A111.out).mono ?_); (case side1 => exact zC (Kd.Ae HO154.out).2.2); (case side2 => exact (Kd.Ae HO154.out).2.1); rintro e w116 ⟨v156, rfl, ho0, hb⟩; refine ⟨_, rfl, ?_⟩; have n_ := y3 (Kd.Bu (zR HO154.out) (Kd.Bs ho0) hb) (Kd.Bk (Kd.Bt ho0 (Kd.Cx (zR HO154.out))) (An (zB))) (Ab (zB) hb); clear HO154 HB; obtain ⟨HO154, HO157, HB⟩ := n_; (try clear ho0 hb)) | ((with_reducible refine Ay (N := 20) rfl ?_); (try (refine Ed (by rfl) ?_; dsimp only)); refine Be zr (N := 20) zr (cs := #[.slice none 0 0]) (t := 26) zg ?_; intro gb159 hg w117 hbox hb; have n_ := y6 (Kd.Ap (zR HO154.out) hb) (Kd.Ap (zR HO157.out) hb) (Ab (zB) hb) (hbox) ((zS hg : w.heap.size ≤ gb159)) ((zS hg : w.heap.size ≤ gb159)); clear HO154 HO157 HB; obtain ⟨HO154, HO157, HB, BK159, GW159, GE159⟩ := n_; clear hb hbox hg; obtain ⟨Ao118, co118, eo118⟩ := Kd.Bb HO157.out; subst eo118; obtain ⟨hcz119_0, hfz119_0⟩ := zw BK159.out) | (refine gK 14 ?_; refine gL 152 Tryz.func14 #[.slice Ao115 t151.length co115, .int .i64 t152] ?_; (with_reducible refine (Bo.calls kj32 _ _ t151 t152 t160 t163 _ ?side1 ?side2 A112.out).mono ?_); (case side1 => exact (zQ HO154.out BK159.out)); (case side2 => exact (Kd.Ae HO154.out).2.1); rintro e w120 ⟨v161, rfl, ho0, hb⟩; refine ⟨_, rfl, ?_⟩; have n_ := y5 (Kd.Bu (zV HO154.out BK159.out) (Kd.Bs ho0) hb) (Kd.Bu (zV HO157.out BK159.out) (Kd.Bs ho0) hb) (Kd.Bk (Kd.Bt (Kd.Bt ho0 (Kd.Cx (zV HO154.out BK159.out))) (Kd.Cx (zV HO157.out BK159.out))) (An (zB))) (Cy (g := gb159) (o := .cells #[.slice Ao118 t155.length co118] 26 (0, 0)) (by (with_reducible repeat (first | refine Am ?_ _ | refine Ag ?_ | refine Ak ?_ _)); refine Cl (cs := #[.slice none 0 0]) ?_ 0 _ rfl; (with_reducible repeat (first | refine Am ?_ _ | refine Ag ?_ | refine Ak ?_ _)); exact BK159.out) hb) (Ab (zB) hb); clear HO154 HO157 BK159 HB; obtain ⟨HO154, HO157, HO162, BK159, HB⟩ := n_; (try clear ho0 hb)) | ((with_reducible refine Ay (N := 22) rfl ?_); (try (refine Ed (by rfl) ?_; dsimp only)); refine Be zr (N := 22) zr (cs := #[.slice none 0 0]) (t := 26) zg ?_; intro gb164 hg w121 hbox hb; have n_ := y10 (Kd.Ap (zR HO154.out) hb) (Kd.Ap (zR HO157.out) hb) (Kd.Ap (zR HO162.out) hb) (zb BK159.out hb) (Ab (zB) hb) (hbox) ((zS hg : w.heap.size ≤ gb164)) ((zS hg : w.heap.size ≤ gb164)) ((zL hg BK159.out : gb159 ≠ gb164)) ((zM hg BK159.out : gb164 ≠ gb159)); clear HO154 HO157 HO162 BK159 HB; obtain ⟨HO154, HO157, HO162, BK159, HB, BK164, GW164, GE164, NB159_164, NB164_159⟩ := n_; clear hb hbox hg; obtain ⟨Ao122, co122, eo122⟩ := Kd.Bb HO162.out; subst eo122; have hnb123 := NB164_159.out; have hnc123 := NB159_164.out; obtain ⟨hcz124_0, hfz124_0⟩ := zw BK164.out))
       (try simp only [Act.put, List.setIfInBounds_toArray, List.set_cons_zero, List.set_cons_succ])
       go_cut [163] (fun u163_ wc => ∃ (kq : Nat) (x163_112 : Bool), u163_ = .bool x163_112 ∧ Aa (Ad.j2 kq l0 t151 t158 x163_112 t155 = some r) ∧ Aa (kq ≤ kj32) ∧ Aa (Kd.R (Kd.int .i64) 2 wc w.heap.size (fun k_ => some k_ ≠ ((.slice Ao118 t155.length co118) : Value).ownBlock) (.slice Ao115 t151.length co115) t151) ∧ Aa (Kd.R (Kd.int .i64) 2 wc w.heap.size (fun k_ => some k_ ≠ ((.slice Ao115 t151.length co115) : Value).ownBlock) (.slice Ao118 t155.length co118) t155) ∧ Aa (wc.heap[gb159]? = some (.cells #[(.slice Ao118 t155.length co118)] 26 (0, 0))) ∧ Aa (Below w.heap.size w wc))
       case first =>
        as_aux_lemma =>
         have H := HC113.out
         clear HC113
         by_cases c125 : t158 = t163
         case neg =>
          rw [if_neg c125] at H
          have c125b0 : (t158 == t163) = false := beq_eq_false_iff_ne.mpr c125
          have c125b1 : (t158 != t163) = true := bne_iff_ne.mpr c125
          (first | rw [c125b0] | (simp only [Ec, En]; rw [c125b0]) | skip)
          have H' := Aa.mk H
          clear H
          go_wp2
          go_meet
          case rel => exact ⟨_, (true), zF, H', ⟨by have := HJ6.out; have := HJ32.out; first | omega | exact Nat.le_refl _⟩, ⟨by refine zR ?_; exact Kd.Ai (Kd.Dv (p := ⟨gb164, 0, none⟩) (Kd.Cj HO154.out BK164.out (by decide)) (fun _ hk => hk.2) (.slice Ao122 t160.length co122)) (fun _ hk => hk.1.1.2)⟩, ⟨by refine zR ?_; exact Kd.Ai (Kd.Dv (p := ⟨gb164, 0, none⟩) (Kd.Cj HO157.out BK164.out (by decide)) (fun _ hk => hk.2) (.slice Ao122 t160.length co122)) (fun _ hk => hk.1.1.2)⟩, ⟨by refine zG ?_; refine Ce ?_ NB159_164.out _; refine zG ?_; exact BK159.out⟩, ⟨zB⟩⟩
         rw [if_pos c125] at H
         have c125b0 : (t158 == t163) = true := beq_iff_eq.mpr c125
         have c125b1 : (t158 != t163) = false := bne_eq_false_iff_eq.mpr c125
         clear c125
         (first | rw [c125b0] | (simp only [Ec, En]; rw [c125b0]) | skip)
         obtain ⟨t165, A126, H⟩ := zO H
         try dsimp only at H
         have H' := Aa.mk H
         clear H
         have hnb127 := NB159_164.out
         have hnc127 := NB164_159.out
         obtain ⟨hcz128_0, hfz128_0⟩ := zw BK159.out
         obtain ⟨hcz129_0, hfz129_0⟩ := zw BK164.out
         go_wp2_with (first | (go_at_call 8; (with_reducible refine (Fp.calls kj32 _ _ t155 _ _ t160 t165 _ ?side1 ?side2 ?side3 ?side4 A126.out).mono ?_); (case side1 => exact (zQ HO157.out BK164.out)); (case side2 => exact (Kd.Ae HO157.out).2.1); (case side3 => exact (zQ HO162.out BK164.out)); (case side4 => exact (Kd.Ae HO162.out).2.1); rintro e w130 ⟨rfl, hb⟩; have n_ := y6 (Kd.Ap (zV HO154.out BK164.out) hb) (Kd.Ap (zV HO157.out BK164.out) hb) (Kd.Ap (zV HO162.out BK164.out) hb) (Cy (g := gb159) (o := .cells #[.slice Ao118 t155.length co118] 26 (0, 0)) (by refine zG ?_; refine Ce ?_ NB159_164.out _; refine zG ?_; exact BK159.out) hb) (Cy (g := gb164) (o := .cells #[.slice Ao122 t160.length co122] 26 (0, 0)) (by (with_reducible repeat (first | refine Am ?_ _ | refine Ag ?_ | refine Ak ?_ _)); refine Cl (cs := #[.slice none 0 0]) ?_ 0 _ rfl; (with_reducible repeat (first | refine Am ?_ _ | refine Ag ?_ | refine Ak ?_ _)); exact BK164.out) hb) (Ab (zB) hb); clear HO154 HO157 HO162 BK159 BK164 HB; obtain ⟨HO154, HO157, HO162, BK159, BK164, HB⟩ := n_; (try clear hb)))
         go_meet
         case rel => exact ⟨_, (!t165), zF, H', ⟨by have := HJ6.out; have := HJ32.out; first | omega | exact Nat.le_refl _⟩, ⟨by refine zR ?_; exact Kd.Ai HO154.out (fun _ hk => hk.1.2)⟩, ⟨by refine zR ?_; exact Kd.Ai HO157.out (fun _ hk => hk.1.2)⟩, ⟨zG BK159.out⟩, ⟨zB⟩⟩
       case rest =>
        as_aux_lemma =>
         clear HC113
         try clear c3
         try clear hcz119_0
         try clear hcz124_0
         try clear hfz119_0
         try clear hfz124_0
         obtain ⟨kq, x163_112, rfl, HA, HJ112, HO_18, HO_160000, BK159, HB⟩ := hcut
         cases kq with
         | zero => exact absurd HA.out (by simp [Ad.j2])
         | succ kj112 =>
          have H := HA.out
          clear HA
          simp only [Ad.j2] at H
          by_cases c131 : x163_112 = true
          ·
           subst c131
           rw [if_pos rfl] at H
           obtain rfl := Option.some.inj H
           go_wp2
           go_ret
           exact ⟨zE, zB⟩
          replace c131 := Bool.eq_false_iff.mpr c131
          subst c131
          rw [if_neg zf] at H
          have HC132 := Aa.mk H
          clear H
          go_upto_if 165 with (fail)
          go_cut [] (fun wc => ∃ (kq : Nat), Aa (Ad.j5 kq l0 = some r) ∧ Aa (kq ≤ kj112) ∧ Aa (Below w.heap.size w wc))
          case first =>
           as_aux_lemma =>
            have H := HC132.out
            clear HC132
            by_cases c133 : t158 = 0
            case neg =>
             as_aux_lemma =>
              rw [if_neg c133] at H
              have c133b0 : (t158 == 0) = false := beq_eq_false_iff_ne.mpr c133
              have c133b1 : (t158 != 0) = true := bne_iff_ne.mpr c133
              (first | rw [c133b0] | (simp only [Ec, En]; rw [c133b0]) | skip)
              have H' := Aa.mk H
              clear H
              go_wp2
              go_meet
              case rel => exact ⟨_, H', ⟨by have := HJ6.out; have := HJ32.out; have := HJ112.out; first | omega | exact Nat.le_refl _⟩, ⟨zB⟩⟩
            rw [if_pos c133] at H
            have c133b0 : (t158 == 0) = true := beq_iff_eq.mpr c133
            have c133b1 : (t158 != 0) = false := bne_eq_false_iff_eq.mpr c133
            clear c133
            (first | rw [c133b0] | (simp only [Ec, En]; rw [c133b0]) | skip)
            obtain ⟨⟨t166, t167⟩, A134, H⟩ := zO H
            try dsimp only at H
            have HC135 := Aa.mk H
            clear H
            obtain ⟨hcz136_0, hfz136_0⟩ := zw BK159.out
            go_upto_region 24 with (first | (refine gK 11 ?_; refine gL 169 Tryz.func11 #[.agg #[.slice Ao118 t155.length co118], .slice Ao115 t151.length co115] ?_; (with_reducible refine (Dy.calls kj112 _ _ t155 _ _ t151 t166 t167 _ ?side1 ?side2 ?side3 ?side4 A134.out).mono ?_); (case side1 => exact zC (Kd.Ae HO_160000.out).2.2); (case side2 => exact (Kd.Ae HO_160000.out).2.1); (case side3 => exact zC (Kd.Ae HO_18.out).2.2); (case side4 => exact (Kd.Ae HO_18.out).2.1); rintro e w137 ⟨rfl, hb⟩; refine ⟨_, rfl, ?_⟩; have n_ := y4 (Kd.Ap (zR HO_18.out) hb) (Kd.Ap (zR HO_160000.out) hb) (zb BK159.out hb) (Ab (zB) hb); clear HO_18 HO_160000 BK159 HB; obtain ⟨HO_18, HO_160000, BK159, HB⟩ := n_; (try clear hb)))
            (try simp only [Act.put, List.setIfInBounds_toArray, List.set_cons_zero, List.set_cons_succ])
            go_cut [177] (fun u177_ wc => ∃ (kq : Nat) (x177_134 : Bool), u177_ = .bool x177_134 ∧ Aa (Ad.j3 kq l0 t151 x177_134 t155 = some r) ∧ Aa (kq ≤ kj112) ∧ Aa (Kd.R (Kd.int .i64) 2 wc w.heap.size (fun k_ => some k_ ≠ ((.slice Ao118 t155.length co118) : Value).ownBlock) (.slice Ao115 t151.length co115) t151) ∧ Aa (Kd.R (Kd.int .i64) 2 wc w.heap.size (fun k_ => some k_ ≠ ((.slice Ao115 t151.length co115) : Value).ownBlock) (.slice Ao118 t155.length co118) t155) ∧ Aa (wc.heap[gb159]? = some (.cells #[(.slice Ao118 t155.length co118)] 26 (0, 0))) ∧ Aa (Below w.heap.size w wc))
            case first =>
             as_aux_lemma =>
              have H := HC135.out
              clear HC135
              by_cases c138 : t167 = 0
              ·
               as_aux_lemma =>
                rw [if_pos c138] at H
                have c138b0 : (t167 == 0) = true := beq_iff_eq.mpr c138
                have c138b1 : (t167 != 0) = false := bne_eq_false_iff_eq.mpr c138
                clear c138
                (first | rw [c138b0] | (simp only [Ec, En]; rw [c138b0]) | skip)
                have H' := Aa.mk H
                clear H
                go_wp2
                go_meet
                case rel => exact ⟨_, (!t166), zF, H', ⟨by have := HJ6.out; have := HJ32.out; have := HJ112.out; first | omega | exact Nat.le_refl _⟩, ⟨zR HO_18.out⟩, ⟨zR HO_160000.out⟩, ⟨zG BK159.out⟩, ⟨zB⟩⟩
              as_aux_lemma =>
               rw [if_neg c138] at H
               have c138b0 : (t167 == 0) = false := beq_eq_false_iff_ne.mpr c138
               have c138b1 : (t167 != 0) = true := bne_iff_ne.mpr c138
               (first | rw [c138b0] | (simp only [Ec, En]; rw [c138b0]) | skip)
               have H' := Aa.mk H
               clear H
               go_wp2
               go_meet
               case rel => exact ⟨_, (true), zF, H', ⟨by have := HJ6.out; have := HJ32.out; have := HJ112.out; first | omega | exact Nat.le_refl _⟩, ⟨zR HO_18.out⟩, ⟨zR HO_160000.out⟩, ⟨zG BK159.out⟩, ⟨zB⟩⟩
            case rest =>
             as_aux_lemma =>
              clear HC135
              try clear c3
              try clear c131
              try clear c133
              try clear c133b0
              try clear c133b1
              try clear hcz119_0
              try clear hcz124_0
              try clear hcz136_0
              try clear hfz119_0
              try clear hfz124_0
              try clear hfz136_0
              obtain ⟨kq, x177_134, rfl, HA, HJ134, HO_18, HO_160000, BK159, HB⟩ := hcut
              cases kq with
              | zero => exact absurd HA.out (by simp [Ad.j3])
              | succ kj134 =>
               have H := HA.out
               clear HA
               simp only [Ad.j3] at H
               by_cases c139 : x177_134 = true
               ·
                subst c139
                rw [if_pos rfl] at H
                obtain rfl := Option.some.inj H
                go_wp2
                go_ret
                exact ⟨zE, zB⟩
               replace c139 := Bool.eq_false_iff.mpr c139
               subst c139
               rw [if_neg zf] at H
               have H' := Aa.mk H
               clear H
               obtain ⟨hcz140_0, hfz140_0⟩ := zw BK159.out
               go_wp2
               go_loopg [181] kj134 (fun kq v181 w' => ∃ (x18_5 : List Int) (x181_5 : Int) (x160000_5 : List Int) (u160000 : Value), v181 = .int .i64 x181_5 ∧ Aa (Ad.l0 kq l0 x18_5 (t155.length : Int) x181_5 x160000_5 = some r) ∧ Aa (kq ≤ kj134) ∧ Aa (Kd.R (Kd.int .i64) 2 w' w.heap.size (fun k_ => some k_ ≠ (u160000 : Value).ownBlock) (.slice Ao115 t151.length co115) x18_5) ∧ Aa (Kd.R (Kd.int .i64) 2 w' w.heap.size (fun k_ => some k_ ≠ ((.slice Ao115 t151.length co115) : Value).ownBlock) u160000 x160000_5) ∧ Aa (w'.heap[gb159]? = some (.cells #[u160000] 26 (0, 0))) ∧ Aa (Below w.heap.size w w'))
               case atStart => exact ⟨(t151), (0), (t155), (.slice Ao118 t155.length co118), zF, H', ⟨Nat.le_refl _⟩, ⟨zR HO_18.out⟩, ⟨zR HO_160000.out⟩, ⟨zG BK159.out⟩, ⟨zB⟩⟩
               case round =>
                as_aux_lemma =>
                 clear H'
                 try clear c3
                 try clear c131
                 try clear c133
                 try clear c133b0
                 try clear c133b1
                 try clear c139
                 try clear hcz119_0
                 try clear hcz124_0
                 try clear hcz136_0
                 try clear hcz140_0
                 try clear hfz119_0
                 try clear hfz124_0
                 try clear hfz136_0
                 try clear hfz140_0
                 obtain ⟨x18_5, x181_5, x160000_5, u160000, rfl, HA, HK5, HO_18, HO_160000, BK159, HB⟩ := hrel
                 have hl18_5 := (Kd.Ae HO_18.out).1
                 rw [hl18_5] at HO_18
                 (try simp only [hl18_5])
                 (try simp only [hl18_5] at BK159)
                 (try simp only [hl18_5] at HO_160000)
                 cases gk with
                 | zero => exact absurd HA.out (by simp [Ad.l0])
                 | succ k5 =>
                  have H := HA.out
                  clear HA
                  simp only [Ad.l0] at H
                  by_cases c141 : x181_5 < (t155.length : Int)
                  case neg =>
                   as_aux_lemma =>
                    rw [if_neg c141] at H
                    have c141b0 := decide_eq_false c141
                    clear c141
                    have H' := Aa.mk H
                    clear H
                    go_wp2
                    (try simp only [← hl18_5])
                    go_meet
                    case rel => exact ⟨_, H', ⟨by have := HJ6.out; have := HJ32.out; have := HJ112.out; have := HJ134.out; have := HK5.out; first | omega | exact Nat.le_refl _⟩, ⟨zB⟩⟩
                  rw [if_pos c141] at H
                  have c141b0 := decide_eq_true c141
                  clear c141
                  by_cases c142 : 0 ≤ x181_5
                  case neg => rw [if_neg c142] at H; exact absurd H (by simp)
                  rw [if_pos c142] at H
                  have c142b0 := decide_eq_true c142
                  clear c142
                  by_cases c143 : x181_5 < (x160000_5.length : Int)
                  case neg => rw [if_neg c143] at H; exact absurd H (by simp)
                  rw [if_pos c143] at H
                  have c143b0 := decide_eq_true c143
                  clear c143
                  by_cases c144 : (rd x160000_5 x181_5) > 1
                  case neg =>
                   as_aux_lemma =>
                    rw [if_neg c144] at H
                    have c144b0 := decide_eq_false c144
                    clear c144
                    have H' := Aa.mk H
                    clear H
                    obtain ⟨hcz181_0, hfz181_0⟩ := zw BK159.out
                    obtain ⟨Ao182, co182, eo182⟩ := Kd.Bb HO_160000.out
                    subst eo182
                    have p168 : 0 ≤ (x181_5 : Int) := zD
                    have q168 : x181_5 < (x160000_5.length : Int) := zD
                    obtain ⟨ad168, e168, hx168_0⟩ := Kd.Cv (Kd.Ae HO_160000.out).2.2 x181_5 p168 q168
                    cases e168
                    replace p168 := eq_true p168
                    replace q168 := eq_true q168
                    go_wp2
                    (try simp only [← hl18_5])
                    go_roundg k5
                    case measure => have := HJ6.out; have := HJ32.out; have := HJ112.out; have := HJ134.out; have := HK5.out; omega
                    case rel => exact ⟨(x18_5), (wrap64 (x181_5 + 1)), (x160000_5), (.slice (some ad168) x160000_5.length co182), zF, H', ⟨by have := HJ6.out; have := HJ32.out; have := HJ112.out; have := HJ134.out; have := HK5.out; omega⟩, ⟨by (try simp only [hl18_5]); refine zR ?_; exact HO_18.out⟩, ⟨by (try simp only [hl18_5]); refine zR ?_; exact HO_160000.out⟩, ⟨by (try simp only [hl18_5]); refine zG ?_; exact BK159.out⟩, ⟨zB⟩⟩
                  rw [if_pos c144] at H
                  have c144b0 := decide_eq_true c144
                  clear c144
                  obtain ⟨y169, hy169, H⟩ := zY H
                  try dsimp only at H
                  have Ny169 := Aa.mk hy169
                  clear hy169
                  by_cases c145 : y169.length + x160000_5.length < 17592186044416
                  case neg => rw [if_neg c145] at H; exact absurd H (by simp)
                  rw [if_pos c145] at H
                  have LMc145 := Aa.mk c145
                  clear c145
                  obtain ⟨y172, hy172, H⟩ := zY H
                  try dsimp only at H
                  have Ny172 := Aa.mk hy172
                  clear hy172
                  by_cases c146 : x181_5 < (y172.length : Int)
                  case neg => rw [if_neg c146] at H; exact absurd H (by simp)
                  rw [if_pos c146] at H
                  have c146b0 := decide_eq_true c146
                  clear c146
                  obtain ⟨y176, hy176⟩ : ∃ y_ : List Int, y_ = (y172.set (x181_5 : Int).toNat (wrap64 ((rd y172 x181_5) - 1))) := ⟨_, rfl⟩
                  replace H : ((Dy.f k5 y176 x18_5).bind fun bt177 => (if bt177.2 = 0 then (if bt177.1 = true then (some false) else (Ad.l0 k5 l0 x18_5 (t155.length : Int) (wrap64 (x181_5 + 1)) x160000_5)) else (some false))) = some r := zH hy176
                  have Ny176 := Aa.mk hy176
                  clear hy176
                  obtain ⟨⟨t177, t178⟩, A148, H⟩ := zO H
                  try dsimp only at H
                  by_cases c149 : t178 = 0
                  case neg =>
                   rw [if_neg c149] at H
                   have c149b0 : (t178 == 0) = false := beq_eq_false_iff_ne.mpr c149
                   have c149b1 : (t178 != 0) = true := bne_iff_ne.mpr c149
                   obtain rfl := Option.some.inj H
                   obtain ⟨hcz171_0, hfz171_0⟩ := zw BK159.out
                   obtain ⟨Ao172, co172, eo172⟩ := Kd.Bb HO_160000.out
                   subst eo172
                   have p168 : 0 ≤ (x181_5 : Int) := zD
                   have q168 : x181_5 < (x160000_5.length : Int) := zD
                   obtain ⟨ad168, e168, hx168_0⟩ := Kd.Cv (Kd.Ae HO_160000.out).2.2 x181_5 p168 q168
                   cases e168
                   replace p168 := eq_true p168
                   replace q168 := eq_true q168
                   go_wp2_with (first | ((with_reducible refine Ay (N := 190) rfl ?_); (try (refine Ed (by rfl) ?_; dsimp only)); refine Kd.Kv (Kd.int .i64) _ 2 ?hg (N := 190) ?hd (xs := ([] : List Int)) (inner := []) (ok := fun _ => True) (okp := fun _ => True) ?hr ?hp (fun _ hk => hk) trivial (Below.refl _ _) (Nat.le_refl _) (by simp) ?_; (case hd => rfl); (case hg => rfl); (case hr => first | (go_simp; done) | (go_simp; rfl)); (case hp => exact (Dk.none _ _)); intro v170 w173 ho174 hb hg_ hnew_; clear hg_ hnew_; (first | rw [← Ny169.out] at ho174 | (simp only [Int.reduceToNat] at ho174; rw [← Ny169.out] at ho174)); have n_ := y5 (Kd.Bu (zR HO_18.out) (Kd.Bs ho174) hb) (Kd.Bu (zR HO_160000.out) (Kd.Bs ho174) hb) (Kd.Bk (Kd.Bt (Kd.Bt ho174 (Kd.Cx (zR HO_18.out))) (Kd.Cx (zR HO_160000.out))) (An (zB))) (zb BK159.out hb) (Ab (zB) hb); clear HO_18 HO_160000 BK159 HB; obtain ⟨HO_18, HO_160000, HO171, BK159, HB⟩ := n_; clear hb ho174; obtain ⟨hcz175_0, hfz175_0⟩ := zw BK159.out) | ((with_reducible refine Dp (b := .append) (xs := #[.tmp 190, .tmp 192]) rfl ?_); (try (refine Ed (by rfl) ?_; dsimp only)); at_builtin; refine Kd.Ln (Kd.int .i64) (w0 := w) w.heap.size rfl (.tmp 190) (.tmp 192) 24 2 (.int .i64 0) 8 rfl Tryz.underlying24 Gb rfl (by decide) (by omega) v170 y169 x160000_5 _ _ _ (fun k_ => some k_ ≠ (.slice Ao115 x18_5.length co115 : Value).ownBlock ∧ some k_ ≠ (.slice (some ad168) x160000_5.length co172 : Value).ownBlock) (fun _ => False) rfl rfl ?aO ?aR (fun _ _ h => h) (fun _ h => h.elim) ?aF ?aB ?aS ?aL ?_; (case aR => repeat (first | exact (Kd.Ae HO_160000.out).2.2 | (with_reducible refine Kd.Fb ?_ _) | (with_reducible refine Kd.Fa ?_ _) | (with_reducible refine Kd.Fv ?_))); (case aB => exact (zB)); (case aF => exact (fun k_ hk => ⟨Kd.fresh' (Kd.Cx (zR HO_18.out)) k_ hk, Kd.fresh' (Kd.Cx (zR HO_160000.out)) k_ hk⟩)); (case aO => exact (by refine zR ?_; exact Kd.Ai HO171.out (fun _ hk => ⟨hk.1.2, hk.2⟩))); (case aS => exact (An (zB))); (case aL => have := LMc145.out; omega); intro v173 w176 ho hb hg hat; rw [← Ny172.out] at ho; have n_ := y5 (Kd.Cp (ok := (fun k_ => some k_ ≠ (.slice (some ad168) x160000_5.length co172 : Value).ownBlock)) (zR HO_18.out) hg hat) (Kd.Cp (ok := (fun k_ => some k_ ≠ (.slice Ao115 x18_5.length co115 : Value).ownBlock)) (zR HO_160000.out) hg hat) (Cm (g := gb159) (o := .cells #[.slice (some ad168) x160000_5.length co172] 26 (0, 0)) (zG BK159.out) hg (Kd.Em HO171.out BK159.out (by decide))) (hb) (ho); clear HO_18 HO_160000 BK159 HB HO171; obtain ⟨HO_18, HO_160000, BK159, HB, HO174⟩ := n_; clear ho hb hg hat; obtain ⟨Ao177, co177, eo177⟩ := Kd.Bb HO174.out; subst eo177; have p175 : 0 ≤ (x181_5 : Int) := zD; have q175 : x181_5 < (y172.length : Int) := zD; obtain ⟨ad175, e175, hx175_0⟩ := Kd.Cv (Kd.Ae HO174.out).2.2 x181_5 p175 q175; cases e175; replace p175 := eq_true p175; replace q175 := eq_true q175; have p147 : 0 ≤ (x181_5 : Int) := zD; have q147 : (x181_5 : Int) < ((y172.length : Int) : Int) := zD; obtain ⟨go147, co147, eo147, gb147, gl147, cl147, HG147⟩ := Kd.Lk HO174.out (by omega); (first | cases eo147 | (injection eo147 with ea_ en_ ec_; (first | subst ea_ | (injection ea_ with ea_; subst ea_)); subst ec_; clear en_)); have GB147 := Aa.mk gb147; have GG147 := Aa.mk HG147; clear gb147 gl147 HG147; (first | simp only [Gw] at hx175_0 | skip); obtain ⟨hx147_0, hf147_0⟩ := Kd.Fx 0 HO174.out (x181_5 : Int) p147 q147; replace p147 := eq_true p147; replace q147 := eq_true q147; obtain ⟨hy178_, hz178_⟩ := Kd.Fx 0 HO174.out (x181_5 : Int) (zD) (zD); have HP178 := Kd.Pu HO174.out (x181_5 : Int) (wrap64 ((rd y172 x181_5) - 1))) | ((with_reducible refine Ku (t := 2) (p := 199) rfl ?_); refine Kh (t := 2) (p := 199) (v := ?vo_w179) (w1 := (w176.setCell ⟨go147, (x181_5 : Int).toNat, none⟩ (.int .i64 (wrap64 ((rd y172 x181_5) - 1))))) ?hg ?ho ?hn ?hr ?_; (case ho => rfl); (case hg => rfl); (case hn => rfl); (case hr => first | (go_simp; done) | (go_simp; rfl)); intro w179 hw; have hg : w176.grownBy w179 (some go147) := (by rw [hw]; exact HP178.2); have hp_ : Kd.R (Kd.int .i64) 2 w179 w.heap.size (fun k_ => some k_ ≠ (.slice Ao115 x18_5.length co115 : Value).ownBlock ∧ some k_ ≠ (.slice (some ad168) x160000_5.length co172 : Value).ownBlock) (.slice (some ⟨go147, 0, none⟩) y172.length co177) y176 := (by rw [hw, Ny176.out]; exact HP178.1); clear HP178; have n_ := y5 (Kd.Cp (v := (.slice (some ⟨go147, 0, none⟩) y172.length co177)) (v1 := (.slice (some ⟨go147, 0, none⟩) y172.length co177)) (ok := (fun k_ => some k_ ≠ (.slice (some ad168) x160000_5.length co172 : Value).ownBlock)) (zR HO_18.out) hg (.inl rfl)) (Kd.Cp (v := (.slice (some ⟨go147, 0, none⟩) y172.length co177)) (v1 := (.slice (some ⟨go147, 0, none⟩) y172.length co177)) (ok := (fun k_ => some k_ ≠ (.slice Ao115 x18_5.length co115 : Value).ownBlock)) (zR HO_160000.out) hg (.inl rfl)) (Cm (g := gb159) (o := .cells #[.slice (some ad168) x160000_5.length co172] 26 (0, 0)) (zG BK159.out) hg (Kd.Em HO174.out BK159.out (by decide))) (hp_) ((by rw [hw]; exact Gl (HB.out) GB147.out : Below w.heap.size w w179)); clear HO_18 HO_160000 BK159 HO174 HB; obtain ⟨HO_18, HO_160000, BK159, HO174, HB⟩ := n_; clear hg hw hp_) | (refine gK 11 ?_; refine Vj (some 204) rfl rfl Tryz.func11 zk rfl #[.agg #[.slice (some ⟨go147, 0, none⟩) y176.length co177], .slice Ao115 x18_5.length co115] rfl (by (try simp only [List.map_toArray, List.map_cons, List.map_nil]); first | done | (rw [show y176.length = y172.length from (Kd.Ae HO174.out).1.symm] <;> rfl) | rfl | (simp only [List.length_drop, List.length_take]; rfl)) ?_; (with_reducible refine (Dy.calls k5 _ _ y176 _ _ x18_5 t177 t178 _ ?side1 ?side2 ?side3 ?side4 A148.out).mono ?_); (case side1 => exact zC (Kd.Ae HO174.out).2.2); (case side2 => rw [show y176.length = y172.length from (Kd.Ae HO174.out).1.symm]; exact (Kd.Ae HO174.out).2.1); (case side3 => exact zC (Kd.Ae HO_18.out).2.2); (case side4 => exact (Kd.Ae HO_18.out).2.1); rintro e w180 ⟨rfl, hb⟩; refine ⟨_, rfl, ?_⟩; have n_ := y5 (Kd.Ap (zR HO_18.out) hb) (Kd.Ap (zR HO_160000.out) hb) (Kd.Ap (zR HO174.out) hb) (zb BK159.out hb) (Ab (zB) hb); clear HO_18 HO_160000 HO174 BK159 HB; obtain ⟨HO_18, HO_160000, HO174, BK159, HB⟩ := n_; (try clear hb)))
                   go_ret
                   exact ⟨zE, zB⟩
                  rw [if_pos c149] at H
                  have c149b0 : (t178 == 0) = true := beq_iff_eq.mpr c149
                  have c149b1 : (t178 != 0) = false := bne_eq_false_iff_eq.mpr c149
                  clear c149
                  by_cases c150 : t177 = true
                  ·
                   subst c150
                   rw [if_pos rfl] at H
                   obtain rfl := Option.some.inj H
                   obtain ⟨hcz151_0, hfz151_0⟩ := zw BK159.out
                   obtain ⟨Ao152, co152, eo152⟩ := Kd.Bb HO_160000.out
                   subst eo152
                   have p168 : 0 ≤ (x181_5 : Int) := zD
                   have q168 : x181_5 < (x160000_5.length : Int) := zD
                   obtain ⟨ad168, e168, hx168_0⟩ := Kd.Cv (Kd.Ae HO_160000.out).2.2 x181_5 p168 q168
                   cases e168
                   replace p168 := eq_true p168
                   replace q168 := eq_true q168
                   go_wp2_with (first | ((with_reducible refine Ay (N := 190) rfl ?_); (try (refine Ed (by rfl) ?_; dsimp only)); refine Kd.Kv (Kd.int .i64) _ 2 ?hg (N := 190) ?hd (xs := ([] : List Int)) (inner := []) (ok := fun _ => True) (okp := fun _ => True) ?hr ?hp (fun _ hk => hk) trivial (Below.refl _ _) (Nat.le_refl _) (by simp) ?_; (case hd => rfl); (case hg => rfl); (case hr => first | (go_simp; done) | (go_simp; rfl)); (case hp => exact (Dk.none _ _)); intro v170 w153 ho154 hb hg_ hnew_; clear hg_ hnew_; (first | rw [← Ny169.out] at ho154 | (simp only [Int.reduceToNat] at ho154; rw [← Ny169.out] at ho154)); have n_ := y5 (Kd.Bu (zR HO_18.out) (Kd.Bs ho154) hb) (Kd.Bu (zR HO_160000.out) (Kd.Bs ho154) hb) (Kd.Bk (Kd.Bt (Kd.Bt ho154 (Kd.Cx (zR HO_18.out))) (Kd.Cx (zR HO_160000.out))) (An (zB))) (zb BK159.out hb) (Ab (zB) hb); clear HO_18 HO_160000 BK159 HB; obtain ⟨HO_18, HO_160000, HO171, BK159, HB⟩ := n_; clear hb ho154; obtain ⟨hcz155_0, hfz155_0⟩ := zw BK159.out) | ((with_reducible refine Dp (b := .append) (xs := #[.tmp 190, .tmp 192]) rfl ?_); (try (refine Ed (by rfl) ?_; dsimp only)); at_builtin; refine Kd.Ln (Kd.int .i64) (w0 := w) w.heap.size rfl (.tmp 190) (.tmp 192) 24 2 (.int .i64 0) 8 rfl Tryz.underlying24 Gb rfl (by decide) (by omega) v170 y169 x160000_5 _ _ _ (fun k_ => some k_ ≠ (.slice Ao115 x18_5.length co115 : Value).ownBlock ∧ some k_ ≠ (.slice (some ad168) x160000_5.length co152 : Value).ownBlock) (fun _ => False) rfl rfl ?aO ?aR (fun _ _ h => h) (fun _ h => h.elim) ?aF ?aB ?aS ?aL ?_; (case aR => repeat (first | exact (Kd.Ae HO_160000.out).2.2 | (with_reducible refine Kd.Fb ?_ _) | (with_reducible refine Kd.Fa ?_ _) | (with_reducible refine Kd.Fv ?_))); (case aB => exact (zB)); (case aF => exact (fun k_ hk => ⟨Kd.fresh' (Kd.Cx (zR HO_18.out)) k_ hk, Kd.fresh' (Kd.Cx (zR HO_160000.out)) k_ hk⟩)); (case aO => exact (by refine zR ?_; exact Kd.Ai HO171.out (fun _ hk => ⟨hk.1.2, hk.2⟩))); (case aS => exact (An (zB))); (case aL => have := LMc145.out; omega); intro v173 w156 ho hb hg hat; rw [← Ny172.out] at ho; have n_ := y5 (Kd.Cp (ok := (fun k_ => some k_ ≠ (.slice (some ad168) x160000_5.length co152 : Value).ownBlock)) (zR HO_18.out) hg hat) (Kd.Cp (ok := (fun k_ => some k_ ≠ (.slice Ao115 x18_5.length co115 : Value).ownBlock)) (zR HO_160000.out) hg hat) (Cm (g := gb159) (o := .cells #[.slice (some ad168) x160000_5.length co152] 26 (0, 0)) (zG BK159.out) hg (Kd.Em HO171.out BK159.out (by decide))) (hb) (ho); clear HO_18 HO_160000 BK159 HB HO171; obtain ⟨HO_18, HO_160000, BK159, HB, HO174⟩ := n_; clear ho hb hg hat; obtain ⟨Ao157, co157, eo157⟩ := Kd.Bb HO174.out; subst eo157; have p175 : 0 ≤ (x181_5 : Int) := zD; have q175 : x181_5 < (y172.length : Int) := zD; obtain ⟨ad175, e175, hx175_0⟩ := Kd.Cv (Kd.Ae HO174.out).2.2 x181_5 p175 q175; cases e175; replace p175 := eq_true p175; replace q175 := eq_true q175; have p147 : 0 ≤ (x181_5 : Int) := zD; have q147 : (x181_5 : Int) < ((y172.length : Int) : Int) := zD; obtain ⟨go147, co147, eo147, gb147, gl147, cl147, HG147⟩ := Kd.Lk HO174.out (by omega); (first | cases eo147 | (injection eo147 with ea_ en_ ec_; (first | subst ea_ | (injection ea_ with ea_; subst ea_)); subst ec_; clear en_)); have GB147 := Aa.mk gb147; have GG147 := Aa.mk HG147; clear gb147 gl147 HG147; (first | simp only [Gw] at hx175_0 | skip); obtain ⟨hx147_0, hf147_0⟩ := Kd.Fx 0 HO174.out (x181_5 : Int) p147 q147; replace p147 := eq_true p147; replace q147 := eq_true q147; obtain ⟨hy158_, hz158_⟩ := Kd.Fx 0 HO174.out (x181_5 : Int) (zD) (zD); have HP158 := Kd.Pu HO174.out (x181_5 : Int) (wrap64 ((rd y172 x181_5) - 1))) | ((with_reducible refine Ku (t := 2) (p := 199) rfl ?_); refine Kh (t := 2) (p := 199) (v := ?vo_w159) (w1 := (w156.setCell ⟨go147, (x181_5 : Int).toNat, none⟩ (.int .i64 (wrap64 ((rd y172 x181_5) - 1))))) ?hg ?ho ?hn ?hr ?_; (case ho => rfl); (case hg => rfl); (case hn => rfl); (case hr => first | (go_simp; done) | (go_simp; rfl)); intro w159 hw; have hg : w156.grownBy w159 (some go147) := (by rw [hw]; exact HP158.2); have hp_ : Kd.R (Kd.int .i64) 2 w159 w.heap.size (fun k_ => some k_ ≠ (.slice Ao115 x18_5.length co115 : Value).ownBlock ∧ some k_ ≠ (.slice (some ad168) x160000_5.length co152 : Value).ownBlock) (.slice (some ⟨go147, 0, none⟩) y172.length co157) y176 := (by rw [hw, Ny176.out]; exact HP158.1); clear HP158; have n_ := y5 (Kd.Cp (v := (.slice (some ⟨go147, 0, none⟩) y172.length co157)) (v1 := (.slice (some ⟨go147, 0, none⟩) y172.length co157)) (ok := (fun k_ => some k_ ≠ (.slice (some ad168) x160000_5.length co152 : Value).ownBlock)) (zR HO_18.out) hg (.inl rfl)) (Kd.Cp (v := (.slice (some ⟨go147, 0, none⟩) y172.length co157)) (v1 := (.slice (some ⟨go147, 0, none⟩) y172.length co157)) (ok := (fun k_ => some k_ ≠ (.slice Ao115 x18_5.length co115 : Value).ownBlock)) (zR HO_160000.out) hg (.inl rfl)) (Cm (g := gb159) (o := .cells #[.slice (some ad168) x160000_5.length co152] 26 (0, 0)) (zG BK159.out) hg (Kd.Em HO174.out BK159.out (by decide))) (hp_) ((by rw [hw]; exact Gl (HB.out) GB147.out : Below w.heap.size w w159)); clear HO_18 HO_160000 BK159 HO174 HB; obtain ⟨HO_18, HO_160000, BK159, HO174, HB⟩ := n_; clear hg hw hp_) | (refine gK 11 ?_; refine Vj (some 204) rfl rfl Tryz.func11 zk rfl #[.agg #[.slice (some ⟨go147, 0, none⟩) y176.length co157], .slice Ao115 x18_5.length co115] rfl (by (try simp only [List.map_toArray, List.map_cons, List.map_nil]); first | done | (rw [show y176.length = y172.length from (Kd.Ae HO174.out).1.symm] <;> rfl) | rfl | (simp only [List.length_drop, List.length_take]; rfl)) ?_; (with_reducible refine (Dy.calls k5 _ _ y176 _ _ x18_5 true t178 _ ?side1 ?side2 ?side3 ?side4 A148.out).mono ?_); (case side1 => exact zC (Kd.Ae HO174.out).2.2); (case side2 => rw [show y176.length = y172.length from (Kd.Ae HO174.out).1.symm]; exact (Kd.Ae HO174.out).2.1); (case side3 => exact zC (Kd.Ae HO_18.out).2.2); (case side4 => exact (Kd.Ae HO_18.out).2.1); rintro e w160 ⟨rfl, hb⟩; refine ⟨_, rfl, ?_⟩; have n_ := y5 (Kd.Ap (zR HO_18.out) hb) (Kd.Ap (zR HO_160000.out) hb) (Kd.Ap (zR HO174.out) hb) (zb BK159.out hb) (Ab (zB) hb); clear HO_18 HO_160000 HO174 BK159 HB; obtain ⟨HO_18, HO_160000, HO174, BK159, HB⟩ := n_; (try clear hb)))
                   go_ret
                   exact ⟨zE, zB⟩
                  as_aux_lemma =>
                   replace c150 := Bool.eq_false_iff.mpr c150
                   subst c150
                   rw [if_neg zf] at H
                   have H' := Aa.mk H
                   clear H
                   obtain ⟨hcz161_0, hfz161_0⟩ := zw BK159.out
                   obtain ⟨Ao162, co162, eo162⟩ := Kd.Bb HO_160000.out
                   subst eo162
                   have p168 : 0 ≤ (x181_5 : Int) := zD
                   have q168 : x181_5 < (x160000_5.length : Int) := zD
                   obtain ⟨ad168, e168, hx168_0⟩ := Kd.Cv (Kd.Ae HO_160000.out).2.2 x181_5 p168 q168
                   cases e168
                   replace p168 := eq_true p168
                   replace q168 := eq_true q168
                   go_wp2_with (first | ((with_reducible refine Ay (N := 190) rfl ?_); (try (refine Ed (by rfl) ?_; dsimp only)); refine Kd.Kv (Kd.int .i64) _ 2 ?hg (N := 190) ?hd (xs := ([] : List Int)) (inner := []) (ok := fun _ => True) (okp := fun _ => True) ?hr ?hp (fun _ hk => hk) trivial (Below.refl _ _) (Nat.le_refl _) (by simp) ?_; (case hd => rfl); (case hg => rfl); (case hr => first | (go_simp; done) | (go_simp; rfl)); (case hp => exact (Dk.none _ _)); intro v170 w163 ho164 hb hg_ hnew_; clear hg_ hnew_; (first | rw [← Ny169.out] at ho164 | (simp only [Int.reduceToNat] at ho164; rw [← Ny169.out] at ho164)); have n_ := y5 (Kd.Bu (zR HO_18.out) (Kd.Bs ho164) hb) (Kd.Bu (zR HO_160000.out) (Kd.Bs ho164) hb) (Kd.Bk (Kd.Bt (Kd.Bt ho164 (Kd.Cx (zR HO_18.out))) (Kd.Cx (zR HO_160000.out))) (An (zB))) (zb BK159.out hb) (Ab (zB) hb); clear HO_18 HO_160000 BK159 HB; obtain ⟨HO_18, HO_160000, HO171, BK159, HB⟩ := n_; clear hb ho164; obtain ⟨hcz165_0, hfz165_0⟩ := zw BK159.out) | ((with_reducible refine Dp (b := .append) (xs := #[.tmp 190, .tmp 192]) rfl ?_); (try (refine Ed (by rfl) ?_; dsimp only)); at_builtin; refine Kd.Ln (Kd.int .i64) (w0 := w) w.heap.size rfl (.tmp 190) (.tmp 192) 24 2 (.int .i64 0) 8 rfl Tryz.underlying24 Gb rfl (by decide) (by omega) v170 y169 x160000_5 _ _ _ (fun k_ => some k_ ≠ (.slice Ao115 x18_5.length co115 : Value).ownBlock ∧ some k_ ≠ (.slice (some ad168) x160000_5.length co162 : Value).ownBlock) (fun _ => False) rfl rfl ?aO ?aR (fun _ _ h => h) (fun _ h => h.elim) ?aF ?aB ?aS ?aL ?_; (case aR => repeat (first | exact (Kd.Ae HO_160000.out).2.2 | (with_reducible refine Kd.Fb ?_ _) | (with_reducible refine Kd.Fa ?_ _) | (with_reducible refine Kd.Fv ?_))); (case aB => exact (zB)); (case aF => exact (fun k_ hk => ⟨Kd.fresh' (Kd.Cx (zR HO_18.out)) k_ hk, Kd.fresh' (Kd.Cx (zR HO_160000.out)) k_ hk⟩)); (case aO => exact (by refine zR ?_; exact Kd.Ai HO171.out (fun _ hk => ⟨hk.1.2, hk.2⟩))); (case aS => exact (An (zB))); (case aL => have := LMc145.out; omega); intro v173 w166 ho hb hg hat; rw [← Ny172.out] at ho; have n_ := y5 (Kd.Cp (ok := (fun k_ => some k_ ≠ (.slice (some ad168) x160000_5.length co162 : Value).ownBlock)) (zR HO_18.out) hg hat) (Kd.Cp (ok := (fun k_ => some k_ ≠ (.slice Ao115 x18_5.length co115 : Value).ownBlock)) (zR HO_160000.out) hg hat) (Cm (g := gb159) (o := .cells #[.slice (some ad168) x160000_5.length co162] 26 (0, 0)) (zG BK159.out) hg (Kd.Em HO171.out BK159.out (by decide))) (hb) (ho); clear HO_18 HO_160000 BK159 HB HO171; obtain ⟨HO_18, HO_160000, BK159, HB, HO174⟩ := n_; clear ho hb hg hat; obtain ⟨Ao167, co167, eo167⟩ := Kd.Bb HO174.out; subst eo167; have p175 : 0 ≤ (x181_5 : Int) := zD; have q175 : x181_5 < (y172.length : Int) := zD; obtain ⟨ad175, e175, hx175_0⟩ := Kd.Cv (Kd.Ae HO174.out).2.2 x181_5 p175 q175; cases e175; replace p175 := eq_true p175; replace q175 := eq_true q175; have p147 : 0 ≤ (x181_5 : Int) := zD; have q147 : (x181_5 : Int) < ((y172.length : Int) : Int) := zD; obtain ⟨go147, co147, eo147, gb147, gl147, cl147, HG147⟩ := Kd.Lk HO174.out (by omega); (first | cases eo147 | (injection eo147 with ea_ en_ ec_; (first | subst ea_ | (injection ea_ with ea_; subst ea_)); subst ec_; clear en_)); have GB147 := Aa.mk gb147; have GG147 := Aa.mk HG147; clear gb147 gl147 HG147; (first | simp only [Gw] at hx175_0 | skip); obtain ⟨hx147_0, hf147_0⟩ := Kd.Fx 0 HO174.out (x181_5 : Int) p147 q147; replace p147 := eq_true p147; replace q147 := eq_true q147; obtain ⟨hy168_, hz168_⟩ := Kd.Fx 0 HO174.out (x181_5 : Int) (zD) (zD); have HP168 := Kd.Pu HO174.out (x181_5 : Int) (wrap64 ((rd y172 x181_5) - 1))) | ((with_reducible refine Ku (t := 2) (p := 199) rfl ?_); refine Kh (t := 2) (p := 199) (v := ?vo_w169) (w1 := (w166.setCell ⟨go147, (x181_5 : Int).toNat, none⟩ (.int .i64 (wrap64 ((rd y172 x181_5) - 1))))) ?hg ?ho ?hn ?hr ?_; (case ho => rfl); (case hg => rfl); (case hn => rfl); (case hr => first | (go_simp; done) | (go_simp; rfl)); intro w169 hw; have hg : w166.grownBy w169 (some go147) := (by rw [hw]; exact HP168.2); have hp_ : Kd.R (Kd.int .i64) 2 w169 w.heap.size (fun k_ => some k_ ≠ (.slice Ao115 x18_5.length co115 : Value).ownBlock ∧ some k_ ≠ (.slice (some ad168) x160000_5.length co162 : Value).ownBlock) (.slice (some ⟨go147, 0, none⟩) y172.length co167) y176 := (by rw [hw, Ny176.out]; exact HP168.1); clear HP168; have n_ := y5 (Kd.Cp (v := (.slice (some ⟨go147, 0, none⟩) y172.length co167)) (v1 := (.slice (some ⟨go147, 0, none⟩) y172.length co167)) (ok := (fun k_ => some k_ ≠ (.slice (some ad168) x160000_5.length co162 : Value).ownBlock)) (zR HO_18.out) hg (.inl rfl)) (Kd.Cp (v := (.slice (some ⟨go147, 0, none⟩) y172.length co167)) (v1 := (.slice (some ⟨go147, 0, none⟩) y172.length co167)) (ok := (fun k_ => some k_ ≠ (.slice Ao115 x18_5.length co115 : Value).ownBlock)) (zR HO_160000.out) hg (.inl rfl)) (Cm (g := gb159) (o := .cells #[.slice (some ad168) x160000_5.length co162] 26 (0, 0)) (zG BK159.out) hg (Kd.Em HO174.out BK159.out (by decide))) (hp_) ((by rw [hw]; exact Gl (HB.out) GB147.out : Below w.heap.size w w169)); clear HO_18 HO_160000 BK159 HO174 HB; obtain ⟨HO_18, HO_160000, BK159, HO174, HB⟩ := n_; clear hg hw hp_) | (refine gK 11 ?_; refine Vj (some 204) rfl rfl Tryz.func11 zk rfl #[.agg #[.slice (some ⟨go147, 0, none⟩) y176.length co167], .slice Ao115 x18_5.length co115] rfl (by (try simp only [List.map_toArray, List.map_cons, List.map_nil]); first | done | (rw [show y176.length = y172.length from (Kd.Ae HO174.out).1.symm] <;> rfl) | rfl | (simp only [List.length_drop, List.length_take]; rfl)) ?_; (with_reducible refine (Dy.calls k5 _ _ y176 _ _ x18_5 false t178 _ ?side1 ?side2 ?side3 ?side4 A148.out).mono ?_); (case side1 => exact zC (Kd.Ae HO174.out).2.2); (case side2 => rw [show y176.length = y172.length from (Kd.Ae HO174.out).1.symm]; exact (Kd.Ae HO174.out).2.1); (case side3 => exact zC (Kd.Ae HO_18.out).2.2); (case side4 => exact (Kd.Ae HO_18.out).2.1); rintro e w170 ⟨rfl, hb⟩; refine ⟨_, rfl, ?_⟩; have n_ := y5 (Kd.Ap (zR HO_18.out) hb) (Kd.Ap (zR HO_160000.out) hb) (Kd.Ap (zR HO174.out) hb) (zb BK159.out hb) (Ab (zB) hb); clear HO_18 HO_160000 HO174 BK159 HB; obtain ⟨HO_18, HO_160000, HO174, BK159, HB⟩ := n_; (try clear hb)))
                   (try simp only [← hl18_5])
                   go_roundg k5
                   case measure => have := HJ6.out; have := HJ32.out; have := HJ112.out; have := HJ134.out; have := HK5.out; omega
                   case rel => exact ⟨(x18_5), (wrap64 (x181_5 + 1)), (x160000_5), (.slice (some ad168) x160000_5.length co162), zF, H', ⟨by have := HJ6.out; have := HJ32.out; have := HJ112.out; have := HJ134.out; have := HK5.out; omega⟩, ⟨by (try simp only [hl18_5]); refine zR ?_; exact Kd.Ai HO_18.out (fun _ hk => hk.1)⟩, ⟨by (try simp only [hl18_5]); refine zR ?_; exact Kd.Ai HO_160000.out (fun _ hk => hk.1)⟩, ⟨by (try simp only [hl18_5]); refine zG ?_; exact BK159.out⟩, ⟨zB⟩⟩
          case rest =>
           as_aux_lemma =>
            clear HC132
            try clear c3
            try clear c131
            try clear hcz119_0
            try clear hcz124_0
            try clear hfz119_0
            try clear hfz124_0
            obtain ⟨kq, HA, HJ131, HB⟩ := hcut
            cases kq with
            | zero => exact absurd HA.out (by simp [Ad.j5])
            | succ kj131 =>
             have H := HA.out
             clear HA
             simp only [Ad.j5] at H
             obtain ⟨⟨t179, t182⟩, A183, H⟩ := zO H
             try dsimp only at H
             obtain ⟨⟨t187, t188⟩, A184, H⟩ := zO H
             try dsimp only at H
             obtain ⟨⟨t189, t190⟩, A185, H⟩ := zO H
             try dsimp only at H
             obtain ⟨⟨t191, t192, t193⟩, A186, H⟩ := zO H
             try dsimp only at H
             obtain ⟨⟨t196, t197⟩, A187, H⟩ := zO H
             try dsimp only at H
             obtain ⟨⟨t200, t201⟩, A188, H⟩ := zO H
             try dsimp only at H
             obtain ⟨t204, A189, H⟩ := zO H
             try dsimp only at H
             obtain ⟨⟨t208, t209, t210⟩, A190, H⟩ := zO H
             try dsimp only at H
             obtain ⟨⟨t211, t212, t213⟩, A191, H⟩ := zO H
             try dsimp only at H
             have HC192 := Aa.mk H
             clear H
             go_upto_region 45 with (first | (refine gK 15 ?_; refine gL 215 Tryz.func15 #[.slice A0 l0.length c0] ?_; (with_reducible refine (Ar.calls kj131 _ _ l0 t179 t182 _ ?side1 HC0.out A183.out).mono ?_); (case side1 => exact zC (Kd.Bh HR0.out HB.out)); rintro e w193 ⟨v180, v183, rfl, ho0, ho1, hb⟩; refine ⟨_, rfl, ?_⟩; have n_ := y3 (Kd.Bk ho0 (An (zB))) (Kd.Bk ho1 (An (zB))) (Ab (zB) hb); clear HB; obtain ⟨HO181, HO184, HB⟩ := n_; (try clear ho0 ho1 hb)) | ((with_reducible refine Ay (N := 30) rfl ?_); (try (refine Ed (by rfl) ?_; dsimp only)); refine Be zr (N := 30) zr (cs := #[.slice none 0 0]) (t := 26) zg ?_; intro gb185 hg w194 hbox hb; have n_ := y6 (Kd.Ap (zR HO181.out) hb) (Kd.Ap (zR HO184.out) hb) (Ab (zB) hb) (hbox) ((zS hg : w.heap.size ≤ gb185)) ((zS hg : w.heap.size ≤ gb185)); clear HO181 HO184 HB; obtain ⟨HO181, HO184, HB, BK185, GW185, GE185⟩ := n_; clear hb hbox hg) | ((with_reducible refine Ay (N := 31) rfl ?_); (try (refine Ed (by rfl) ?_; dsimp only)); refine Be zr (N := 31) zr (cs := #[.slice none 0 0]) (t := 26) zg ?_; intro gb186 hg w195 hbox hb; have n_ := y9 (Kd.Ap (zR HO181.out) hb) (Kd.Ap (zR HO184.out) hb) (zb BK185.out hb) (Ab (zB) hb) (hbox) ((zS hg : w.heap.size ≤ gb186)) ((zS hg : w.heap.size ≤ gb186)) ((zL hg BK185.out : gb185 ≠ gb186)) ((zM hg BK185.out : gb186 ≠ gb185)); clear HO181 HO184 BK185 HB; obtain ⟨HO181, HO184, BK185, HB, BK186, GW186, GE186, NB185_186, NB186_185⟩ := n_; clear hb hbox hg; obtain ⟨Ao196, co196, eo196⟩ := Kd.Bb HO181.out; subst eo196; have hnb197 := NB185_186.out; have hnc197 := NB186_185.out; obtain ⟨hcz198_0, hfz198_0⟩ := zw BK185.out; obtain ⟨Ao199, co199, eo199⟩ := Kd.Bb HO184.out; subst eo199; obtain ⟨hcz200_0, hfz200_0⟩ := zw BK186.out) | (refine gK 16 ?_; refine gL 221 Tryz.func16 #[.agg #[.slice Ao196 t179.length co196], .agg #[.slice Ao199 t182.length co199]] ?_; (with_reducible refine (Dh.calls kj131 _ _ t179 _ _ t182 t187 t188 _ ?side1 ?side2 ?side3 ?side4 A184.out).mono ?_); (case side1 => refine (Kd.Ae (e := 2) (base := w.heap.size) (ok := fun k_ => some k_ ≠ (.slice Ao199 t182.length co199 : Value).ownBlock) (n := t179.length) (c := co196) ?_).2.2; exact (by refine zR ?_; exact (Kd.Ai (Kd.Ai (Kd.Dv (p := ⟨gb186, 0, none⟩) (Kd.Dv (p := ⟨gb185, 0, none⟩) (Kd.Cj (Kd.Cj HO181.out BK185.out (by decide)) BK186.out (by decide)) (fun _ hk => hk.1.2) (.slice Ao196 t179.length co196)) (fun _ hk => hk.2) (.slice Ao199 t182.length co199)) (fun _ h_ => h_.1)) (fun _ h_ => h_.1)))); (case side2 => exact (Kd.Ae HO181.out).2.1); (case side3 => refine (Kd.Ae (e := 2) (base := w.heap.size) (ok := fun k_ => some k_ ≠ (.slice Ao196 t179.length co196 : Value).ownBlock) (n := t182.length) (c := co199) ?_).2.2; exact (by refine zR ?_; exact (Kd.Ai (Kd.Ai (Kd.Dv (p := ⟨gb186, 0, none⟩) (Kd.Dv (p := ⟨gb185, 0, none⟩) (Kd.Cj (Kd.Cj HO184.out BK185.out (by decide)) BK186.out (by decide)) (fun _ hk => hk.1.2) (.slice Ao196 t179.length co196)) (fun _ hk => hk.2) (.slice Ao199 t182.length co199)) (fun _ h_ => h_.1)) (fun _ h_ => h_.1)))); (case side4 => exact (Kd.Ae HO184.out).2.1); rintro e w201 ⟨rfl, hb⟩; refine ⟨_, rfl, ?_⟩; have n_ := y5 (Kd.Ap (by refine zR ?_; exact (Kd.Ai (Kd.Ai (Kd.Dv (p := ⟨gb186, 0, none⟩) (Kd.Dv (p := ⟨gb185, 0, none⟩) (Kd.Cj (Kd.Cj HO181.out BK185.out (by decide)) BK186.out (by decide)) (fun _ hk => hk.1.2) (.slice Ao196 t179.length co196)) (fun _ hk => hk.2) (.slice Ao199 t182.length co199)) (fun _ h_ => h_.1)) (fun _ h_ => h_.1))) hb) (Kd.Ap (by refine zR ?_; exact (Kd.Ai (Kd.Ai (Kd.Dv (p := ⟨gb186, 0, none⟩) (Kd.Dv (p := ⟨gb185, 0, none⟩) (Kd.Cj (Kd.Cj HO184.out BK185.out (by decide)) BK186.out (by decide)) (fun _ hk => hk.1.2) (.slice Ao196 t179.length co196)) (fun _ hk => hk.2) (.slice Ao199 t182.length co199)) (fun _ h_ => h_.1)) (fun _ h_ => h_.1))) hb) (Cy (g := gb185) (o := .cells #[.slice Ao196 t179.length co196] 26 (0, 0)) (by refine zG ?_; refine Ce ?_ NB185_186.out _; (with_reducible repeat (first | refine Am ?_ _ | refine Ag ?_ | refine Ak ?_ _)); refine Cl (cs := #[.slice none 0 0]) ?_ 0 _ rfl; (with_reducible repeat (first | refine Am ?_ _ | refine Ag ?_ | refine Ak ?_ _)); exact BK185.out) hb) (Cy (g := gb186) (o := .cells #[.slice Ao199 t182.length co199] 26 (0, 0)) (by (with_reducible repeat (first | refine Am ?_ _ | refine Ag ?_ | refine Ak ?_ _)); refine Cl (cs := #[.slice none 0 0]) ?_ 0 _ rfl; (with_reducible repeat (first | refine Am ?_ _ | refine Ag ?_ | refine Ak ?_ _)); refine Ce ?_ NB186_185.out _; refine zG ?_; exact BK186.out) hb) (Ab (zB) hb); clear HO181 HO184 BK185 BK186 HB; obtain ⟨HO181, HO184, BK185, BK186, HB⟩ := n_; (try clear hb); obtain ⟨hcz202_0, hfz202_0⟩ := zw BK185.out; obtain ⟨hcz203_0, hfz203_0⟩ := zw BK186.out) | (refine gK 17 ?_; refine gL 227 Tryz.func17 #[.agg #[.slice Ao196 t179.length co196], .agg #[.slice Ao199 t182.length co199]] ?_; (with_reducible refine (Cn.calls kj131 _ _ t179 _ _ t182 t189 t190 _ ?side1 ?side2 ?side3 ?side4 A185.out).mono ?_); (case side1 => exact zC (Kd.Ae HO181.out).2.2); (case side2 => exact (Kd.Ae HO181.out).2.1); (case side3 => exact zC (Kd.Ae HO184.out).2.2); (case side4 => exact (Kd.Ae HO184.out).2.1); rintro e w204 ⟨rfl, hb⟩; refine ⟨_, rfl, ?_⟩; have n_ := y5 (Kd.Ap (zR HO181.out) hb) (Kd.Ap (zR HO184.out) hb) (zb BK185.out hb) (zb BK186.out hb) (Ab (zB) hb); clear HO181 HO184 BK185 BK186 HB; obtain ⟨HO181, HO184, BK185, BK186, HB⟩ := n_; (try clear hb)) | (refine gK 18 ?_; refine gL 232 Tryz.func18 #[.slice A0 l0.length c0] ?_; (with_reducible refine (Bq.calls kj131 _ _ l0 t191 t192 t193 _ ?side1 HC0.out A186.out).mono ?_); (case side1 => exact zC (Kd.Bh HR0.out HB.out)); rintro e w205 ⟨v194, rfl, ho0, hb⟩; refine ⟨_, rfl, ?_⟩; have n_ := y6 (Kd.Bu (zR HO181.out) (Kd.Bs ho0) hb) (Kd.Bu (zR HO184.out) (Kd.Bs ho0) hb) (Kd.Bk (Kd.Bt (Kd.Bt ho0 (Kd.Cx (zR HO181.out))) (Kd.Cx (zR HO184.out))) (An (zB))) (zb BK185.out hb) (zb BK186.out hb) (Ab (zB) hb); clear HO181 HO184 BK185 BK186 HB; obtain ⟨HO181, HO184, HO195, BK185, BK186, HB⟩ := n_; (try clear ho0 hb); obtain ⟨Ao206, co206, eo206⟩ := Kd.Bb HO195.out; subst eo206) | (refine gK 10 ?_; refine gL 240 Tryz.func10 #[.slice Ao206 t191.length co206, .int .i64 t192, .int .i64 t193] ?_; (with_reducible refine (Dm.calls kj131 _ _ t191 t192 t193 t196 t197 _ ?side1 ?side2 A187.out).mono ?_); (case side1 => exact zC (Kd.Ae HO195.out).2.2); (case side2 => exact (Kd.Ae HO195.out).2.1); rintro e w207 ⟨v198, rfl, ho0, hb⟩; refine ⟨_, rfl, ?_⟩; have n_ := y7 (Kd.Bu (zR HO181.out) (Kd.Bs ho0) hb) (Kd.Bu (zR HO184.out) (Kd.Bs ho0) hb) (Kd.Bu (zR HO195.out) (Kd.Bs ho0) hb) (Kd.Bk (Kd.Bt (Kd.Bt (Kd.Bt ho0 (Kd.Cx (zR HO181.out))) (Kd.Cx (zR HO184.out))) (Kd.Cx (zR HO195.out))) (An (zB))) (zb BK185.out hb) (zb BK186.out hb) (Ab (zB) hb); clear HO181 HO184 HO195 BK185 BK186 HB; obtain ⟨HO181, HO184, HO195, HO199, BK185, BK186, HB⟩ := n_; (try clear ho0 hb)) | (refine gK 19 ?_; refine gL 247 Tryz.func19 #[.slice Ao206 t191.length co206, .int .i64 t192, .int .i64 t193] ?_; (with_reducible refine (Aj.calls kj131 _ _ t191 t192 t193 t200 t201 _ ?side1 ?side2 A188.out).mono ?_); (case side1 => exact zC (Kd.Ae HO195.out).2.2); (case side2 => exact (Kd.Ae HO195.out).2.1); rintro e w208 ⟨v202, rfl, ho0, hb⟩; refine ⟨_, rfl, ?_⟩; have n_ := y8 (Kd.Bu (zR HO181.out) (Kd.Bs ho0) hb) (Kd.Bu (zR HO184.out) (Kd.Bs ho0) hb) (Kd.Bu (zR HO195.out) (Kd.Bs ho0) hb) (Kd.Bu (zR HO199.out) (Kd.Bs ho0) hb) (Kd.Bk (Kd.Bt (Kd.Bt (Kd.Bt (Kd.Bt ho0 (Kd.Cx (zR HO181.out))) (Kd.Cx (zR HO184.out))) (Kd.Cx (zR HO195.out))) (Kd.Cx (zR HO199.out))) (An (zB))) (zb BK185.out hb) (zb BK186.out hb) (Ab (zB) hb); clear HO181 HO184 HO195 HO199 BK185 BK186 HB; obtain ⟨HO181, HO184, HO195, HO199, HO203, BK185, BK186, HB⟩ := n_; (try clear ho0 hb)) | (refine gK 20 ?_; refine gL 251 Tryz.func20 #[.slice A0 l0.length c0] ?_; (with_reducible refine (Dq.calls kj131 _ _ l0 t204 _ ?side1 HC0.out A189.out).mono ?_); (case side1 => exact zC (Kd.Bh HR0.out HB.out)); rintro e w209 ⟨v205, rfl, ho0, hb⟩; refine ⟨_, rfl, ?_⟩; have n_ := y9 (Kd.Bu (zR HO181.out) (Kd.Bs ho0) hb) (Kd.Bu (zR HO184.out) (Kd.Bs ho0) hb) (Kd.Bu (zR HO195.out) (Kd.Bs ho0) hb) (Kd.Bu (zR HO199.out) (Kd.Bs ho0) hb) (Kd.Bu (zR HO203.out) (Kd.Bs ho0) hb) (Kd.Bk (Kd.Bt (Kd.Bt (Kd.Bt (Kd.Bt (Kd.Bt ho0 (Kd.Cx (zR HO181.out))) (Kd.Cx (zR HO184.out))) (Kd.Cx (zR HO195.out))) (Kd.Cx (zR HO199.out))) (Kd.Cx (zR HO203.out))) (An (zB))) (zb BK185.out hb) (zb BK186.out hb) (Ab (zB) hb); clear HO181 HO184 HO195 HO199 HO203 BK185 BK186 HB; obtain ⟨HO181, HO184, HO195, HO199, HO203, HO206, BK185, BK186, HB⟩ := n_; (try clear ho0 hb)) | ((with_reducible refine Ay (N := 43) rfl ?_); (try (refine Ed (by rfl) ?_; dsimp only)); refine Be zr (N := 43) zr (cs := #[.slice none 0 0]) (t := 26) zg ?_; intro gb207 hg w210 hbox hb; have n_ := y16 (Kd.Ap (zR HO181.out) hb) (Kd.Ap (zR HO184.out) hb) (Kd.Ap (zR HO195.out) hb) (Kd.Ap (zR HO199.out) hb) (Kd.Ap (zR HO203.out) hb) (Kd.Ap (zR HO206.out) hb) (zb BK185.out hb) (zb BK186.out hb) (Ab (zB) hb) (hbox) ((zS hg : w.heap.size ≤ gb207)) ((zS hg : w.heap.size ≤ gb207)) ((zL hg BK185.out : gb185 ≠ gb207)) ((zM hg BK185.out : gb207 ≠ gb185)) ((zL hg BK186.out : gb186 ≠ gb207)) ((zM hg BK186.out : gb207 ≠ gb186)); clear HO181 HO184 HO195 HO199 HO203 HO206 BK185 BK186 HB; obtain ⟨HO181, HO184, HO195, HO199, HO203, HO206, BK185, BK186, HB, BK207, GW207, GE207, NB185_207, NB207_185, NB186_207, NB207_186⟩ := n_; clear hb hbox hg; obtain ⟨Ao211, co211, eo211⟩ := Kd.Bb HO206.out; subst eo211; have hnb212 := NB207_185.out; have hnc212 := NB185_207.out; have hnb213 := NB207_186.out; have hnc213 := NB186_207.out; obtain ⟨hcz214_0, hfz214_0⟩ := zw BK207.out) | (refine gK 21 ?_; refine gL 254 Tryz.func21 #[.agg #[.slice Ao211 t204.length co211]] ?_; (with_reducible refine (Da.calls kj131 _ _ t204 t208 t209 t210 _ ?side1 ?side2 A190.out).mono ?_); (case side1 => exact (zQ HO206.out BK207.out)); (case side2 => exact (Kd.Ae HO206.out).2.1); rintro e w215 ⟨rfl, hb⟩; refine ⟨_, rfl, ?_⟩; have n_ := y10 (Kd.Ap (zV HO181.out BK207.out) hb) (Kd.Ap (zV HO184.out BK207.out) hb) (Kd.Ap (zV HO195.out BK207.out) hb) (Kd.Ap (zV HO199.out BK207.out) hb) (Kd.Ap (zV HO203.out BK207.out) hb) (Kd.Ap (zV HO206.out BK207.out) hb) (Cy (g := gb185) (o := .cells #[.slice Ao196 t179.length co196] 26 (0, 0)) (by refine zG ?_; refine Ce ?_ NB185_207.out _; refine zG ?_; exact BK185.out) hb) (Cy (g := gb186) (o := .cells #[.slice Ao199 t182.length co199] 26 (0, 0)) (by refine zG ?_; refine Ce ?_ NB186_207.out _; refine zG ?_; exact BK186.out) hb) (Cy (g := gb207) (o := .cells #[.slice Ao211 t204.length co211] 26 (0, 0)) (by (with_reducible repeat (first | refine Am ?_ _ | refine Ag ?_ | refine Ak ?_ _)); refine Cl (cs := #[.slice none 0 0]) ?_ 0 _ rfl; (with_reducible repeat (first | refine Am ?_ _ | refine Ag ?_ | refine Ak ?_ _)); exact BK207.out) hb) (Ab (zB) hb); clear HO181 HO184 HO195 HO199 HO203 HO206 BK185 BK186 BK207 HB; obtain ⟨HO181, HO184, HO195, HO199, HO203, HO206, BK185, BK186, BK207, HB⟩ := n_; (try clear hb); obtain ⟨hcz216_0, hfz216_0⟩ := zw BK207.out) | (refine gK 22 ?_; refine gL 260 Tryz.func22 #[.agg #[.slice Ao211 t204.length co211]] ?_; (with_reducible refine (Ch.calls kj131 _ _ t204 t211 t212 t213 _ ?side1 ?side2 A191.out).mono ?_); (case side1 => exact zC (Kd.Ae HO206.out).2.2); (case side2 => exact (Kd.Ae HO206.out).2.1); rintro e w217 ⟨rfl, hb⟩; refine ⟨_, rfl, ?_⟩; have n_ := y10 (Kd.Ap (zR HO181.out) hb) (Kd.Ap (zR HO184.out) hb) (Kd.Ap (zR HO195.out) hb) (Kd.Ap (zR HO199.out) hb) (Kd.Ap (zR HO203.out) hb) (Kd.Ap (zR HO206.out) hb) (zb BK185.out hb) (zb BK186.out hb) (zb BK207.out hb) (Ab (zB) hb); clear HO181 HO184 HO195 HO199 HO203 HO206 BK185 BK186 BK207 HB; obtain ⟨HO181, HO184, HO195, HO199, HO203, HO206, BK185, BK186, BK207, HB⟩ := n_; (try clear hb)))
             (try simp only [Act.put, List.setIfInBounds_toArray, List.set_cons_zero, List.set_cons_succ])
             go_cut [297] (fun u297_ wc => ∃ (kq : Nat) (x297_191 : Bool), u297_ = .bool x297_191 ∧ Aa (Ad.j6 kq t187 x297_191 t179 t182 = some r) ∧ Aa (kq ≤ kj131) ∧ Aa (Kd.R (Kd.int .i64) 2 wc w.heap.size (fun k_ => some k_ ≠ ((.slice Ao199 t182.length co199) : Value).ownBlock) (.slice Ao196 t179.length co196) t179) ∧ Aa (Kd.R (Kd.int .i64) 2 wc w.heap.size (fun k_ => some k_ ≠ ((.slice Ao196 t179.length co196) : Value).ownBlock) (.slice Ao199 t182.length co199) t182) ∧ Aa (wc.heap[gb185]? = some (.cells #[(.slice Ao196 t179.length co196)] 26 (0, 0))) ∧ Aa (wc.heap[gb186]? = some (.cells #[(.slice Ao199 t182.length co199)] 26 (0, 0))) ∧ Aa (Below w.heap.size w wc))
             case first =>
              as_aux_lemma =>
               have H := HC192.out
               clear HC192
               by_cases c218 : t188 = t190
               case neg =>
                as_aux_lemma =>
                 rw [if_neg c218] at H
                 have c218b0 : (t188 == t190) = false := beq_eq_false_iff_ne.mpr c218
                 have c218b1 : (t188 != t190) = true := bne_iff_ne.mpr c218
                 (first | rw [c218b0] | (simp only [Ec, En]; rw [c218b0]) | skip)
                 have H' := Aa.mk H
                 clear H
                 go_wp2
                 go_meet
                 case rel => exact ⟨_, (true), zF, H', ⟨by have := HJ6.out; have := HJ32.out; have := HJ112.out; have := HJ131.out; first | omega | exact Nat.le_refl _⟩, ⟨by refine zR ?_; exact Kd.Ai HO181.out (fun _ hk => hk.1.1.1.1)⟩, ⟨by refine zR ?_; exact Kd.Ai HO184.out (fun _ hk => hk.1.1.1.1)⟩, ⟨zG BK185.out⟩, ⟨zG BK186.out⟩, ⟨zB⟩⟩
               rw [if_pos c218] at H
               have c218b0 : (t188 == t190) = true := beq_iff_eq.mpr c218
               have c218b1 : (t188 != t190) = false := bne_eq_false_iff_eq.mpr c218
               clear c218
               (first | rw [c218b0] | (simp only [Ec, En]; rw [c218b0]) | skip)
               by_cases c219 : (t187 != t189) = true
               ·
                as_aux_lemma =>
                 rw [if_pos c219] at H
                 have c219b0 : (t187 != t189) = true := c219
                 (try (have c219b1 : decide (t187 = t189) = false := by simpa using c219))
                 (try (have c219b2 : (t187 == t189) = false := by simpa using c219))
                 (try (have c219b3 : ¬ (t187 = t189) := by simpa using c219))
                 clear c219
                 have H' := Aa.mk H
                 clear H
                 go_wp2
                 go_meet
                 case rel => exact ⟨_, (true), zF, H', ⟨by have := HJ6.out; have := HJ32.out; have := HJ112.out; have := HJ131.out; first | omega | exact Nat.le_refl _⟩, ⟨by refine zR ?_; exact Kd.Ai HO181.out (fun _ hk => hk.1.1.1.1)⟩, ⟨by refine zR ?_; exact Kd.Ai HO184.out (fun _ hk => hk.1.1.1.1)⟩, ⟨zG BK185.out⟩, ⟨zG BK186.out⟩, ⟨zB⟩⟩
               rw [if_neg c219] at H
               have c219b0 : (t187 != t189) = false := by simpa using c219
               (try (have c219b1 : decide (t187 = t189) = true := by simpa using c219))
               (try (have c219b2 : (t187 == t189) = true := by simpa using c219))
               clear c219
               by_cases c220 : t197 = t201
               case neg =>
                as_aux_lemma =>
                 rw [if_neg c220] at H
                 have c220b0 : (t197 == t201) = false := beq_eq_false_iff_ne.mpr c220
                 have c220b1 : (t197 != t201) = true := bne_iff_ne.mpr c220
                 have H' := Aa.mk H
                 clear H
                 go_wp2
                 go_meet
                 case rel => exact ⟨_, (true), zF, H', ⟨by have := HJ6.out; have := HJ32.out; have := HJ112.out; have := HJ131.out; first | omega | exact Nat.le_refl _⟩, ⟨by refine zR ?_; exact Kd.Ai HO181.out (fun _ hk => hk.1.1.1.1)⟩, ⟨by refine zR ?_; exact Kd.Ai HO184.out (fun _ hk => hk.1.1.1.1)⟩, ⟨zG BK185.out⟩, ⟨zG BK186.out⟩, ⟨zB⟩⟩
               rw [if_pos c220] at H
               have c220b0 : (t197 == t201) = true := beq_iff_eq.mpr c220
               have c220b1 : (t197 != t201) = false := bne_eq_false_iff_eq.mpr c220
               clear c220
               obtain ⟨t214, A221, H⟩ := zO H
               try dsimp only at H
               by_cases c222 : t214 = true
               case neg =>
                as_aux_lemma =>
                 replace c222 := Bool.eq_false_iff.mpr c222
                 subst c222
                 rw [if_neg zf] at H
                 have H' := Aa.mk H
                 clear H
                 obtain ⟨Ao231, co231, eo231⟩ := Kd.Bb HO199.out
                 subst eo231
                 obtain ⟨Ao232, co232, eo232⟩ := Kd.Bb HO203.out
                 subst eo232
                 go_wp2_with (first | (go_at_call 23; (with_reducible refine (Cs.calls kj131 _ _ t196 _ _ t200 false _ ?side1 ?side2 ?side3 ?side4 A221.out).mono ?_); (case side1 => exact zC (Kd.Ae HO199.out).2.2); (case side2 => exact (Kd.Ae HO199.out).2.1); (case side3 => exact zC (Kd.Ae HO203.out).2.2); (case side4 => exact (Kd.Ae HO203.out).2.1); rintro e w' ⟨rfl, ⟨nd, rfl⟩⟩))
                 go_meet
                 case rel => exact ⟨_, (true), zF, H', ⟨by have := HJ6.out; have := HJ32.out; have := HJ112.out; have := HJ131.out; first | omega | exact Nat.le_refl _⟩, ⟨by refine zR ?_; exact Kd.Ai HO181.out (fun _ hk => hk.1.1.1.1)⟩, ⟨by refine zR ?_; exact Kd.Ai HO184.out (fun _ hk => hk.1.1.1.1)⟩, ⟨zG BK185.out⟩, ⟨zG BK186.out⟩, ⟨zB⟩⟩
               subst c222
               rw [if_pos rfl] at H
               by_cases c223 : t210 = t213
               case neg =>
                as_aux_lemma =>
                 rw [if_neg c223] at H
                 have c223b0 : (t210 == t213) = false := beq_eq_false_iff_ne.mpr c223
                 have c223b1 : (t210 != t213) = true := bne_iff_ne.mpr c223
                 have H' := Aa.mk H
                 clear H
                 obtain ⟨Ao229, co229, eo229⟩ := Kd.Bb HO199.out
                 subst eo229
                 obtain ⟨Ao230, co230, eo230⟩ := Kd.Bb HO203.out
                 subst eo230
                 go_wp2_with (first | (go_at_call 23; (with_reducible refine (Cs.calls kj131 _ _ t196 _ _ t200 true _ ?side1 ?side2 ?side3 ?side4 A221.out).mono ?_); (case side1 => exact zC (Kd.Ae HO199.out).2.2); (case side2 => exact (Kd.Ae HO199.out).2.1); (case side3 => exact zC (Kd.Ae HO203.out).2.2); (case side4 => exact (Kd.Ae HO203.out).2.1); rintro e w' ⟨rfl, ⟨nd, rfl⟩⟩))
                 go_meet
                 case rel => exact ⟨_, (true), zF, H', ⟨by have := HJ6.out; have := HJ32.out; have := HJ112.out; have := HJ131.out; first | omega | exact Nat.le_refl _⟩, ⟨by refine zR ?_; exact Kd.Ai HO181.out (fun _ hk => hk.1.1.1.1)⟩, ⟨by refine zR ?_; exact Kd.Ai HO184.out (fun _ hk => hk.1.1.1.1)⟩, ⟨zG BK185.out⟩, ⟨zG BK186.out⟩, ⟨zB⟩⟩
               rw [if_pos c223] at H
               have c223b0 : (t210 == t213) = true := beq_iff_eq.mpr c223
               have c223b1 : (t210 != t213) = false := bne_eq_false_iff_eq.mpr c223
               clear c223
               by_cases c224 : t208 = t211
               ·
                as_aux_lemma =>
                 rw [if_pos c224] at H
                 have c224b0 : (t208 == t211) = true := beq_iff_eq.mpr c224
                 have c224b1 : (t208 != t211) = false := bne_eq_false_iff_eq.mpr c224
                 clear c224
                 have H' := Aa.mk H
                 clear H
                 obtain ⟨Ao225, co225, eo225⟩ := Kd.Bb HO199.out
                 subst eo225
                 obtain ⟨Ao226, co226, eo226⟩ := Kd.Bb HO203.out
                 subst eo226
                 go_wp2_with (first | (go_at_call 23; (with_reducible refine (Cs.calls kj131 _ _ t196 _ _ t200 true _ ?side1 ?side2 ?side3 ?side4 A221.out).mono ?_); (case side1 => exact zC (Kd.Ae HO199.out).2.2); (case side2 => exact (Kd.Ae HO199.out).2.1); (case side3 => exact zC (Kd.Ae HO203.out).2.2); (case side4 => exact (Kd.Ae HO203.out).2.1); rintro e w' ⟨rfl, ⟨nd, rfl⟩⟩))
                 go_meet
                 case rel => exact ⟨_, ((t209 != t212)), zF, H', ⟨by have := HJ6.out; have := HJ32.out; have := HJ112.out; have := HJ131.out; first | omega | exact Nat.le_refl _⟩, ⟨by refine zR ?_; exact Kd.Ai HO181.out (fun _ hk => hk.1.1.1.1)⟩, ⟨by refine zR ?_; exact Kd.Ai HO184.out (fun _ hk => hk.1.1.1.1)⟩, ⟨zG BK185.out⟩, ⟨zG BK186.out⟩, ⟨zB⟩⟩
               as_aux_lemma =>
                rw [if_neg c224] at H
                have c224b0 : (t208 == t211) = false := beq_eq_false_iff_ne.mpr c224
                have c224b1 : (t208 != t211) = true := bne_iff_ne.mpr c224
                have H' := Aa.mk H
                clear H
                obtain ⟨Ao227, co227, eo227⟩ := Kd.Bb HO199.out
                subst eo227
                obtain ⟨Ao228, co228, eo228⟩ := Kd.Bb HO203.out
                subst eo228
                go_wp2_with (first | (go_at_call 23; (with_reducible refine (Cs.calls kj131 _ _ t196 _ _ t200 true _ ?side1 ?side2 ?side3 ?side4 A221.out).mono ?_); (case side1 => exact zC (Kd.Ae HO199.out).2.2); (case side2 => exact (Kd.Ae HO199.out).2.1); (case side3 => exact zC (Kd.Ae HO203.out).2.2); (case side4 => exact (Kd.Ae HO203.out).2.1); rintro e w' ⟨rfl, ⟨nd, rfl⟩⟩))
                go_meet
                case rel => exact ⟨_, (true), zF, H', ⟨by have := HJ6.out; have := HJ32.out; have := HJ112.out; have := HJ131.out; first | omega | exact Nat.le_refl _⟩, ⟨by refine zR ?_; exact Kd.Ai HO181.out (fun _ hk => hk.1.1.1.1)⟩, ⟨by refine zR ?_; exact Kd.Ai HO184.out (fun _ hk => hk.1.1.1.1)⟩, ⟨zG BK185.out⟩, ⟨zG BK186.out⟩, ⟨zB⟩⟩
             case rest =>
              as_aux_lemma =>
               clear HC192
               try clear c3
               try clear c131
               try clear hcz119_0
               try clear hcz124_0
               try clear hcz198_0
               try clear hcz200_0
               try clear hcz202_0
               try clear hcz203_0
               try clear hcz214_0
               try clear hcz216_0
               try clear hfz119_0
               try clear hfz124_0
               try clear hfz198_0
               try clear hfz200_0
               try clear hfz202_0
               try clear hfz203_0
               try clear hfz214_0
               try clear hfz216_0
               obtain ⟨kq, x297_191, rfl, HA, HJ191, HO_186000, HO_187000, BK185, BK186, HB⟩ := hcut
               cases kq with
               | zero => exact absurd HA.out (by simp [Ad.j6])
               | succ kj191 =>
                have H := HA.out
                clear HA
                simp only [Ad.j6] at H
                by_cases c233 : x297_191 = true
                ·
                 subst c233
                 rw [if_pos rfl] at H
                 obtain rfl := Option.some.inj H
                 go_wp2
                 go_ret
                 exact ⟨zE, zB⟩
                replace c233 := Bool.eq_false_iff.mpr c233
                subst c233
                rw [if_neg zf] at H
                by_cases c234 : t187 = true
                case neg =>
                 replace c234 := Bool.eq_false_iff.mpr c234
                 subst c234
                 rw [if_neg zf] at H
                 obtain rfl := Option.some.inj H
                 go_wp2
                 go_ret
                 exact ⟨zE, zB⟩
                subst c234
                rw [if_pos rfl] at H
                obtain ⟨⟨t215, t218, t221⟩, A235, H⟩ := zO H
                try dsimp only at H
                obtain ⟨⟨t223, t226, t229⟩, A236, H⟩ := zO H
                try dsimp only at H
                have HC237 := Aa.mk H
                clear H
                have hnb238 := NB185_186.out
                have hnc238 := NB186_185.out
                obtain ⟨hcz239_0, hfz239_0⟩ := zw BK185.out
                go_upto_region 50 with (first | (refine gK 24 ?_; refine gL 301 Tryz.func24 #[.agg #[.slice Ao196 t179.length co196]] ?_; (with_reducible refine (Et.calls kj191 _ _ t179 t215 t218 t221 _ ?side1 ?side2 A235.out).mono ?_); (case side1 => exact zC (Kd.Ae HO_186000.out).2.2); (case side2 => exact (Kd.Ae HO_186000.out).2.1); rintro e w240 ⟨v216, v219, rfl, ho0, ho1, hb⟩; refine ⟨_, rfl, ?_⟩; have n_ := y7 (Kd.Ai (Kd.Ez (Kd.Ez (Kd.Mh (zR HO_186000.out) hb) (Kd.Bs ho0)) (Kd.Bs ho1)) (fun _ h_ => h_.1)) (Kd.Ai (Kd.Ez (Kd.Ez (Kd.Mh (zR HO_187000.out) hb) (Kd.Bs ho0)) (Kd.Bs ho1)) (fun _ h_ => h_.1)) (Kd.Bk (Kd.Bt (Kd.Bt ho0 (Kd.Cx (zR HO_186000.out))) (Kd.Cx (zR HO_187000.out))) (An (zB))) (Kd.Bk (Kd.Bt (Kd.Bt ho1 (Kd.Cx (zR HO_186000.out))) (Kd.Cx (zR HO_187000.out))) (An (zB))) (zb BK185.out hb) (zb BK186.out hb) (Ab (zB) hb); clear HO_186000 HO_187000 BK185 BK186 HB; obtain ⟨HO_186000, HO_187000, HO217, HO220, BK185, BK186, HB⟩ := n_; (try clear ho0 ho1 hb)) | ((with_reducible refine Ay (N := 50) rfl ?_); (try (refine Ed (by rfl) ?_; dsimp only)); refine Be zr (N := 50) zr (cs := #[.slice none 0 0]) (t := 26) zg ?_; intro gb222 hg w241 hbox hb; have n_ := y14 (Kd.Ap (zR HO_186000.out) hb) (Kd.Ap (zR HO_187000.out) hb) (Kd.Ap (zR HO217.out) hb) (Kd.Ap (zR HO220.out) hb) (zb BK185.out hb) (zb BK186.out hb) (Ab (zB) hb) (hbox) ((zS hg : w.heap.size ≤ gb222)) ((zS hg : w.heap.size ≤ gb222)) ((zL hg BK185.out : gb185 ≠ gb222)) ((zM hg BK185.out : gb222 ≠ gb185)) ((zL hg BK186.out : gb186 ≠ gb222)) ((zM hg BK186.out : gb222 ≠ gb186)); clear HO_186000 HO_187000 HO217 HO220 BK185 BK186 HB; obtain ⟨HO_186000, HO_187000, HO217, HO220, BK185, BK186, HB, BK222, GW222, GE222, NB185_222, NB222_185, NB186_222, NB222_186⟩ := n_; clear hb hbox hg; obtain ⟨Ao242, co242, eo242⟩ := Kd.Bb HO217.out; subst eo242; have hnb243 := NB222_185.out; have hnc243 := NB185_222.out; have hnb244 := NB222_186.out; have hnc244 := NB186_222.out; obtain ⟨hcz245_0, hfz245_0⟩ := zw BK222.out; obtain ⟨hcz246_0, hfz246_0⟩ := zw BK186.out) | (refine gK 24 ?_; refine gL 307 Tryz.func24 #[.agg #[.slice Ao199 t182.length co199]] ?_; (with_reducible refine (Et.calls kj191 _ _ t182 t223 t226 t229 _ ?side1 ?side2 A236.out).mono ?_); (case side1 => exact (zQ HO_187000.out BK222.out)); (case side2 => exact (Kd.Ae HO_187000.out).2.1); rintro e w247 ⟨v224, v227, rfl, ho0, ho1, hb⟩; refine ⟨_, rfl, ?_⟩; have n_ := y10 (Kd.Ai (Kd.Ez (Kd.Ez (Kd.Mh (zV HO_186000.out BK222.out) hb) (Kd.Bs ho0)) (Kd.Bs ho1)) (fun _ h_ => h_.1)) (Kd.Ai (Kd.Ez (Kd.Ez (Kd.Mh (zV HO_187000.out BK222.out) hb) (Kd.Bs ho0)) (Kd.Bs ho1)) (fun _ h_ => h_.1)) (Kd.Ai (Kd.Ez (Kd.Ez (Kd.Mh (zV HO217.out BK222.out) hb) (Kd.Bs ho0)) (Kd.Bs ho1)) (fun _ h_ => h_.1)) (Kd.Ai (Kd.Ez (Kd.Ez (Kd.Mh (zV HO220.out BK222.out) hb) (Kd.Bs ho0)) (Kd.Bs ho1)) (fun _ h_ => h_.1)) (Kd.Bk (Kd.Bt (Kd.Bt (Kd.Bt (Kd.Bt ho0 (Kd.Cx (zV HO_186000.out BK222.out))) (Kd.Cx (zV HO_187000.out BK222.out))) (Kd.Cx (zV HO217.out BK222.out))) (Kd.Cx (zV HO220.out BK222.out))) (An (zB))) (Kd.Bk (Kd.Bt (Kd.Bt (Kd.Bt (Kd.Bt ho1 (Kd.Cx (zV HO_186000.out BK222.out))) (Kd.Cx (zV HO_187000.out BK222.out))) (Kd.Cx (zV HO217.out BK222.out))) (Kd.Cx (zV HO220.out BK222.out))) (An (zB))) (Cy (g := gb185) (o := .cells #[.slice Ao196 t179.length co196] 26 (0, 0)) (by refine zG ?_; refine Ce ?_ NB185_222.out _; refine zG ?_; exact BK185.out) hb) (Cy (g := gb186) (o := .cells #[.slice Ao199 t182.length co199] 26 (0, 0)) (by refine zG ?_; refine Ce ?_ NB186_222.out _; refine zG ?_; exact BK186.out) hb) (Cy (g := gb222) (o := .cells #[.slice Ao242 t215.length co242] 26 (0, 0)) (by (with_reducible repeat (first | refine Am ?_ _ | refine Ag ?_ | refine Ak ?_ _)); refine Cl (cs := #[.slice none 0 0]) ?_ 0 _ rfl; (with_reducible repeat (first | refine Am ?_ _ | refine Ag ?_ | refine Ak ?_ _)); exact BK222.out) hb) (Ab (zB) hb); clear HO_186000 HO_187000 HO217 HO220 BK185 BK186 BK222 HB; obtain ⟨HO_186000, HO_187000, HO217, HO220, HO225, HO228, BK185, BK186, BK222, HB⟩ := n_; (try clear ho0 ho1 hb)) | ((with_reducible refine Ay (N := 53) rfl ?_); (try (refine Ed (by rfl) ?_; dsimp only)); refine Be zr (N := 53) zr (cs := #[.slice none 0 0]) (t := 26) zg ?_; intro gb230 hg w248 hbox hb; have n_ := y19 (Kd.Ap (zR HO_186000.out) hb) (Kd.Ap (zR HO_187000.out) hb) (Kd.Ap (zR HO217.out) hb) (Kd.Ap (zR HO220.out) hb) (Kd.Ap (zR HO225.out) hb) (Kd.Ap (zR HO228.out) hb) (zb BK185.out hb) (zb BK186.out hb) (zb BK222.out hb) (Ab (zB) hb) (hbox) ((zS hg : w.heap.size ≤ gb230)) ((zS hg : w.heap.size ≤ gb230)) ((zL hg BK185.out : gb185 ≠ gb230)) ((zM hg BK185.out : gb230 ≠ gb185)) ((zL hg BK186.out : gb186 ≠ gb230)) ((zM hg BK186.out : gb230 ≠ gb186)) ((zL hg BK222.out : gb222 ≠ gb230)) ((zM hg BK222.out : gb230 ≠ gb222)); clear HO_186000 HO_187000 HO217 HO220 HO225 HO228 BK185 BK186 BK222 HB; obtain ⟨HO_186000, HO_187000, HO217, HO220, HO225, HO228, BK185, BK186, BK222, HB, BK230, GW230, GE230, NB185_230, NB230_185, NB186_230, NB230_186, NB222_230, NB230_222⟩ := n_; clear hb hbox hg; obtain ⟨Ao249, co249, eo249⟩ := Kd.Bb HO225.out; subst eo249; have hnb250 := NB230_185.out; have hnc250 := NB185_230.out; have hnb251 := NB230_186.out; have hnc251 := NB186_230.out; have hnb252 := NB230_222.out; have hnc252 := NB222_230.out; obtain ⟨hcz253_0, hfz253_0⟩ := zw BK230.out))
                (try simp only [Act.put, List.setIfInBounds_toArray, List.set_cons_zero, List.set_cons_succ])
                go_cut [343] (fun u343_ wc => ∃ (kq : Nat) (x343_236 : Bool), u343_ = .bool x343_236 ∧ Aa (Ad.j7 kq x343_236 t215 t223 = some r) ∧ Aa (kq ≤ kj191) ∧ Aa (Kd.R (Kd.int .i64) 2 wc w.heap.size (fun k_ => some k_ ≠ ((.slice Ao249 t223.length co249) : Value).ownBlock) (.slice Ao242 t215.length co242) t215) ∧ Aa (Kd.R (Kd.int .i64) 2 wc w.heap.size (fun k_ => some k_ ≠ ((.slice Ao242 t215.length co242) : Value).ownBlock) (.slice Ao249 t223.length co249) t223) ∧ Aa (wc.heap[gb222]? = some (.cells #[(.slice Ao242 t215.length co242)] 26 (0, 0))) ∧ Aa (wc.heap[gb230]? = some (.cells #[(.slice Ao249 t223.length co249)] 26 (0, 0))) ∧ Aa (Below w.heap.size w wc))
                case first =>
                 as_aux_lemma =>
                  have H := HC237.out
                  clear HC237
                  by_cases c254 : t221 = 0
                  case neg =>
                   as_aux_lemma =>
                    rw [if_neg c254] at H
                    have c254b0 : (t221 == 0) = false := beq_eq_false_iff_ne.mpr c254
                    have c254b1 : (t221 != 0) = true := bne_iff_ne.mpr c254
                    (first | rw [c254b0] | (simp only [Ec, En]; rw [c254b0]) | skip)
                    have H' := Aa.mk H
                    clear H
                    go_wp2
                    go_meet
                    case rel => exact ⟨_, (true), zF, H', ⟨by have := HJ6.out; have := HJ32.out; have := HJ112.out; have := HJ131.out; have := HJ191.out; first | omega | exact Nat.le_refl _⟩, ⟨by refine zR ?_; exact Kd.Ai (Kd.Dv (p := ⟨gb230, 0, none⟩) (Kd.Cj HO217.out BK230.out (by decide)) (fun _ hk => hk.2) (.slice Ao249 t223.length co249)) (fun _ hk => hk.1.1.2)⟩, ⟨by refine zR ?_; exact Kd.Ai (Kd.Dv (p := ⟨gb230, 0, none⟩) (Kd.Cj HO225.out BK230.out (by decide)) (fun _ hk => hk.2) (.slice Ao249 t223.length co249)) (fun _ hk => hk.1.1.2)⟩, ⟨by refine zG ?_; refine Ce ?_ NB222_230.out _; refine zG ?_; exact BK222.out⟩, ⟨by (with_reducible repeat (first | refine Am ?_ _ | refine Ag ?_ | refine Ak ?_ _)); refine Cl (cs := #[.slice none 0 0]) ?_ 0 _ rfl; (with_reducible repeat (first | refine Am ?_ _ | refine Ag ?_ | refine Ak ?_ _)); exact BK230.out⟩, ⟨zB⟩⟩
                  rw [if_pos c254] at H
                  have c254b0 : (t221 == 0) = true := beq_iff_eq.mpr c254
                  have c254b1 : (t221 != 0) = false := bne_eq_false_iff_eq.mpr c254
                  clear c254
                  (first | rw [c254b0] | (simp only [Ec, En]; rw [c254b0]) | skip)
                  by_cases c255 : t229 = 0
                  case neg =>
                   as_aux_lemma =>
                    rw [if_neg c255] at H
                    have c255b0 : (t229 == 0) = false := beq_eq_false_iff_ne.mpr c255
                    have c255b1 : (t229 != 0) = true := bne_iff_ne.mpr c255
                    have H' := Aa.mk H
                    clear H
                    go_wp2
                    go_meet
                    case rel => exact ⟨_, (true), zF, H', ⟨by have := HJ6.out; have := HJ32.out; have := HJ112.out; have := HJ131.out; have := HJ191.out; first | omega | exact Nat.le_refl _⟩, ⟨by refine zR ?_; exact Kd.Ai (Kd.Dv (p := ⟨gb230, 0, none⟩) (Kd.Cj HO217.out BK230.out (by decide)) (fun _ hk => hk.2) (.slice Ao249 t223.length co249)) (fun _ hk => hk.1.1.2)⟩, ⟨by refine zR ?_; exact Kd.Ai (Kd.Dv (p := ⟨gb230, 0, none⟩) (Kd.Cj HO225.out BK230.out (by decide)) (fun _ hk => hk.2) (.slice Ao249 t223.length co249)) (fun _ hk => hk.1.1.2)⟩, ⟨by refine zG ?_; refine Ce ?_ NB222_230.out _; refine zG ?_; exact BK222.out⟩, ⟨by (with_reducible repeat (first | refine Am ?_ _ | refine Ag ?_ | refine Ak ?_ _)); refine Cl (cs := #[.slice none 0 0]) ?_ 0 _ rfl; (with_reducible repeat (first | refine Am ?_ _ | refine Ag ?_ | refine Ak ?_ _)); exact BK230.out⟩, ⟨zB⟩⟩
                  rw [if_pos c255] at H
                  have c255b0 : (t229 == 0) = true := beq_iff_eq.mpr c255
                  have c255b1 : (t229 != 0) = false := bne_eq_false_iff_eq.mpr c255
                  clear c255
                  by_cases c256 : (t223.length : Int) = (t182.length : Int)
                  case neg =>
                   as_aux_lemma =>
                    rw [if_neg c256] at H
                    have c256b0 : ((t223.length : Int) == (t182.length : Int)) = false := beq_eq_false_iff_ne.mpr c256
                    have c256b1 : ((t223.length : Int) != (t182.length : Int)) = true := bne_iff_ne.mpr c256
                    have c256b2 : (t223.length == t182.length) = false := by first | simpa using c256 | (simp at c256 ⊢; omega)
                    have H' := Aa.mk H
                    clear H
                    have hnb278 := NB230_185.out
                    have hnc278 := NB185_230.out
                    have hnb279 := NB230_186.out
                    have hnc279 := NB186_230.out
                    have hnb280 := NB230_222.out
                    have hnc280 := NB222_230.out
                    obtain ⟨hcz281_0, hfz281_0⟩ := zw BK230.out
                    have hnb282 := NB186_185.out
                    have hnc282 := NB185_186.out
                    have hnb283 := NB186_222.out
                    have hnc283 := NB222_186.out
                    obtain ⟨hcz284_0, hfz284_0⟩ := zw BK186.out
                    go_wp2
                    go_meet
                    case rel => exact ⟨_, (true), zF, H', ⟨by have := HJ6.out; have := HJ32.out; have := HJ112.out; have := HJ131.out; have := HJ191.out; first | omega | exact Nat.le_refl _⟩, ⟨by refine zR ?_; exact Kd.Ai (Kd.Dv (p := ⟨gb230, 0, none⟩) (Kd.Cj HO217.out BK230.out (by decide)) (fun _ hk => hk.2) (.slice Ao249 t223.length co249)) (fun _ hk => hk.1.1.2)⟩, ⟨by refine zR ?_; exact Kd.Ai (Kd.Dv (p := ⟨gb230, 0, none⟩) (Kd.Cj HO225.out BK230.out (by decide)) (fun _ hk => hk.2) (.slice Ao249 t223.length co249)) (fun _ hk => hk.1.1.2)⟩, ⟨by refine zG ?_; refine Ce ?_ NB222_230.out _; refine zG ?_; exact BK222.out⟩, ⟨by (with_reducible repeat (first | refine Am ?_ _ | refine Ag ?_ | refine Ak ?_ _)); refine Cl (cs := #[.slice none 0 0]) ?_ 0 _ rfl; (with_reducible repeat (first | refine Am ?_ _ | refine Ag ?_ | refine Ak ?_ _)); exact BK230.out⟩, ⟨zB⟩⟩
                  rw [if_pos c256] at H
                  have c256b0 : ((t223.length : Int) == (t182.length : Int)) = true := beq_iff_eq.mpr c256
                  have c256b1 : ((t223.length : Int) != (t182.length : Int)) = false := bne_eq_false_iff_eq.mpr c256
                  have c256b2 : (t223.length == t182.length) = true := by first | simpa using c256 | (simp at c256 ⊢; omega)
                  clear c256
                  by_cases c257 : (t215.length : Int) = (t179.length : Int)
                  ·
                   as_aux_lemma =>
                    rw [if_pos c257] at H
                    have c257b0 : ((t215.length : Int) == (t179.length : Int)) = true := beq_iff_eq.mpr c257
                    have c257b1 : ((t215.length : Int) != (t179.length : Int)) = false := bne_eq_false_iff_eq.mpr c257
                    have c257b2 : (t215.length == t179.length) = true := by first | simpa using c257 | (simp at c257 ⊢; omega)
                    clear c257
                    have H' := Aa.mk H
                    clear H
                    have hnb258 := NB230_185.out
                    have hnc258 := NB185_230.out
                    have hnb259 := NB230_186.out
                    have hnc259 := NB186_230.out
                    have hnb260 := NB230_222.out
                    have hnc260 := NB222_230.out
                    obtain ⟨hcz261_0, hfz261_0⟩ := zw BK230.out
                    have hnb262 := NB186_185.out
                    have hnc262 := NB185_186.out
                    have hnb263 := NB186_222.out
                    have hnc263 := NB222_186.out
                    obtain ⟨hcz264_0, hfz264_0⟩ := zw BK186.out
                    have hnb265 := NB222_185.out
                    have hnc265 := NB185_222.out
                    obtain ⟨hcz266_0, hfz266_0⟩ := zw BK222.out
                    obtain ⟨hcz267_0, hfz267_0⟩ := zw BK185.out
                    go_wp2
                    go_meet
                    case rel => exact ⟨_, (decide ((t215.length : Int) < (t223.length : Int))), zF, H', ⟨by have := HJ6.out; have := HJ32.out; have := HJ112.out; have := HJ131.out; have := HJ191.out; first | omega | exact Nat.le_refl _⟩, ⟨by refine zR ?_; exact Kd.Ai (Kd.Dv (p := ⟨gb230, 0, none⟩) (Kd.Cj HO217.out BK230.out (by decide)) (fun _ hk => hk.2) (.slice Ao249 t223.length co249)) (fun _ hk => hk.1.1.2)⟩, ⟨by refine zR ?_; exact Kd.Ai (Kd.Dv (p := ⟨gb230, 0, none⟩) (Kd.Cj HO225.out BK230.out (by decide)) (fun _ hk => hk.2) (.slice Ao249 t223.length co249)) (fun _ hk => hk.1.1.2)⟩, ⟨by refine zG ?_; refine Ce ?_ NB222_230.out _; refine zG ?_; exact BK222.out⟩, ⟨by (with_reducible repeat (first | refine Am ?_ _ | refine Ag ?_ | refine Ak ?_ _)); refine Cl (cs := #[.slice none 0 0]) ?_ 0 _ rfl; (with_reducible repeat (first | refine Am ?_ _ | refine Ag ?_ | refine Ak ?_ _)); exact BK230.out⟩, ⟨zB⟩⟩
                  as_aux_lemma =>
                   rw [if_neg c257] at H
                   have c257b0 : ((t215.length : Int) == (t179.length : Int)) = false := beq_eq_false_iff_ne.mpr c257
                   have c257b1 : ((t215.length : Int) != (t179.length : Int)) = true := bne_iff_ne.mpr c257
                   have c257b2 : (t215.length == t179.length) = false := by first | simpa using c257 | (simp at c257 ⊢; omega)
                   have H' := Aa.mk H
                   clear H
                   have hnb268 := NB230_185.out
                   have hnc268 := NB185_230.out
                   have hnb269 := NB230_186.out
                   have hnc269 := NB186_230.out
                   have hnb270 := NB230_222.out
                   have hnc270 := NB222_230.out
                   obtain ⟨hcz271_0, hfz271_0⟩ := zw BK230.out
                   have hnb272 := NB186_185.out
                   have hnc272 := NB185_186.out
                   have hnb273 := NB186_222.out
                   have hnc273 := NB222_186.out
                   obtain ⟨hcz274_0, hfz274_0⟩ := zw BK186.out
                   have hnb275 := NB222_185.out
                   have hnc275 := NB185_222.out
                   obtain ⟨hcz276_0, hfz276_0⟩ := zw BK222.out
                   obtain ⟨hcz277_0, hfz277_0⟩ := zw BK185.out
                   go_wp2
                   go_meet
                   case rel => exact ⟨_, (true), zF, H', ⟨by have := HJ6.out; have := HJ32.out; have := HJ112.out; have := HJ131.out; have := HJ191.out; first | omega | exact Nat.le_refl _⟩, ⟨by refine zR ?_; exact Kd.Ai (Kd.Dv (p := ⟨gb230, 0, none⟩) (Kd.Cj HO217.out BK230.out (by decide)) (fun _ hk => hk.2) (.slice Ao249 t223.length co249)) (fun _ hk => hk.1.1.2)⟩, ⟨by refine zR ?_; exact Kd.Ai (Kd.Dv (p := ⟨gb230, 0, none⟩) (Kd.Cj HO225.out BK230.out (by decide)) (fun _ hk => hk.2) (.slice Ao249 t223.length co249)) (fun _ hk => hk.1.1.2)⟩, ⟨by refine zG ?_; refine Ce ?_ NB222_230.out _; refine zG ?_; exact BK222.out⟩, ⟨by (with_reducible repeat (first | refine Am ?_ _ | refine Ag ?_ | refine Ak ?_ _)); refine Cl (cs := #[.slice none 0 0]) ?_ 0 _ rfl; (with_reducible repeat (first | refine Am ?_ _ | refine Ag ?_ | refine Ak ?_ _)); exact BK230.out⟩, ⟨zB⟩⟩
                case rest =>
                 as_aux_lemma =>
                  clear HC237
                  try clear c3
                  try clear c131
                  try clear c233
                  try clear c234
                  try clear hcz119_0
                  try clear hcz124_0
                  try clear hcz198_0
                  try clear hcz200_0
                  try clear hcz202_0
                  try clear hcz203_0
                  try clear hcz214_0
                  try clear hcz216_0
                  try clear hcz239_0
                  try clear hcz245_0
                  try clear hcz246_0
                  try clear hcz253_0
                  try clear hfz119_0
                  try clear hfz124_0
                  try clear hfz198_0
                  try clear hfz200_0
                  try clear hfz202_0
                  try clear hfz203_0
                  try clear hfz214_0
                  try clear hfz216_0
                  try clear hfz239_0
                  try clear hfz245_0
                  try clear hfz246_0
                  try clear hfz253_0
                  obtain ⟨kq, x343_236, rfl, HA, HJ236, HO_223000, HO_231000, BK222, BK230, HB⟩ := hcut
                  cases kq with
                  | zero => exact absurd HA.out (by simp [Ad.j7])
                  | succ kj236 =>
                   have H := HA.out
                   clear HA
                   simp only [Ad.j7] at H
                   by_cases c285 : x343_236 = true
                   ·
                    subst c285
                    rw [if_pos rfl] at H
                    obtain rfl := Option.some.inj H
                    go_wp2
                    go_ret
                    exact ⟨zE, zB⟩
                   replace c285 := Bool.eq_false_iff.mpr c285
                   subst c285
                   rw [if_neg zf] at H
                   have H' := Aa.mk H
                   clear H
                   have hnb286 := NB230_222.out
                   have hnc286 := NB222_230.out
                   obtain ⟨hcz287_0, hfz287_0⟩ := zw BK230.out
                   go_wp2
                   go_loopg [347] kj236 (fun kq v347 w' => ∃ (x347_7 : Int), v347 = .int .i64 x347_7 ∧ Aa (Ad.l1 kq (t223.length : Int) x347_7 t215 t223 = some r) ∧ Aa (kq ≤ kj236) ∧ Aa (Kd.R (Kd.int .i64) 2 w' w.heap.size (fun k_ => some k_ ≠ ((.slice Ao249 t223.length co249) : Value).ownBlock) (.slice Ao242 t215.length co242) t215) ∧ Aa (Kd.R (Kd.int .i64) 2 w' w.heap.size (fun k_ => some k_ ≠ ((.slice Ao242 t215.length co242) : Value).ownBlock) (.slice Ao249 t223.length co249) t223) ∧ Aa (w'.heap[gb222]? = some (.cells #[(.slice Ao242 t215.length co242)] 26 (0, 0))) ∧ Aa (w'.heap[gb230]? = some (.cells #[(.slice Ao249 t223.length co249)] 26 (0, 0))) ∧ Aa (Below w.heap.size w w'))
                   case atStart => exact ⟨(0), zF, H', ⟨Nat.le_refl _⟩, ⟨zR HO_223000.out⟩, ⟨zR HO_231000.out⟩, ⟨zG BK222.out⟩, ⟨zG BK230.out⟩, ⟨zB⟩⟩
                   case round =>
                    as_aux_lemma =>
                     clear H'
                     try clear c3
                     try clear c131
                     try clear c233
                     try clear c234
                     try clear c285
                     try clear hcz119_0
                     try clear hcz124_0
                     try clear hcz198_0
                     try clear hcz200_0
                     try clear hcz202_0
                     try clear hcz203_0
                     try clear hcz214_0
                     try clear hcz216_0
                     try clear hcz239_0
                     try clear hcz245_0
                     try clear hcz246_0
                     try clear hcz253_0
                     try clear hcz287_0
                     try clear hfz119_0
                     try clear hfz124_0
                     try clear hfz198_0
                     try clear hfz200_0
                     try clear hfz202_0
                     try clear hfz203_0
                     try clear hfz214_0
                     try clear hfz216_0
                     try clear hfz239_0
                     try clear hfz245_0
                     try clear hfz246_0
                     try clear hfz253_0
                     try clear hfz287_0
                     obtain ⟨x347_7, rfl, HA, HK7, HO_223000, HO_231000, BK222, BK230, HB⟩ := hrel
                     cases gk with
                     | zero => exact absurd HA.out (by simp [Ad.l1])
                     | succ k7 =>
                      have H := HA.out
                      clear HA
                      simp only [Ad.l1] at H
                      by_cases c288 : x347_7 < (t223.length : Int)
                      case neg =>
                       rw [if_neg c288] at H
                       have c288b0 := decide_eq_false c288
                       clear c288
                       obtain rfl := Option.some.inj H
                       go_wp2
                       go_ret
                       exact ⟨zE, zB⟩
                      rw [if_pos c288] at H
                      have c288b0 := decide_eq_true c288
                      clear c288
                      by_cases c289 : 0 ≤ x347_7
                      case neg => rw [if_neg c289] at H; exact absurd H (by simp)
                      rw [if_pos c289] at H
                      have c289b0 := decide_eq_true c289
                      clear c289
                      by_cases c290 : x347_7 < (t223.length : Int)
                      case neg => rw [if_neg c290] at H; exact absurd H (by simp)
                      rw [if_pos c290] at H
                      have c290b0 := decide_eq_true c290
                      clear c290
                      by_cases c291 : x347_7 < (t215.length : Int)
                      case neg => rw [if_neg c291] at H; exact absurd H (by simp)
                      rw [if_pos c291] at H
                      have c291b0 := decide_eq_true c291
                      clear c291
                      by_cases c292 : (rd t223 x347_7) < (rd t215 x347_7)
                      ·
                       rw [if_pos c292] at H
                       have c292b0 := decide_eq_true c292
                       clear c292
                       obtain rfl := Option.some.inj H
                       try go_wp2
                       have n_ := y5 (Kd.Ep HO_223000.out) (Kd.Ep HO_231000.out) (Ag BK222.out) (Ag BK230.out) (Bz HB.out)
                       clear HO_223000 HO_231000 BK222 BK230 HB
                       obtain ⟨HO_223000, HO_231000, BK222, BK230, HB⟩ := n_
                       have p231 : 0 ≤ (x347_7 : Int) := zD
                       have q231 : x347_7 < (t223.length : Int) := zD
                       obtain ⟨ad231, e231, hx231_0⟩ := Kd.Cv (Kd.Ae HO_231000.out).2.2 x347_7 p231 q231
                       cases e231
                       replace p231 := eq_true p231
                       replace q231 := eq_true q231
                       have p232 : 0 ≤ (x347_7 : Int) := zD
                       have q232 : x347_7 < (t215.length : Int) := zD
                       obtain ⟨ad232, e232, hx232_0⟩ := Kd.Cv (Kd.Ae HO_223000.out).2.2 x347_7 p232 q232
                       cases e232
                       replace p232 := eq_true p232
                       replace q232 := eq_true q232
                       refine Fg (n := 11) (S := fun w' => w'.cell? ⟨gb230, 0, none⟩ = some (.slice (some ad231) t223.length co249) ∧ w'.cell? ⟨gb222, 0, none⟩ = some (.slice (some ad232) t215.length co242) ∧ w'.cell? (ad231.add (x347_7).toNat) = some (.int .i64 (rd t223 x347_7)) ∧ w'.cell? (ad232.add (x347_7).toNat) = some (.int .i64 (rd t215 x347_7))) (ds := []) #[false,false,false,false,false,false,false,false,false,false,false] zk rfl rfl ⟨(Au BK230.out 0).trans rfl, (Au BK222.out 0).trans rfl, hx231_0, hx232_0⟩ (fun hHeld => ?_); refine Eh Ad.tab55 Ad.bits55 (fun HT_ HW_ => ?_)
                       generalize wr.drew = w293 at HO_223000 HO_231000 BK222 BK230 HB hx231_0 hx232_0 hHeld ⊢
                       refine pT 0 350 HT_ ?_
                       refine pT 2 352 HT_ ?_
                       refine pT 5 355 HT_ ?_
                       refine pT 7 357 HT_ ?_
                       refine tT 1 351 HT_ HW_ hHeld ?_
                       refine pT 3 353 HT_ ?_
                       refine tT 4 354 HT_ HW_ hHeld ?_
                       refine tT 6 356 HT_ HW_ hHeld ?_
                       refine pT 8 358 HT_ ?_
                       refine tT 9 359 HT_ HW_ hHeld ?_
                       refine pT 10 360 HT_ ?_
                       refine Gf (Fo HT_.out zk) ?_
                       try go_wp2
                       go_ret
                       exact ⟨zE, zB⟩
                      rw [if_neg c292] at H
                      have c292b0 := decide_eq_false c292
                      clear c292
                      have H' := Aa.mk H
                      clear H
                      try go_wp2
                      have n_ := y5 (Kd.Ep HO_223000.out) (Kd.Ep HO_231000.out) (Ag BK222.out) (Ag BK230.out) (Bz HB.out)
                      clear HO_223000 HO_231000 BK222 BK230 HB
                      obtain ⟨HO_223000, HO_231000, BK222, BK230, HB⟩ := n_
                      have p231 : 0 ≤ (x347_7 : Int) := zD
                      have q231 : x347_7 < (t223.length : Int) := zD
                      obtain ⟨ad231, e231, hx231_0⟩ := Kd.Cv (Kd.Ae HO_231000.out).2.2 x347_7 p231 q231
                      cases e231
                      replace p231 := eq_true p231
                      replace q231 := eq_true q231
                      have p232 : 0 ≤ (x347_7 : Int) := zD
                      have q232 : x347_7 < (t215.length : Int) := zD
                      obtain ⟨ad232, e232, hx232_0⟩ := Kd.Cv (Kd.Ae HO_223000.out).2.2 x347_7 p232 q232
                      cases e232
                      replace p232 := eq_true p232
                      replace q232 := eq_true q232
                      refine Fg (n := 11) (S := fun w' => w'.cell? ⟨gb230, 0, none⟩ = some (.slice (some ad231) t223.length co249) ∧ w'.cell? ⟨gb222, 0, none⟩ = some (.slice (some ad232) t215.length co242) ∧ w'.cell? (ad231.add (x347_7).toNat) = some (.int .i64 (rd t223 x347_7)) ∧ w'.cell? (ad232.add (x347_7).toNat) = some (.int .i64 (rd t215 x347_7))) (ds := []) #[false,false,false,false,false,false,false,false,false,false,false] zk rfl rfl ⟨(Au BK230.out 0).trans rfl, (Au BK222.out 0).trans rfl, hx231_0, hx232_0⟩ (fun hHeld => ?_); refine Eh Ad.tab55 Ad.bits55 (fun HT_ HW_ => ?_)
                      generalize wr.drew = w294 at HO_223000 HO_231000 BK222 BK230 HB hx231_0 hx232_0 hHeld ⊢
                      refine pT 0 350 HT_ ?_
                      refine pT 2 352 HT_ ?_
                      refine pT 5 355 HT_ ?_
                      refine pT 7 357 HT_ ?_
                      refine tT 1 351 HT_ HW_ hHeld ?_
                      refine pT 3 353 HT_ ?_
                      refine tT 4 354 HT_ HW_ hHeld ?_
                      refine tT 6 356 HT_ HW_ hHeld ?_
                      refine pT 8 358 HT_ ?_
                      refine tT 9 359 HT_ HW_ hHeld ?_
                      refine pT 10 360 HT_ ?_
                      refine Gf (Fo HT_.out zk) ?_
                      try go_wp2
                      go_roundg k7
                      case measure => have := HJ6.out; have := HJ32.out; have := HJ112.out; have := HJ131.out; have := HJ191.out; have := HJ236.out; have := HK7.out; omega
                      case rel => exact ⟨(wrap64 (x347_7 + 1)), zF, H', ⟨by have := HJ6.out; have := HJ32.out; have := HJ112.out; have := HJ131.out; have := HJ191.out; have := HJ236.out; have := HK7.out; omega⟩, ⟨zR HO_223000.out⟩, ⟨zR HO_231000.out⟩, ⟨zG BK222.out⟩, ⟨zG BK230.out⟩, ⟨zB⟩⟩
end Go.Proofs.YtliepcfgcglcmaaGreat.P
end
