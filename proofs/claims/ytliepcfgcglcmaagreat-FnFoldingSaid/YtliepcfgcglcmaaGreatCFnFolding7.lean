/- Folded tasks served by turns are served by the divided turns, the gaps that turns serve are the least ones, and who asks more has greater gaps. -/
import Derived.Test.YtliepcfgcglcmaaGreatCFnFolding6

set_option maxRecDepth 100000
set_option maxHeartbeats 8000000
section
namespace Go.Proofs.YtliepcfgcglcmaaGreat.P
open Go.RowKit Go.Proofs.YtliepcfgcglcmaaGreatW.PrintWords Go.Proofs.YtliepcfgcglcmaaGreatW.PrintLast Go.Proofs.YtliepcfgcglcmaaGreatW.PrintMore
attribute [local go_sem] Kn Kj Ld Li Kb Ke Kl Km
set_option linter.unusedVariables false
set_option linter.unusedSimpArgs false
theorem Ar.calls (k : Nat) (A0 : Option Addr) (c0 : Nat) (l0 : List Int) (r1 : List Int) (r2 : List Int) (w : World) (hr0 : Kd.C (Kd.int .u8) w A0 l0.length l0) (hc0 : l0.length ≤ c0) (h : Ar.f k l0 = some (r1, r2)) :
    Calls Tryz.prog 15 #[.slice A0 l0.length c0] w fun e w' => ∃ v0_ v1_ : Value, e = .returned (.tuple #[.agg #[v0_], .agg #[v1_]]) ∧ Kd.R (Kd.int .i64) 2 w' w.heap.size (fun k_ => some k_ ≠ (v1_ : Value).ownBlock) v0_ r1 ∧ Kd.R (Kd.int .i64) 2 w' w.heap.size (fun k_ => some k_ ≠ (v0_ : Value).ownBlock) v1_ r2 ∧ Below w.heap.size w w' := by
 have hu26 := Tryz.underlying26
 have HR0 := Aa.mk hr0
 have HC0 := Aa.mk hc0
 clear hr0 hc0
 have HB := Aa.mk (Below.refl w.heap.size w)
 have H := h
 clear h
 unfold Ar.f at H
 obtain ⟨⟨t103, t104, t105⟩, A2, H⟩ := zO H
 try dsimp only at H
 obtain ⟨⟨t107, t110, t111⟩, A3, H⟩ := zO H
 try dsimp only at H
 obtain ⟨t113, A4, H⟩ := zO H
 try dsimp only at H
 have H' := Aa.mk H
 clear H
 go_enter Tryz.func15, Tryz.ntmps15
 go_wp2_with (first | ((with_reducible refine Ay (N := 2) rfl ?_); refine Be zr (N := 2) zr (cs := #[.slice none 0 0]) (t := 26) zg ?_; intro gb101 hg w5 hbox hb; have n_ := y4 (Ab (zB) hb) (hbox) ((zS hg : w.heap.size ≤ gb101)) ((zS hg : w.heap.size ≤ gb101)); clear HB; obtain ⟨HB, BK101, GW101, GE101⟩ := n_; clear hb hbox hg) | ((with_reducible refine Ay (N := 3) rfl ?_); refine Be zr (N := 3) zr (cs := #[.slice none 0 0]) (t := 26) zg ?_; intro gb102 hg w6 hbox hb; have n_ := y7 (zb BK101.out hb) (Ab (zB) hb) (hbox) ((zS hg : w.heap.size ≤ gb102)) ((zS hg : w.heap.size ≤ gb102)) ((zL hg BK101.out : gb101 ≠ gb102)) ((zM hg BK101.out : gb102 ≠ gb101)); clear BK101 HB; obtain ⟨BK101, HB, BK102, GW102, GE102, NB101_102, NB102_101⟩ := n_; clear hb hbox hg) | (refine gK 25 ?_; refine gL 9 Tryz.func25 #[.slice A0 l0.length c0] ?_; (with_reducible refine (Bj.calls k _ _ l0 t103 t104 t105 w _ ?side1 HR0.out HC0.out A2.out).mono ?_); (case side1 => exact zB); rintro e w7 ⟨g106, rfl, hi, hb, hb2⟩; refine ⟨_, rfl, ?_⟩; have n_ := y8 (zb BK101.out hb2) (zb BK102.out hb2) (hb) (hi) (Af.ne_blk hi (zb BK101.out hb2) (by decide)) (Ne.symm (Af.ne_blk hi (zb BK101.out hb2) (by decide))) (Af.ne_blk hi (zb BK102.out hb2) (by decide)) (Ne.symm (Af.ne_blk hi (zb BK102.out hb2) (by decide))); clear BK101 BK102 HB; obtain ⟨BK101, BK102, HB, HI106, NB106_101, NB101_106, NB106_102, NB102_106⟩ := n_; (try clear hi hb hb2)) | (refine gK 26 ?_; refine gL 11 Tryz.func26 #[.pointer (some ⟨g106, 0, none⟩)] ?_; (with_reducible refine (Du.calls k g106 t103 t104 t105 t107 t110 t111 w _ ?side1 ?side2 A3.out).mono ?_); (case side1 => exact zX HI106.out); (case side2 => exact zB); rintro e w8 ⟨v108, rfl, ho0, hi, hb, hk⟩; refine ⟨_, rfl, ?_⟩; have n_ := y5 (zW BK101.out hk NB101_106.out) (zW BK102.out hk NB102_106.out) (Kd.Bk ho0 (An (zB))) (hb) (hi); clear BK101 BK102 HB HI106; obtain ⟨BK101, BK102, HO109, HB, HI106⟩ := n_; (try clear ho0 hi hb hk)) | ((with_reducible refine Ay (N := 5) rfl ?_); refine Be zr (N := 5) zr (cs := #[.slice none 0 0]) (t := 26) zg ?_; intro gb112 hg w9 hbox hb; have n_ := y14 (Kd.Ap (zR HO109.out) hb) (zb BK101.out hb) (zb BK102.out hb) (Af.below (zX HI106.out) hb) (Ab (zB) hb) (hbox) ((zS hg : w.heap.size ≤ gb112)) ((zS hg : w.heap.size ≤ gb112)) ((zL hg BK101.out : gb101 ≠ gb112)) ((zM hg BK101.out : gb112 ≠ gb101)) ((zL hg BK102.out : gb102 ≠ gb112)) ((zM hg BK102.out : gb112 ≠ gb102)) ((by rw [hg]; exact Nat.ne_of_lt (Af.lt (show Af w _ g106 t103 t110 t111 from zX HI106.out)) : g106 ≠ gb112)) ((by rw [hg]; exact Nat.ne_of_gt (Af.lt (show Af w _ g106 t103 t110 t111 from zX HI106.out)) : gb112 ≠ g106)); clear HO109 BK101 BK102 HI106 HB; obtain ⟨HO109, BK101, BK102, HI106, HB, BK112, GW112, GE112, NB101_112, NB112_101, NB102_112, NB112_102, NB106_112, NB112_106⟩ := n_; clear hb hbox hg; obtain ⟨Ao10, co10, eo10⟩ := Kd.Bb HO109.out; subst eo10; have hnb11 := NB112_101.out; have hnc11 := NB101_112.out; have hnb12 := NB112_102.out; have hnc12 := NB102_112.out; have hnb13 := NB112_106.out; have hnc13 := NB106_112.out; obtain ⟨hcz14_0, hfz14_0⟩ := zw BK112.out) | (refine gK 37 ?_; refine gL 14 Tryz.func37 #[.slice Ao10 t107.length co10] ?_; (with_reducible refine (Fc.calls _ _ t107 t113 _ ?side1 ?side2 A4.out).mono ?_); (case side1 => exact (zQ HO109.out BK112.out)); (case side2 => exact (Kd.Ae HO109.out).2.1); rintro e w15 ⟨v114, rfl, ho0, hb⟩; refine ⟨_, rfl, ?_⟩; have n_ := y7 (Kd.Bu (zV HO109.out BK112.out) (Kd.Bs ho0) hb) (Kd.Bk (Kd.Bt ho0 (Kd.Cx (zV HO109.out BK112.out))) (An (zB))) (Cy (g := gb101) (o := .cells #[.slice none 0 0] 26 (0, 0)) (by refine zG ?_; refine Ce ?_ NB101_112.out _; refine zG ?_; exact BK101.out) hb) (Cy (g := gb102) (o := .cells #[.slice none 0 0] 26 (0, 0)) (by refine zG ?_; refine Ce ?_ NB102_112.out _; refine zG ?_; exact BK102.out) hb) (Af.below (show Af w (w9.setCell ⟨gb112, 0, none⟩ (.slice Ao10 t107.length co10)) g106 t103 t110 t111 from zX HI106.out) hb) (Cy (g := gb112) (o := .cells #[.slice Ao10 t107.length co10] 26 (0, 0)) (by (with_reducible repeat (first | refine Am ?_ _ | refine Ag ?_ | refine Ak ?_ _)); refine Cl (cs := #[.slice none 0 0]) ?_ 0 _ rfl; (with_reducible repeat (first | refine Am ?_ _ | refine Ag ?_ | refine Ak ?_ _)); exact BK112.out) hb) (Ab (zB) hb); clear HO109 BK101 BK102 HI106 BK112 HB; obtain ⟨HO109, HO115, BK101, BK102, HI106, BK112, HB⟩ := n_; (try clear ho0 hb); obtain ⟨Ao16, co16, eo16⟩ := Kd.Bb HO115.out; subst eo16) | ((with_reducible refine Ay (N := 6) rfl ?_); refine Be zr (N := 6) zr (cs := #[.slice none 0 0]) (t := 26) zg ?_; intro gb116 hg w17 hbox hb; have n_ := y18 (Kd.Ap (zR HO109.out) hb) (Kd.Ap (zR HO115.out) hb) (zb BK101.out hb) (zb BK102.out hb) (Af.below (zX HI106.out) hb) (zb BK112.out hb) (Ab (zB) hb) (hbox) ((zS hg : w.heap.size ≤ gb116)) ((zS hg : w.heap.size ≤ gb116)) ((zL hg BK101.out : gb101 ≠ gb116)) ((zM hg BK101.out : gb116 ≠ gb101)) ((zL hg BK102.out : gb102 ≠ gb116)) ((zM hg BK102.out : gb116 ≠ gb102)) ((zL hg BK112.out : gb112 ≠ gb116)) ((zM hg BK112.out : gb116 ≠ gb112)) ((by rw [hg]; exact Nat.ne_of_lt (Af.lt (show Af w _ g106 t103 t110 t111 from zX HI106.out)) : g106 ≠ gb116)) ((by rw [hg]; exact Nat.ne_of_gt (Af.lt (show Af w _ g106 t103 t110 t111 from zX HI106.out)) : gb116 ≠ g106)); clear HO109 HO115 BK101 BK102 HI106 BK112 HB; obtain ⟨HO109, HO115, BK101, BK102, HI106, BK112, HB, BK116, GW116, GE116, NB101_116, NB116_101, NB102_116, NB116_102, NB112_116, NB116_112, NB106_116, NB116_106⟩ := n_; clear hb hbox hg; have hnb18 := NB116_101.out; have hnc18 := NB101_116.out; have hnb19 := NB116_102.out; have hnc19 := NB102_116.out; have hnb20 := NB116_112.out; have hnc20 := NB112_116.out; have hnb21 := NB116_106.out; have hnc21 := NB106_116.out; obtain ⟨hcz22_0, hfz22_0⟩ := zw BK116.out))
 go_loopg [19] k (fun kq v19 w' => ∃ (x19_1 : Int) (x107001_1 : Int) (x107002_1 : Int) (x113000_1 : List Int) (x117000_1 : List Int) (u113000 : Value) (u117000 : Value), v19 = .int .i64 x19_1 ∧ Aa (Ar.l0 kq (t113.length : Int) x19_1 t103 x107001_1 x107002_1 x113000_1 x117000_1 = some (r1, r2)) ∧ Aa (kq ≤ k) ∧ Aa (Kd.R (Kd.int .i64) 2 w' w.heap.size (fun k_ => some k_ ≠ (u117000 : Value).ownBlock) u113000 x113000_1) ∧ Aa (Kd.R (Kd.int .i64) 2 w' w.heap.size (fun k_ => some k_ ≠ (u113000 : Value).ownBlock) u117000 x117000_1) ∧ Aa (w'.heap[gb101]? = some (.cells #[(.slice none 0 0)] 26 (0, 0))) ∧ Aa (w'.heap[gb102]? = some (.cells #[(.slice none 0 0)] 26 (0, 0))) ∧ Aa (w'.heap[gb112]? = some (.cells #[u113000] 26 (0, 0))) ∧ Aa (w'.heap[gb116]? = some (.cells #[u117000] 26 (0, 0))) ∧ Aa (Af w w' g106 t103 x107001_1 x107002_1) ∧ Aa (Below w.heap.size w w'))
 case atStart => exact ⟨(0), (t110), (t111), (t107), (t113), (.slice Ao10 t107.length co10), (.slice Ao16 t113.length co16), zF, H', ⟨Nat.le_refl _⟩, ⟨by refine zR ?_; exact Kd.Ai (Kd.Dv (p := ⟨gb116, 0, none⟩) (Kd.Cj HO109.out BK116.out (by decide)) (fun _ hk => hk.2) (.slice Ao16 t113.length co16)) (fun _ hk => hk.1.2)⟩, ⟨by refine zR ?_; exact Kd.Ai (Kd.Dv (p := ⟨gb116, 0, none⟩) (Kd.Cj HO115.out BK116.out (by decide)) (fun _ hk => hk.2) (.slice Ao16 t113.length co16)) (fun _ hk => hk.1.2)⟩, ⟨by refine zG ?_; refine Ce ?_ NB101_116.out _; refine zG ?_; exact BK101.out⟩, ⟨by refine zG ?_; refine Ce ?_ NB102_116.out _; refine zG ?_; exact BK102.out⟩, ⟨by refine zG ?_; refine Ce ?_ NB112_116.out _; refine zG ?_; exact BK112.out⟩, ⟨by (with_reducible repeat (first | refine Am ?_ _ | refine Ag ?_ | refine Ak ?_ _)); refine Cl (cs := #[.slice none 0 0]) ?_ 0 _ rfl; (with_reducible repeat (first | refine Am ?_ _ | refine Ag ?_ | refine Ak ?_ _)); exact BK116.out⟩, ⟨zX HI106.out⟩, ⟨zB⟩⟩
 clear H'
 try clear hcz14_0
 try clear hcz22_0
 try clear hfz14_0
 try clear hfz22_0
 obtain ⟨x19_1, x107001_1, x107002_1, x113000_1, x117000_1, u113000, u117000, rfl, HA, HK1, HO_113000, HO_117000, BK101, BK102, BK112, BK116, HI106, HB⟩ := hrel
 cases gk with
 | zero => exact absurd HA.out (by simp [Ar.l0])
 | succ k1 =>
  have H := HA.out
  clear HA
  simp only [Ar.l0] at H
  by_cases c23 : x19_1 < (t113.length : Int)
  ·
   rw [if_pos c23] at H
   have c23b0 := decide_eq_true c23
   clear c23
   by_cases c24 : 0 ≤ x19_1
   case neg => rw [if_neg c24] at H; exact absurd H (by simp)
   rw [if_pos c24] at H
   have c24b0 := decide_eq_true c24
   clear c24
   by_cases c25 : x19_1 < (x117000_1.length : Int)
   case neg => rw [if_neg c25] at H; exact absurd H (by simp)
   rw [if_pos c25] at H
   have c25b0 := decide_eq_true c25
   clear c25
   obtain ⟨⟨t118, t119, t120⟩, A26, H⟩ := zO H
   try dsimp only at H
   obtain ⟨⟨t121, t122, t123⟩, A27, H⟩ := zO H
   try dsimp only at H
   obtain ⟨ji28, hji28⟩ : ∃ j_ : Int, (mn (wrap64 ((wrap64 ((rd x117000_1 x19_1) + t118)) - (wrap64 (Int.tdiv t121 7)))) 40) = j_ := ⟨_, rfl⟩
   replace H : (Ar.l0 k1 (t113.length : Int) (wrap64 (x19_1 + 1)) t103 t122 t123 x113000_1 (x117000_1.set (x19_1 : Int).toNat (mx (ji28) 1))) = some (r1, r2) := by first | (rw [hji28] at H; exact H) | (simp only [hji28] at H ⊢; exact H)
   (try rw [hji28] at A26)
   (try rw [hji28] at A27)
   have hji28_ : (if 40 < (wrap64 ((wrap64 ((rd x117000_1 x19_1) + t118)) - (wrap64 (Int.tdiv t121 7)))) then 40 else (wrap64 ((wrap64 ((rd x117000_1 x19_1) + t118)) - (wrap64 (Int.tdiv t121 7))))) = ji28 := hji28
   obtain ⟨ji29, hji29⟩ : ∃ j_ : Int, (mx (ji28) 1) = j_ := ⟨_, rfl⟩
   replace H : (Ar.l0 k1 (t113.length : Int) (wrap64 (x19_1 + 1)) t103 t122 t123 x113000_1 (x117000_1.set (x19_1 : Int).toNat (ji29))) = some (r1, r2) := by first | (rw [hji29] at H; exact H) | (simp only [hji29] at H ⊢; exact H)
   (try rw [hji29] at A26)
   (try rw [hji29] at A27)
   have hji29_ : (if (ji28) < 1 then 1 else (ji28)) = ji29 := hji29
   obtain ⟨y124, hy124⟩ : ∃ y_ : List Int, y_ = (x117000_1.set (x19_1 : Int).toNat (ji29)) := ⟨_, rfl⟩
   replace H : (Ar.l0 k1 (t113.length : Int) (wrap64 (x19_1 + 1)) t103 t122 t123 x113000_1 y124) = some (r1, r2) := zH hy124
   have Ny124 := Aa.mk hy124
   clear hy124
   have H' := Aa.mk H
   clear H
   try go_wp2
   have n_ := y8 (Kd.Ep HO_113000.out) (Kd.Ep HO_117000.out) (Ag BK101.out) (Ag BK102.out) (Ag BK112.out) (Ag BK116.out) (Af.drew HI106.out) (Bz HB.out)
   clear HO_113000 HO_117000 BK101 BK102 BK112 BK116 HI106 HB
   obtain ⟨HO_113000, HO_117000, BK101, BK102, BK112, BK116, HI106, HB⟩ := n_
   obtain ⟨Ao32, co32, eo32⟩ := Kd.Bb HO_117000.out
   (first | subst eo32 | (injection eo32 with f1_ f2_ f3_; have f4_ := f1_.symm; have f5_ := f3_.symm; clear f1_ f2_ f3_; subst f4_; subst f5_))
   have p117 : 0 ≤ (x19_1 : Int) := zD
   have q117 : x19_1 < (x117000_1.length : Int) := zD
   obtain ⟨ad117, e117, hx117_0⟩ := Kd.Cv (Kd.Ae HO_117000.out).2.2 x19_1 p117 q117
   cases e117
   replace p117 := eq_true p117
   replace q117 := eq_true q117
   refine Fg (n := 19) (S := fun w' => w'.cell? ⟨gb116, 0, none⟩ = some (.slice (some ad117) x117000_1.length co32) ∧ w'.cell? (ad117.add (x19_1).toNat) = some (.int .i64 (rd x117000_1 x19_1))) (ds := [18]) #[false,false,false,false,false,false,false,false,false,false,false,false,false,false,false,false,false,false,false] zk rfl rfl ⟨(Au BK116.out 0).trans rfl, hx117_0⟩ (fun hHeld => ?_); refine Eh Ar.tab7 Ar.bits7 (fun HT_ HW_ => ?_)
   generalize wr.drew = w31 at HO_113000 HO_117000 BK101 BK102 BK112 BK116 HI106 HB hx117_0 hHeld ⊢
   refine pT 0 22 HT_ ?_
   refine pT 2 24 HT_ ?_
   refine pT 3 25 HT_ ?_
   refine pT 5 27 HT_ ?_
   refine pT 8 30 HT_ ?_
   refine pT 11 33 HT_ ?_
   refine tT 1 23 HT_ HW_ hHeld ?_
   refine tT 4 26 HT_ HW_ hHeld ?_
   refine pT 6 28 HT_ ?_
   refine tT 7 29 HT_ HW_ hHeld ?_
   refine Fk (i := 9) (N := some 31) #[true,true,true,true,true,true,true,true,true,true,false,true,false,false,false,false,false,false,false] rfl rfl (Db HT_.out zk) (by decide) (fun K hK => ?_)
   refine Ff Tryz.func29 zk rfl #[.pointer (some ⟨g106, 0, none⟩), .int .i64 4] (by rfl) rfl rfl zA ?_
   with_reducible refine (Bf.calls g106 t103 x107001_1 x107002_1 4 t118 t119 t120 w _ ?side1 ?side2 A26.out).mono ?_
   (case side1 => exact zX HI106.out)
   (case side2 => exact zB)
   rintro e w33 ⟨rfl, hi, hb, hk⟩
   have HS1_ := Qv hk (hHeld.2) (by first | (rw [Lg]; exact Kd.Pp (Af.Gd HI106.out HO_117000.out (by decide))) | (show (Addr.add _ _).block ≠ _; rw [Lg]; exact Kd.Pp (Af.Gd HI106.out HO_117000.out (by decide))) | exact Kd.Pp (Af.Gd HI106.out HO_117000.out (by decide)))
   refine ⟨_, rfl, ?_⟩
   have n_ := y8 (Kd.Ai (Kd.Cz (Af.apart (show Af w _ g106 t103 x107001_1 x107002_1 from zX HI106.out) (zR HO_113000.out) (by decide)) hk (fun _ h => h.2)) (fun _ h => h.1)) (Kd.Ai (Kd.Cz (Af.apart (show Af w _ g106 t103 x107001_1 x107002_1 from zX HI106.out) (zR HO_117000.out) (by decide)) hk (fun _ h => h.2)) (fun _ h => h.1)) (zW BK101.out hk NB101_106.out) (zW BK102.out hk NB102_106.out) (zW BK112.out hk NB112_106.out) (zW BK116.out hk NB116_106.out) (hb) (hi)
   clear HO_113000 HO_117000 BK101 BK102 BK112 BK116 HB HI106
   obtain ⟨HO_113000, HO_117000, BK101, BK102, BK112, BK116, HB, HI106⟩ := n_
   try clear hi hb hk
   refine hK.out _ _ ⟨(Au BK116.out 0).trans rfl, HS1_⟩ (fun hHeld => ?_)
   clear hK K
   refine nT 31 ?_
   refine pT 10 32 HT_ ?_
   refine Fk (i := 12) (N := some 34) #[true,true,true,true,true,true,true,true,true,true,true,true,true,false,false,false,false,false,false] rfl rfl (Db HT_.out zk) (by decide) (fun K hK => ?_)
   refine Ff Tryz.func29 zk rfl #[.pointer (some ⟨g106, 0, none⟩), .int .i64 8] (by rfl) rfl rfl zA ?_
   with_reducible refine (Bf.calls g106 t103 t119 t120 8 t121 t122 t123 w _ ?side1 ?side2 A27.out).mono ?_
   (case side1 => exact zX HI106.out)
   (case side2 => exact zB)
   rintro e w34 ⟨rfl, hi, hb, hk⟩
   have HS1_ := Qv hk (hHeld.2) (by first | (rw [Lg]; exact Kd.Pp (Af.Gd HI106.out HO_117000.out (by decide))) | (show (Addr.add _ _).block ≠ _; rw [Lg]; exact Kd.Pp (Af.Gd HI106.out HO_117000.out (by decide))) | exact Kd.Pp (Af.Gd HI106.out HO_117000.out (by decide)))
   refine ⟨_, rfl, ?_⟩
   have n_ := y8 (Kd.Ai (Kd.Cz (Af.apart (show Af w _ g106 t103 t119 t120 from zX HI106.out) (zR HO_113000.out) (by decide)) hk (fun _ h => h.2)) (fun _ h => h.1)) (Kd.Ai (Kd.Cz (Af.apart (show Af w _ g106 t103 t119 t120 from zX HI106.out) (zR HO_117000.out) (by decide)) hk (fun _ h => h.2)) (fun _ h => h.1)) (zW BK101.out hk NB101_106.out) (zW BK102.out hk NB102_106.out) (zW BK112.out hk NB112_106.out) (zW BK116.out hk NB116_106.out) (hb) (hi)
   clear HO_113000 HO_117000 BK101 BK102 BK112 BK116 HB HI106
   obtain ⟨HO_113000, HO_117000, BK101, BK102, BK112, BK116, HB, HI106⟩ := n_
   try clear hi hb hk
   have p30 : 0 ≤ (x19_1 : Int) := zD
   have q30 : (x19_1 : Int) < ((x117000_1.length : Int) : Int) := zD
   obtain ⟨go30, co30, eo30, gb30, gl30, cl30, HG30⟩ := Kd.Lk HO_117000.out (by omega)
   (first | cases eo30 | (injection eo30 with ea_ en_ ec_; (first | subst ea_ | (injection ea_ with ea_; subst ea_)); subst ec_; clear en_))
   have GB30 := Aa.mk gb30
   have GG30 := Aa.mk HG30
   clear gb30 gl30 HG30
   (first | simp only [Gw] at hx117_0 | skip)
   obtain ⟨hx30_0, hf30_0⟩ := Kd.Fx 0 HO_117000.out (x19_1 : Int) p30 q30
   replace p30 := eq_true p30
   replace q30 := eq_true q30
   have HN106_go30 := Aa.mk (show g106 ≠ go30 from by have h_ := Af.Gd HI106.out HO_117000.out (by decide); intro e_; exact h_ (by rw [e_]; rfl))
   have HP35 := Kd.Pm HO_117000.out (x19_1 : Int) ji29
   rw [← Ny124.out] at HP35
   have HQ35 := Aa.mk HP35
   clear HP35
   refine hK.out _ _ ⟨(Au BK116.out 0).trans rfl, HS1_⟩ (fun hHeld => ?_)
   clear hK K
   refine nT 34 ?_
   refine pT 13 35 HT_ ?_
   refine pT 14 36 HT_ ?_
   refine pT 15 37 HT_ ?_
   refine pT 16 38 HT_ ?_
   refine pT 17 39 HT_ ?_
   refine Ms (i := 18) (N := none) #[true,true,true,true,true,true,true,true,true,true,true,true,true,true,true,true,true,true,true] rfl rfl (Db HT_.out zk) (by decide) (fun K hK => ?_)
   refine Lo (w1 := ?_) (by rfl) rfl ?_ ?_
   rotate_left
   ·
    go_simp
    rfl
   refine hK.out _ _ ?_
   clear hK K
   refine Gf (Fo HT_.out zk) ?_
   try go_wp2
   go_roundg k1
   case measure => have := HK1.out; omega
   case rel => exact ⟨(wrap64 (x19_1 + 1)), (t122), (t123), (x113000_1), (y124), (u113000), (.slice (some ⟨go30, 0, none⟩) x117000_1.length co32), zF, H', ⟨by have := HK1.out; omega⟩, ⟨by refine zR ?_; exact Kd.Ai (Kd.Dv (p := ⟨go30, (x19_1 : Int).toNat, none⟩) (Kd.Ai HO_113000.out (fun k_ hk => (⟨hk, fun e_ => hk (by rw [e_]; rfl)⟩ : _ ∧ k_ ≠ go30))) (fun _ hk => hk.2) (.int .i64 ji29)) (fun _ hk => hk.1)⟩, ⟨zR HQ35.out⟩, ⟨by refine zG ?_; refine Ce ?_ (by have h_ := Kd.Em HO_117000.out BK101.out (by decide); intro e_; exact h_ (by rw [e_]; rfl)) _; refine zG ?_; exact BK101.out⟩, ⟨by refine zG ?_; refine Ce ?_ (by have h_ := Kd.Em HO_117000.out BK102.out (by decide); intro e_; exact h_ (by rw [e_]; rfl)) _; refine zG ?_; exact BK102.out⟩, ⟨by refine zG ?_; refine Ce ?_ (by have h_ := Kd.Em HO_117000.out BK112.out (by decide); intro e_; exact h_ (by rw [e_]; rfl)) _; refine zG ?_; exact BK112.out⟩, ⟨by refine zG ?_; refine Ce ?_ (by have h_ := Kd.Em HO_117000.out BK116.out (by decide); intro e_; exact h_ (by rw [e_]; rfl)) _; refine zG ?_; exact BK116.out⟩, ⟨zX HI106.out⟩, ⟨zB⟩⟩
  rw [if_neg c23] at H
  have c23b0 := decide_eq_false c23
  clear c23
  obtain ⟨⟨t125, t126, t127⟩, A36, H⟩ := zO H
  try dsimp only at H
  by_cases c37 : t125 = 0
  ·
   rw [if_pos c37] at H
   have c37b0 : (t125 == 0) = true := beq_iff_eq.mpr c37
   have c37b1 : (t125 != 0) = false := bne_eq_false_iff_eq.mpr c37
   clear c37
   obtain ⟨t128, A38, H⟩ := zO H
   try dsimp only at H
   obtain ⟨⟨t129, t130, t131⟩, A39, H⟩ := zO H
   try dsimp only at H
   obtain ⟨ji40, hji40⟩ : ∃ j_ : Int, (wrap64 (1 + t129)) = j_ := ⟨_, rfl⟩
   replace H : (if 0 ≤ (ji40) then (if (ji40) ≤ (x117000_1.length : Int) then ((Bm.f k1 t103 t130 t131 x113000_1).bind fun bt135 => ((Bm.f k1 t103 bt135.2.1 bt135.2.2 (x117000_1.take ((ji40) : Int).toNat)).bind fun bt140 => (some (bt135.1, bt140.1)))) else (none)) else (none)) = some (r1, r2) := by first | (rw [hji40] at H; exact H) | (simp only [hji40] at H ⊢; exact H)
   (try rw [hji40] at A36)
   (try rw [hji40] at A38)
   (try rw [hji40] at A39)
   have hji40w : (IntKind.i64.wrap (1 + t129)) = ji40 := (Ec _).trans hji40
   by_cases c41 : 0 ≤ (ji40)
   case neg => rw [if_neg c41] at H; exact absurd H (by simp)
   rw [if_pos c41] at H
   have c41b0 := eq_true c41
   have c41b1 := decide_eq_true c41
   clear c41
   by_cases c42 : (ji40) ≤ (x117000_1.length : Int)
   case neg => rw [if_neg c42] at H; exact absurd H (by simp)
   rw [if_pos c42] at H
   have c42b0 := eq_true c42
   have c42b1 := decide_eq_true c42
   clear c42
   obtain ⟨y132, hy132⟩ : ∃ y_ : List Int, y_ = (x117000_1.take ((ji40) : Int).toNat) := ⟨_, rfl⟩
   replace H : ((Bm.f k1 t103 t130 t131 x113000_1).bind fun bt135 => ((Bm.f k1 t103 bt135.2.1 bt135.2.2 y132).bind fun bt140 => (some (bt135.1, bt140.1)))) = some (r1, r2) := zH hy132
   have Ny132 := Aa.mk hy132
   clear hy132
   obtain ⟨⟨t135, t138, t139⟩, A43, H⟩ := zO H
   try dsimp only at H
   obtain ⟨⟨t140, t143, t144⟩, A44, H⟩ := zO H
   try dsimp only at H
   simp only [Option.some.injEq, Prod.mk.injEq] at H
   obtain ⟨rfl, rfl⟩ := H
   try go_wp2_with (first | (refine gK 29 ?_; refine gL 42 Tryz.func29 #[.pointer (some ⟨g106, 0, none⟩), .int .i64 4] ?_; (with_reducible refine (Bf.calls g106 t103 x107001_1 x107002_1 4 t125 t126 t127 w _ ?side1 ?side2 A36.out).mono ?_); (case side1 => exact zX HI106.out); (case side2 => exact zB); rintro e w45 ⟨rfl, hi, hb, hk⟩; refine ⟨_, rfl, ?_⟩; have n_ := y8 (Kd.Ai (Kd.Cz (Af.apart (show Af w _ g106 t103 x107001_1 x107002_1 from zX HI106.out) (zR HO_113000.out) (by decide)) hk (fun _ h => h.2)) (fun _ h => h.1)) (Kd.Ai (Kd.Cz (Af.apart (show Af w _ g106 t103 x107001_1 x107002_1 from zX HI106.out) (zR HO_117000.out) (by decide)) hk (fun _ h => h.2)) (fun _ h => h.1)) (zW BK101.out hk NB101_106.out) (zW BK102.out hk NB102_106.out) (zW BK112.out hk NB112_106.out) (zW BK116.out hk NB116_106.out) (hb) (hi); clear HO_113000 HO_117000 BK101 BK102 BK112 BK116 HB HI106; obtain ⟨HO_113000, HO_117000, BK101, BK102, BK112, BK116, HB, HI106⟩ := n_; (try clear hi hb hk)))
   have n_ := y8 (Kd.Ep HO_113000.out) (Kd.Ep HO_117000.out) (Ag BK101.out) (Ag BK102.out) (Ag BK112.out) (Ag BK116.out) (Af.drew HI106.out) (Bz HB.out)
   clear HO_113000 HO_117000 BK101 BK102 BK112 BK116 HI106 HB
   obtain ⟨HO_113000, HO_117000, BK101, BK102, BK112, BK116, HI106, HB⟩ := n_
   obtain ⟨Ao47, co47, eo47⟩ := Kd.Bb HO_117000.out
   (first | subst eo47 | (injection eo47 with f1_ f2_ f3_; have f4_ := f1_.symm; have f5_ := f3_.symm; clear f1_ f2_ f3_; subst f4_; subst f5_))
   refine Fg (n := 10) (S := fun w' => w'.cell? ⟨gb116, 0, none⟩ = some (.slice Ao47 x117000_1.length co47)) (ds := [9]) #[false,false,false,false,false,false,false,false,false,false] zk rfl rfl ((Au BK116.out 0).trans rfl) (fun hHeld => ?_); refine Eh Ar.tab11 Ar.bits11 (fun HT_ HW_ => ?_)
   generalize w45.drew = w46 at HO_113000 HO_117000 BK101 BK102 BK112 BK116 HI106 HB hHeld ⊢
   refine pT 0 45 HT_ ?_
   refine pT 2 47 HT_ ?_
   refine tT 1 46 HT_ HW_ hHeld ?_
   refine tT 3 48 HT_ HW_ hHeld ?_
   refine Fk (i := 4) (N := some 49) #[true,true,true,true,true,false,false,false,false,false] rfl rfl (Db HT_.out zk) (by decide) (fun K hK => ?_)
   refine Ff Tryz.func28 zk rfl #[.agg #[.slice Ao47 x117000_1.length co47]] (by rfl) rfl rfl zA ?_
   with_reducible refine (Dt.calls _ _ x117000_1 t128 _ ?side1 ?side2 A38.out).mono ?_
   (case side1 => exact zC (Kd.Ae HO_117000.out).2.2)
   (case side2 => exact (Kd.Ae HO_117000.out).2.1)
   rintro e w48 ⟨rfl, hb⟩
   refine ⟨_, rfl, ?_⟩
   have n_ := y8 (Kd.Ap (zR HO_113000.out) hb) (Kd.Ap (zR HO_117000.out) hb) (zb BK101.out hb) (zb BK102.out hb) (zb BK112.out hb) (zb BK116.out hb) (Af.below (zX HI106.out) hb) (Ab (zB) hb)
   clear HO_113000 HO_117000 BK101 BK102 BK112 BK116 HI106 HB
   obtain ⟨HO_113000, HO_117000, BK101, BK102, BK112, BK116, HI106, HB⟩ := n_
   try clear hb
   refine hK.out _ _ ((Au BK116.out 0).trans rfl) (fun hHeld => ?_)
   clear hK K
   refine nT 49 ?_
   refine Fk (i := 5) (N := some 50) #[true,true,true,true,true,true,false,false,false,false] rfl rfl (Db HT_.out zk) (by decide) (fun K hK => ?_)
   refine Ff Tryz.func29 zk rfl #[.pointer (some ⟨g106, 0, none⟩), .int .i64 t128] (by rfl) rfl rfl zA ?_
   with_reducible refine (Bf.calls g106 t103 t126 t127 t128 t129 t130 t131 w _ ?side1 ?side2 A39.out).mono ?_
   (case side1 => exact zX HI106.out)
   (case side2 => exact zB)
   rintro e w49 ⟨rfl, hi, hb, hk⟩
   refine ⟨_, rfl, ?_⟩
   have n_ := y8 (Kd.Ai (Kd.Cz (Af.apart (show Af w _ g106 t103 t126 t127 from zX HI106.out) (zR HO_113000.out) (by decide)) hk (fun _ h => h.2)) (fun _ h => h.1)) (Kd.Ai (Kd.Cz (Af.apart (show Af w _ g106 t103 t126 t127 from zX HI106.out) (zR HO_117000.out) (by decide)) hk (fun _ h => h.2)) (fun _ h => h.1)) (zW BK101.out hk NB101_106.out) (zW BK102.out hk NB102_106.out) (zW BK112.out hk NB112_106.out) (zW BK116.out hk NB116_106.out) (hb) (hi)
   clear HO_113000 HO_117000 BK101 BK102 BK112 BK116 HB HI106
   obtain ⟨HO_113000, HO_117000, BK101, BK102, BK112, BK116, HB, HI106⟩ := n_
   try clear hi hb hk
   have q50 : ((ji40) : Int) ≤ ((x117000_1.length : Int) : Int) := zD
   obtain ⟨i050, hi050, _, hsz50, _⟩ := info_parts Gb
   have hcut50 := Ri (P := Tryz.prog) 24 2 .i64 Tryz.underlying24 hi050 Ao47 x117000_1.length co47 (ji40) (zD) q50 (Kd.Ae HO_117000.out).2.1
   have hr50 := Kd.q2m (m := ((ji40) : Int).toNat) HO_117000.out (by omega)
   have hy50 : y132.length = ((ji40) : Int).toNat := (by rw [Ny132.out, List.length_take]; omega)
   rw [← Ny132.out] at hr50
   rw [← hy50] at hr50 hcut50
   clear hy50 hi050 hsz50 HO_117000
   have HO134 := Aa.mk hr50
   clear hr50
   replace q50 := eq_true q50
   refine hK.out _ _ ((Au BK116.out 0).trans rfl) (fun hHeld => ?_)
   clear hK K
   refine nT 50 ?_
   refine pT 6 51 HT_ ?_
   refine pT 7 52 HT_ ?_
   refine pT 8 53 HT_ ?_
   refine Ms (i := 9) (N := none) #[true,true,true,true,true,true,true,true,true,true] rfl rfl (Db HT_.out zk) (by decide) (fun K hK => ?_)
   have hs51 : w49.cell? ⟨gb116, 0, none⟩ = some (.slice Ao47 x117000_1.length co47) := (Au BK116.out 0).trans rfl
   have hfs51 := Fl BK116.out 0
   have hns51_0 := NB101_116.out
   have hns51_1 := NB102_116.out
   have hns51_2 := NB112_116.out
   have hms51_0 := NB116_101.out
   have hms51_1 := NB116_102.out
   have hms51_2 := NB116_112.out
   refine Lo (w1 := ?_) (by rfl) rfl ?_ ?_
   rotate_left
   ·
    go_simp
    rfl
   refine hK.out _ _ ?_
   clear hK K
   refine Gf (Fo HT_.out zk) ?_
   try go_wp2
   have n0_ : Aa (Kd.R (Kd.int .i64) 2 (w49.setCell ⟨gb116, 0, none⟩ (.slice Ao47 y132.length co47)) w.heap.size (fun k_ => some k_ ≠ (.slice Ao47 y132.length co47 : Value).ownBlock) u113000 x113000_1) := ⟨by refine zR ?_; exact Kd.Ai (Kd.Dv (p := ⟨gb116, 0, none⟩) (Kd.Cj HO_113000.out BK116.out (by decide)) (fun _ hk => hk.2) (.slice Ao47 y132.length co47)) (fun _ hk => by first | exact hk.1 | (have h_ := hk.1; cases Ao47 <;> exact h_))⟩
   have n1_ : Aa (Kd.R (Kd.int .i64) 2 (w49.setCell ⟨gb116, 0, none⟩ (.slice Ao47 y132.length co47)) w.heap.size (fun k_ => some k_ ≠ (u113000 : Value).ownBlock) (.slice Ao47 y132.length co47) y132) := ⟨by refine zR ?_; exact Kd.Ai (Kd.Dv (p := ⟨gb116, 0, none⟩) (Kd.Cj HO134.out BK116.out (by decide)) (fun _ hk => hk.2) (.slice Ao47 y132.length co47)) (fun _ hk => by first | exact hk.1 | (have h_ := hk.1; cases Ao47 <;> exact h_))⟩
   have n2_ : Aa ((w49.setCell ⟨gb116, 0, none⟩ (.slice Ao47 y132.length co47)).heap[gb101]? = some (.cells #[.slice none 0 0] 26 (0, 0))) := ⟨by refine zG ?_; refine Ce ?_ NB101_116.out _; refine zG ?_; exact BK101.out⟩
   have n3_ : Aa ((w49.setCell ⟨gb116, 0, none⟩ (.slice Ao47 y132.length co47)).heap[gb102]? = some (.cells #[.slice none 0 0] 26 (0, 0))) := ⟨by refine zG ?_; refine Ce ?_ NB102_116.out _; refine zG ?_; exact BK102.out⟩
   have n4_ : Aa ((w49.setCell ⟨gb116, 0, none⟩ (.slice Ao47 y132.length co47)).heap[gb112]? = some (.cells #[u113000] 26 (0, 0))) := ⟨by refine zG ?_; refine Ce ?_ NB112_116.out _; refine zG ?_; exact BK112.out⟩
   have n5_ : Aa ((w49.setCell ⟨gb116, 0, none⟩ (.slice Ao47 y132.length co47)).heap[gb116]? = some (.cells #[.slice Ao47 y132.length co47] 26 (0, 0))) := ⟨by (with_reducible repeat (first | refine Am ?_ _ | refine Ag ?_ | refine Ak ?_ _)); refine Cl (cs := #[.slice Ao47 x117000_1.length co47]) ?_ 0 _ rfl; (with_reducible repeat (first | refine Am ?_ _ | refine Ag ?_ | refine Ak ?_ _)); exact BK116.out⟩
   have n6_ : Aa (Af w (w49.setCell ⟨gb116, 0, none⟩ (.slice Ao47 y132.length co47)) g106 t103 t130 t131) := ⟨zX HI106.out⟩
   have n7_ : Aa (Below w.heap.size w (w49.setCell ⟨gb116, 0, none⟩ (.slice Ao47 y132.length co47))) := ⟨zB⟩
   (try clear HO_113000)
   (try clear HO134)
   (try clear BK101)
   (try clear BK102)
   (try clear BK112)
   (try clear BK116)
   (try clear HI106)
   (try clear HB)
   generalize (w49.setCell ⟨gb116, 0, none⟩ (.slice Ao47 y132.length co47)) = w52 at n0_ n1_ n2_ n3_ n4_ n5_ n6_ n7_ ⊢
   have HO_113000 := n0_
   have HO134 := n1_
   have BK101 := n2_
   have BK102 := n3_
   have BK112 := n4_
   have BK116 := n5_
   have HI106 := n6_
   have HB := n7_
   clear n0_ n1_ n2_ n3_ n4_ n5_ n6_ n7_
   have n_ := y8 (Kd.Ep HO_113000.out) (Kd.Ep HO134.out) (Ag BK101.out) (Ag BK102.out) (Ag BK112.out) (Ag BK116.out) (Af.drew HI106.out) (Bz HB.out)
   clear HO_113000 HO134 BK101 BK102 BK112 BK116 HI106 HB
   obtain ⟨HO_113000, HO134, BK101, BK102, BK112, BK116, HI106, HB⟩ := n_
   obtain ⟨Ao54, co54, eo54⟩ := Kd.Bb HO_113000.out
   (first | subst eo54 | (injection eo54 with f1_ f2_ f3_; have f4_ := f1_.symm; have f5_ := f3_.symm; clear f1_ f2_ f3_; subst f4_; subst f5_))
   refine Fg (n := 8) (S := fun w' => w'.cell? ⟨gb112, 0, none⟩ = some (.slice Ao54 x113000_1.length co54) ∧ w'.cell? ⟨gb116, 0, none⟩ = some (.slice Ao47 y132.length co47)) (ds := []) #[false,false,false,false,false,false,false,false] zk rfl rfl ⟨(Au BK112.out 0).trans rfl, (Au BK116.out 0).trans rfl⟩ (fun hHeld => ?_); refine Eh Ar.tab14 Ar.bits14 (fun HT_ HW_ => ?_)
   generalize w52.drew = w53 at HO_113000 HO134 BK101 BK102 BK112 BK116 HI106 HB hHeld ⊢
   refine pT 0 58 HT_ ?_
   refine pT 3 61 HT_ ?_
   refine tT 1 59 HT_ HW_ hHeld ?_
   refine tT 4 62 HT_ HW_ hHeld ?_
   refine Fk (i := 2) (N := some 60) #[true,true,true,true,true,false,false,false] rfl rfl (Db HT_.out zk) (by decide) (fun K hK => ?_)
   refine Ff Tryz.func30 zk rfl #[.pointer (some ⟨g106, 0, none⟩), .agg #[.slice Ao54 x113000_1.length co54]] (by rfl) rfl rfl zA ?_
   with_reducible refine (Bm.calls k1 g106 t103 t130 t131 (fun k_ => some k_ = (.slice Ao54 x113000_1.length co54 : Value).ownBlock) (.slice Ao54 x113000_1.length co54) x113000_1 t135 t138 t139 w _ ?side1 ?side2 ?side3 A43.out).mono ?_
   (case side1 => exact zX HI106.out)
   (case side2 => exact zB)
   (case side3 => exact Kd.Ml rfl HO_113000.out)
   rintro e w55 ⟨v136, rfl, ho0, hi, hb, hkp⟩
   refine ⟨_, rfl, ?_⟩
   have n_ := y8 (Kd.Ai (ok' := fun k_ => some k_ ≠ (v136 : Value).ownBlock) (Kd.Ns ((Af.apart HI106.out HO134.out (by decide))) hkp (fun k_ hk_ hs_ => Or.elim hs_ (fun hs_ => (hk_.1) hs_) (fun e_ => (hk_.2) e_))) (fun k_ hk_ => fun e_ => Or.elim (ho0.1 k_ e_.symm) (fun hs_ => by first | exact hk_.2.1 hs_ | exact hk_.2.1 (.inl hs_)) (fun hn_ => Nat.not_le.2 hk_.2.2 hn_))) (Eu (zG BK101.out) hkp (fun hs_ => Or.elim hs_ (fun hs_ => (fun e_ => (Kd.Em HO_113000.out BK101.out (by decide)) e_) hs_) (fun e_ => NB101_106.out e_))) (Eu (zG BK102.out) hkp (fun hs_ => Or.elim hs_ (fun hs_ => (fun e_ => (Kd.Em HO_113000.out BK102.out (by decide)) e_) hs_) (fun e_ => NB102_106.out e_))) (Eu (zG BK112.out) hkp (fun hs_ => Or.elim hs_ (fun hs_ => (fun e_ => (Kd.Em HO_113000.out BK112.out (by decide)) e_) hs_) (fun e_ => NB112_106.out e_))) (Eu (zG BK116.out) hkp (fun hs_ => Or.elim hs_ (fun hs_ => (fun e_ => (Kd.Em HO_113000.out BK116.out (by decide)) e_) hs_) (fun e_ => NB116_106.out e_))) (hi) (Kd.Ai (ok' := fun k_ => some k_ ≠ (.slice Ao47 y132.length co47 : Value).ownBlock) ho0 (fun k_ hk_ => Or.elim hk_ (fun hs_ => fun e_ => ((((Af.apart HI106.out HO134.out (by decide))).1 k_ e_.symm).1) hs_) (fun hn_ => (Kd.fresh' (Kd.Cx (zR HO134.out)) k_ hn_)))) (hb)
   clear HO134 BK101 BK102 BK112 BK116 HI106 HB HO_113000
   obtain ⟨HO134, BK101, BK102, BK112, BK116, HI106, HO137, HB⟩ := n_
   (try clear hb)
   (try clear hkp)
   (try clear ho0)
   refine hK.out _ _ ⟨(Au BK112.out 0).trans rfl, (Au BK116.out 0).trans rfl⟩ (fun hHeld => ?_)
   clear hK K
   refine nT 60 ?_
   refine Fk (i := 5) (N := some 63) #[true,true,true,true,true,true,false,false] rfl rfl (Db HT_.out zk) (by decide) (fun K hK => ?_)
   refine Ff Tryz.func30 zk rfl #[.pointer (some ⟨g106, 0, none⟩), .agg #[.slice Ao47 y132.length co47]] (by rfl) rfl rfl zA ?_
   with_reducible refine (Bm.calls k1 g106 t103 t138 t139 (fun k_ => some k_ = (.slice Ao47 y132.length co47 : Value).ownBlock) (.slice Ao47 y132.length co47) y132 t140 t143 t144 w _ ?side1 ?side2 ?side3 A44.out).mono ?_
   (case side1 => exact zX HI106.out)
   (case side2 => exact zB)
   (case side3 => exact Kd.Ml rfl HO134.out)
   rintro e w56 ⟨v141, rfl, ho0, hi, hb, hkp⟩
   refine ⟨_, rfl, ?_⟩
   have n_ := y8 (Eu (zG BK101.out) hkp (fun hs_ => Or.elim hs_ (fun hs_ => (fun e_ => (Kd.Em HO134.out BK101.out (by decide)) e_) hs_) (fun e_ => NB101_106.out e_))) (Eu (zG BK102.out) hkp (fun hs_ => Or.elim hs_ (fun hs_ => (fun e_ => (Kd.Em HO134.out BK102.out (by decide)) e_) hs_) (fun e_ => NB102_106.out e_))) (Eu (zG BK112.out) hkp (fun hs_ => Or.elim hs_ (fun hs_ => (fun e_ => (Kd.Em HO134.out BK112.out (by decide)) e_) hs_) (fun e_ => NB112_106.out e_))) (Eu (zG BK116.out) hkp (fun hs_ => Or.elim hs_ (fun hs_ => (fun e_ => (Kd.Em HO134.out BK116.out (by decide)) e_) hs_) (fun e_ => NB116_106.out e_))) (hi) (Kd.Ai (ok' := fun k_ => some k_ ≠ (v141 : Value).ownBlock) (Kd.Ns ((Af.apart HI106.out HO137.out (by decide))) hkp (fun k_ hk_ hs_ => Or.elim hs_ (fun hs_ => (hk_.1) hs_) (fun e_ => (hk_.2) e_))) (fun k_ hk_ => fun e_ => Or.elim (ho0.1 k_ e_.symm) (fun hs_ => by first | exact hk_.2.1 hs_ | exact hk_.2.1 (.inl hs_)) (fun hn_ => Nat.not_le.2 hk_.2.2 hn_))) (Kd.Ai (ok' := fun k_ => some k_ ≠ (v136 : Value).ownBlock) ho0 (fun k_ hk_ => Or.elim hk_ (fun hs_ => fun e_ => ((((Af.apart HI106.out HO137.out (by decide))).1 k_ e_.symm).1) hs_) (fun hn_ => (Kd.fresh' (Kd.Cx (zR HO137.out)) k_ hn_)))) (hb)
   clear BK101 BK102 BK112 BK116 HI106 HO137 HB HO134
   obtain ⟨BK101, BK102, BK112, BK116, HI106, HO137, HO142, HB⟩ := n_
   (try clear hb)
   (try clear hkp)
   (try clear ho0)
   obtain ⟨Ao57, co57, eo57⟩ := Kd.Bb HO137.out
   (first | subst eo57 | (injection eo57 with f1_ f2_ f3_; have f4_ := f1_.symm; have f5_ := f3_.symm; clear f1_ f2_ f3_; subst f4_; subst f5_))
   obtain ⟨Ao59, co59, eo59⟩ := Kd.Bb HO142.out
   (first | subst eo59 | (injection eo59 with f1_ f2_ f3_; have f4_ := f1_.symm; have f5_ := f3_.symm; clear f1_ f2_ f3_; subst f4_; subst f5_))
   refine hK.out _ _ ⟨(Au BK112.out 0).trans rfl, (Au BK116.out 0).trans rfl⟩ (fun hHeld => ?_)
   clear hK K
   refine nT 63 ?_
   refine Fk (i := 6) (N := none) #[true,true,true,true,true,true,true,false] rfl rfl (Db HT_.out zk) (by decide) (fun K hK => ?_)
   have hs58 : w56.cell? ⟨gb101, 0, none⟩ = some (.slice none 0 0) := (Au BK101.out 0).trans rfl
   have hfs58 := Fl BK101.out 0
   have hns58_1 := NB102_101.out
   have hns58_2 := NB112_101.out
   have hns58_3 := NB116_101.out
   have hms58_1 := NB101_102.out
   have hms58_2 := NB101_112.out
   have hms58_3 := NB101_116.out
   refine Lo (w1 := ?_) (by rfl) rfl ?_ ?_
   rotate_left
   ·
    go_simp
    rfl
   refine hK.out _ _ ⟨((Kf (p := ⟨gb101, _, none⟩) NB112_101.out _).trans (hHeld.1)), ((Kf (p := ⟨gb101, _, none⟩) NB116_101.out _).trans (hHeld.2))⟩ (fun hHeld => ?_)
   clear hK K
   refine Fk (i := 7) (N := none) #[true,true,true,true,true,true,true,true] rfl rfl (Db HT_.out zk) (by decide) (fun K hK => ?_)
   have hs60 : w56.cell? ⟨gb102, 0, none⟩ = some (.slice none 0 0) := (Au BK102.out 0).trans rfl
   have hfs60 := Fl BK102.out 0
   have hns60_0 := NB101_102.out
   have hns60_2 := NB112_102.out
   have hns60_3 := NB116_102.out
   have hms60_0 := NB102_101.out
   have hms60_2 := NB102_112.out
   have hms60_3 := NB102_116.out
   refine Lo (w1 := ?_) (by rfl) rfl ?_ ?_
   rotate_left
   ·
    go_simp
    rfl
   refine hK.out _ _ ⟨((Kf (p := ⟨gb102, _, none⟩) NB112_102.out _).trans (hHeld.1)), ((Kf (p := ⟨gb102, _, none⟩) NB116_102.out _).trans (hHeld.2))⟩ (fun hHeld => ?_)
   clear hK K
   refine Gf (Fo HT_.out zk) ?_
   try go_wp2
   refine bodyPost_ret (Rg rfl _ _ gb101 gb102 26 26 #[.slice Ao57 t135.length co57] #[.slice Ao59 t140.length co59] (0, 0) (0, 0) _ _ rfl (by refine zG ?_; refine Ce ?_ NB101_102.out _; (with_reducible repeat (first | refine Am ?_ _ | refine Ag ?_ | refine Ak ?_ _)); refine Cl (cs := #[.slice none 0 0]) ?_ 0 _ rfl; (with_reducible repeat (first | refine Am ?_ _ | refine Ag ?_ | refine Ak ?_ _)); exact BK101.out) Tryz.underlying26 rfl zk rfl (by (with_reducible repeat (first | refine Am ?_ _ | refine Ag ?_ | refine Ak ?_ _)); refine Cl (cs := #[.slice none 0 0]) ?_ 0 _ rfl; (with_reducible repeat (first | refine Am ?_ _ | refine Ag ?_ | refine Ak ?_ _)); refine Ce ?_ NB102_101.out _; refine zG ?_; exact BK102.out) Tryz.underlying26 rfl zk) rfl ?_
   exact ⟨_, _, by first | rfl | (simp [Gn, Gm] <;> rfl) | (simp only [← hji40]; first | rfl | (simp [Gn, Gm] <;> rfl)) | (simp [*, Gn, Gm] <;> rfl), by refine zR ?_; exact Kd.Ai (Kd.Dv (p := ⟨gb102, 0, none⟩) (Kd.Dv (p := ⟨gb101, 0, none⟩) (Kd.Cj (Kd.Cj HO137.out BK101.out (by decide)) BK102.out (by decide)) (fun _ hk => hk.1.2) (.slice Ao57 t135.length co57)) (fun _ hk => hk.2) (.slice Ao59 t140.length co59)) (fun _ hk => hk.1.1), by refine zR ?_; exact Kd.Ai (Kd.Dv (p := ⟨gb102, 0, none⟩) (Kd.Dv (p := ⟨gb101, 0, none⟩) (Kd.Cj (Kd.Cj HO142.out BK101.out (by decide)) BK102.out (by decide)) (fun _ hk => hk.1.2) (.slice Ao57 t135.length co57)) (fun _ hk => hk.2) (.slice Ao59 t140.length co59)) (fun _ hk => hk.1.1), zB⟩
  rw [if_neg c37] at H
  have c37b0 : (t125 == 0) = false := beq_eq_false_iff_ne.mpr c37
  have c37b1 : (t125 != 0) = true := bne_iff_ne.mpr c37
  by_cases c61 : t125 = 1
  case neg =>
   rw [if_neg c61] at H
   have c61b0 : (t125 == 1) = false := beq_eq_false_iff_ne.mpr c61
   have c61b1 : (t125 != 1) = true := bne_iff_ne.mpr c61
   obtain ⟨⟨t160, t163, t164⟩, A82, H⟩ := zO H
   try dsimp only at H
   obtain ⟨⟨t165, t168, t169⟩, A83, H⟩ := zO H
   try dsimp only at H
   simp only [Option.some.injEq, Prod.mk.injEq] at H
   obtain ⟨rfl, rfl⟩ := H
   try go_wp2_with (first | (refine gK 29 ?_; refine gL 42 Tryz.func29 #[.pointer (some ⟨g106, 0, none⟩), .int .i64 4] ?_; (with_reducible refine (Bf.calls g106 t103 x107001_1 x107002_1 4 t125 t126 t127 w _ ?side1 ?side2 A36.out).mono ?_); (case side1 => exact zX HI106.out); (case side2 => exact zB); rintro e w84 ⟨rfl, hi, hb, hk⟩; refine ⟨_, rfl, ?_⟩; have n_ := y8 (Kd.Ai (Kd.Cz (Af.apart (show Af w _ g106 t103 x107001_1 x107002_1 from zX HI106.out) (zR HO_113000.out) (by decide)) hk (fun _ h => h.2)) (fun _ h => h.1)) (Kd.Ai (Kd.Cz (Af.apart (show Af w _ g106 t103 x107001_1 x107002_1 from zX HI106.out) (zR HO_117000.out) (by decide)) hk (fun _ h => h.2)) (fun _ h => h.1)) (zW BK101.out hk NB101_106.out) (zW BK102.out hk NB102_106.out) (zW BK112.out hk NB112_106.out) (zW BK116.out hk NB116_106.out) (hb) (hi); clear HO_113000 HO_117000 BK101 BK102 BK112 BK116 HB HI106; obtain ⟨HO_113000, HO_117000, BK101, BK102, BK112, BK116, HB, HI106⟩ := n_; (try clear hi hb hk)))
   have n_ := y8 (Kd.Ep HO_113000.out) (Kd.Ep HO_117000.out) (Ag BK101.out) (Ag BK102.out) (Ag BK112.out) (Ag BK116.out) (Af.drew HI106.out) (Bz HB.out)
   clear HO_113000 HO_117000 BK101 BK102 BK112 BK116 HI106 HB
   obtain ⟨HO_113000, HO_117000, BK101, BK102, BK112, BK116, HI106, HB⟩ := n_
   obtain ⟨Ao86, co86, eo86⟩ := Kd.Bb HO_113000.out
   (first | subst eo86 | (injection eo86 with f1_ f2_ f3_; have f4_ := f1_.symm; have f5_ := f3_.symm; clear f1_ f2_ f3_; subst f4_; subst f5_))
   refine Fg (n := 8) (S := fun w' => w'.cell? ⟨gb112, 0, none⟩ = some (.slice Ao86 x113000_1.length co86) ∧ w'.cell? ⟨gb116, 0, none⟩ = some (u117000)) (ds := []) #[false,false,false,false,false,false,false,false] zk rfl rfl ⟨(Au BK112.out 0).trans rfl, (Au BK116.out 0).trans rfl⟩ (fun hHeld => ?_); refine Eh Ar.tab14 Ar.bits14 (fun HT_ HW_ => ?_)
   generalize w84.drew = w85 at HO_113000 HO_117000 BK101 BK102 BK112 BK116 HI106 HB hHeld ⊢
   refine pT 0 58 HT_ ?_
   refine pT 3 61 HT_ ?_
   refine tT 1 59 HT_ HW_ hHeld ?_
   refine tT 4 62 HT_ HW_ hHeld ?_
   refine Fk (i := 2) (N := some 60) #[true,true,true,true,true,false,false,false] rfl rfl (Db HT_.out zk) (by decide) (fun K hK => ?_)
   refine Ff Tryz.func30 zk rfl #[.pointer (some ⟨g106, 0, none⟩), .agg #[.slice Ao86 x113000_1.length co86]] (by rfl) rfl rfl zA ?_
   with_reducible refine (Bm.calls k1 g106 t103 t126 t127 (fun k_ => some k_ = (.slice Ao86 x113000_1.length co86 : Value).ownBlock) (.slice Ao86 x113000_1.length co86) x113000_1 t160 t163 t164 w _ ?side1 ?side2 ?side3 A82.out).mono ?_
   (case side1 => exact zX HI106.out)
   (case side2 => exact zB)
   (case side3 => exact Kd.Ml rfl HO_113000.out)
   rintro e w87 ⟨v161, rfl, ho0, hi, hb, hkp⟩
   refine ⟨_, rfl, ?_⟩
   have n_ := y8 (Kd.Ai (ok' := fun k_ => some k_ ≠ (v161 : Value).ownBlock) (Kd.Ns ((Af.apart HI106.out HO_117000.out (by decide))) hkp (fun k_ hk_ hs_ => Or.elim hs_ (fun hs_ => (hk_.1) hs_) (fun e_ => (hk_.2) e_))) (fun k_ hk_ => fun e_ => Or.elim (ho0.1 k_ e_.symm) (fun hs_ => by first | exact hk_.2.1 hs_ | exact hk_.2.1 (.inl hs_)) (fun hn_ => Nat.not_le.2 hk_.2.2 hn_))) (Eu (zG BK101.out) hkp (fun hs_ => Or.elim hs_ (fun hs_ => (fun e_ => (Kd.Em HO_113000.out BK101.out (by decide)) e_) hs_) (fun e_ => NB101_106.out e_))) (Eu (zG BK102.out) hkp (fun hs_ => Or.elim hs_ (fun hs_ => (fun e_ => (Kd.Em HO_113000.out BK102.out (by decide)) e_) hs_) (fun e_ => NB102_106.out e_))) (Eu (zG BK112.out) hkp (fun hs_ => Or.elim hs_ (fun hs_ => (fun e_ => (Kd.Em HO_113000.out BK112.out (by decide)) e_) hs_) (fun e_ => NB112_106.out e_))) (Eu (zG BK116.out) hkp (fun hs_ => Or.elim hs_ (fun hs_ => (fun e_ => (Kd.Em HO_113000.out BK116.out (by decide)) e_) hs_) (fun e_ => NB116_106.out e_))) (hi) (Kd.Ai (ok' := fun k_ => some k_ ≠ (u117000 : Value).ownBlock) ho0 (fun k_ hk_ => Or.elim hk_ (fun hs_ => fun e_ => ((((Af.apart HI106.out HO_117000.out (by decide))).1 k_ e_.symm).1) hs_) (fun hn_ => (Kd.fresh' (Kd.Cx (zR HO_117000.out)) k_ hn_)))) (hb)
   clear HO_117000 BK101 BK102 BK112 BK116 HI106 HB HO_113000
   obtain ⟨HO_117000, BK101, BK102, BK112, BK116, HI106, HO162, HB⟩ := n_
   (try clear hb)
   (try clear hkp)
   (try clear ho0)
   obtain ⟨Ao88, co88, eo88⟩ := Kd.Bb HO_117000.out
   (first | subst eo88 | (injection eo88 with f1_ f2_ f3_; have f4_ := f1_.symm; have f5_ := f3_.symm; clear f1_ f2_ f3_; subst f4_; subst f5_))
   refine hK.out _ _ ⟨(Au BK112.out 0).trans rfl, (Au BK116.out 0).trans rfl⟩ (fun hHeld => ?_)
   clear hK K
   refine nT 60 ?_
   refine Fk (i := 5) (N := some 63) #[true,true,true,true,true,true,false,false] rfl rfl (Db HT_.out zk) (by decide) (fun K hK => ?_)
   refine Ff Tryz.func30 zk rfl #[.pointer (some ⟨g106, 0, none⟩), .agg #[.slice Ao88 x117000_1.length co88]] (by rfl) rfl rfl zA ?_
   with_reducible refine (Bm.calls k1 g106 t103 t163 t164 (fun k_ => some k_ = (.slice Ao88 x117000_1.length co88 : Value).ownBlock) (.slice Ao88 x117000_1.length co88) x117000_1 t165 t168 t169 w _ ?side1 ?side2 ?side3 A83.out).mono ?_
   (case side1 => exact zX HI106.out)
   (case side2 => exact zB)
   (case side3 => exact Kd.Ml rfl HO_117000.out)
   rintro e w89 ⟨v166, rfl, ho0, hi, hb, hkp⟩
   refine ⟨_, rfl, ?_⟩
   have n_ := y8 (Eu (zG BK101.out) hkp (fun hs_ => Or.elim hs_ (fun hs_ => (fun e_ => (Kd.Em HO_117000.out BK101.out (by decide)) e_) hs_) (fun e_ => NB101_106.out e_))) (Eu (zG BK102.out) hkp (fun hs_ => Or.elim hs_ (fun hs_ => (fun e_ => (Kd.Em HO_117000.out BK102.out (by decide)) e_) hs_) (fun e_ => NB102_106.out e_))) (Eu (zG BK112.out) hkp (fun hs_ => Or.elim hs_ (fun hs_ => (fun e_ => (Kd.Em HO_117000.out BK112.out (by decide)) e_) hs_) (fun e_ => NB112_106.out e_))) (Eu (zG BK116.out) hkp (fun hs_ => Or.elim hs_ (fun hs_ => (fun e_ => (Kd.Em HO_117000.out BK116.out (by decide)) e_) hs_) (fun e_ => NB116_106.out e_))) (hi) (Kd.Ai (ok' := fun k_ => some k_ ≠ (v166 : Value).ownBlock) (Kd.Ns ((Af.apart HI106.out HO162.out (by decide))) hkp (fun k_ hk_ hs_ => Or.elim hs_ (fun hs_ => (hk_.1) hs_) (fun e_ => (hk_.2) e_))) (fun k_ hk_ => fun e_ => Or.elim (ho0.1 k_ e_.symm) (fun hs_ => by first | exact hk_.2.1 hs_ | exact hk_.2.1 (.inl hs_)) (fun hn_ => Nat.not_le.2 hk_.2.2 hn_))) (Kd.Ai (ok' := fun k_ => some k_ ≠ (v161 : Value).ownBlock) ho0 (fun k_ hk_ => Or.elim hk_ (fun hs_ => fun e_ => ((((Af.apart HI106.out HO162.out (by decide))).1 k_ e_.symm).1) hs_) (fun hn_ => (Kd.fresh' (Kd.Cx (zR HO162.out)) k_ hn_)))) (hb)
   clear BK101 BK102 BK112 BK116 HI106 HO162 HB HO_117000
   obtain ⟨BK101, BK102, BK112, BK116, HI106, HO162, HO167, HB⟩ := n_
   (try clear hb)
   (try clear hkp)
   (try clear ho0)
   obtain ⟨Ao90, co90, eo90⟩ := Kd.Bb HO162.out
   (first | subst eo90 | (injection eo90 with f1_ f2_ f3_; have f4_ := f1_.symm; have f5_ := f3_.symm; clear f1_ f2_ f3_; subst f4_; subst f5_))
   obtain ⟨Ao92, co92, eo92⟩ := Kd.Bb HO167.out
   (first | subst eo92 | (injection eo92 with f1_ f2_ f3_; have f4_ := f1_.symm; have f5_ := f3_.symm; clear f1_ f2_ f3_; subst f4_; subst f5_))
   refine hK.out _ _ ⟨(Au BK112.out 0).trans rfl, (Au BK116.out 0).trans rfl⟩ (fun hHeld => ?_)
   clear hK K
   refine nT 63 ?_
   refine Fk (i := 6) (N := none) #[true,true,true,true,true,true,true,false] rfl rfl (Db HT_.out zk) (by decide) (fun K hK => ?_)
   have hs91 : w89.cell? ⟨gb101, 0, none⟩ = some (.slice none 0 0) := (Au BK101.out 0).trans rfl
   have hfs91 := Fl BK101.out 0
   have hns91_1 := NB102_101.out
   have hns91_2 := NB112_101.out
   have hns91_3 := NB116_101.out
   have hms91_1 := NB101_102.out
   have hms91_2 := NB101_112.out
   have hms91_3 := NB101_116.out
   refine Lo (w1 := ?_) (by rfl) rfl ?_ ?_
   rotate_left
   ·
    go_simp
    rfl
   refine hK.out _ _ ⟨((Kf (p := ⟨gb101, _, none⟩) NB112_101.out _).trans (hHeld.1)), ((Kf (p := ⟨gb101, _, none⟩) NB116_101.out _).trans (hHeld.2))⟩ (fun hHeld => ?_)
   clear hK K
   refine Fk (i := 7) (N := none) #[true,true,true,true,true,true,true,true] rfl rfl (Db HT_.out zk) (by decide) (fun K hK => ?_)
   have hs93 : w89.cell? ⟨gb102, 0, none⟩ = some (.slice none 0 0) := (Au BK102.out 0).trans rfl
   have hfs93 := Fl BK102.out 0
   have hns93_0 := NB101_102.out
   have hns93_2 := NB112_102.out
   have hns93_3 := NB116_102.out
   have hms93_0 := NB102_101.out
   have hms93_2 := NB102_112.out
   have hms93_3 := NB102_116.out
   refine Lo (w1 := ?_) (by rfl) rfl ?_ ?_
   rotate_left
   ·
    go_simp
    rfl
   refine hK.out _ _ ⟨((Kf (p := ⟨gb102, _, none⟩) NB112_102.out _).trans (hHeld.1)), ((Kf (p := ⟨gb102, _, none⟩) NB116_102.out _).trans (hHeld.2))⟩ (fun hHeld => ?_)
   clear hK K
   refine Gf (Fo HT_.out zk) ?_
   try go_wp2
   refine bodyPost_ret (Rg rfl _ _ gb101 gb102 26 26 #[.slice Ao90 t160.length co90] #[.slice Ao92 t165.length co92] (0, 0) (0, 0) _ _ rfl (by refine zG ?_; refine Ce ?_ NB101_102.out _; (with_reducible repeat (first | refine Am ?_ _ | refine Ag ?_ | refine Ak ?_ _)); refine Cl (cs := #[.slice none 0 0]) ?_ 0 _ rfl; (with_reducible repeat (first | refine Am ?_ _ | refine Ag ?_ | refine Ak ?_ _)); exact BK101.out) Tryz.underlying26 rfl zk rfl (by (with_reducible repeat (first | refine Am ?_ _ | refine Ag ?_ | refine Ak ?_ _)); refine Cl (cs := #[.slice none 0 0]) ?_ 0 _ rfl; (with_reducible repeat (first | refine Am ?_ _ | refine Ag ?_ | refine Ak ?_ _)); refine Ce ?_ NB102_101.out _; refine zG ?_; exact BK102.out) Tryz.underlying26 rfl zk) rfl ?_
   exact ⟨_, _, zE, by refine zR ?_; exact Kd.Ai (Kd.Dv (p := ⟨gb102, 0, none⟩) (Kd.Dv (p := ⟨gb101, 0, none⟩) (Kd.Cj (Kd.Cj HO162.out BK101.out (by decide)) BK102.out (by decide)) (fun _ hk => hk.1.2) (.slice Ao90 t160.length co90)) (fun _ hk => hk.2) (.slice Ao92 t165.length co92)) (fun _ hk => hk.1.1), by refine zR ?_; exact Kd.Ai (Kd.Dv (p := ⟨gb102, 0, none⟩) (Kd.Dv (p := ⟨gb101, 0, none⟩) (Kd.Cj (Kd.Cj HO167.out BK101.out (by decide)) BK102.out (by decide)) (fun _ hk => hk.1.2) (.slice Ao90 t160.length co90)) (fun _ hk => hk.2) (.slice Ao92 t165.length co92)) (fun _ hk => hk.1.1), zB⟩
  rw [if_pos c61] at H
  have c61b0 : (t125 == 1) = true := beq_iff_eq.mpr c61
  have c61b1 : (t125 != 1) = false := bne_eq_false_iff_eq.mpr c61
  clear c61
  obtain ⟨⟨t145, t148, t149⟩, A62, H⟩ := zO H
  try dsimp only at H
  obtain ⟨⟨t150, t153, t154⟩, A63, H⟩ := zO H
  try dsimp only at H
  obtain ⟨⟨t155, t158, t159⟩, A64, H⟩ := zO H
  try dsimp only at H
  simp only [Option.some.injEq, Prod.mk.injEq] at H
  obtain ⟨rfl, rfl⟩ := H
  try go_wp2_with (first | (refine gK 29 ?_; refine gL 42 Tryz.func29 #[.pointer (some ⟨g106, 0, none⟩), .int .i64 4] ?_; (with_reducible refine (Bf.calls g106 t103 x107001_1 x107002_1 4 t125 t126 t127 w _ ?side1 ?side2 A36.out).mono ?_); (case side1 => exact zX HI106.out); (case side2 => exact zB); rintro e w65 ⟨rfl, hi, hb, hk⟩; refine ⟨_, rfl, ?_⟩; have n_ := y8 (Kd.Ai (Kd.Cz (Af.apart (show Af w _ g106 t103 x107001_1 x107002_1 from zX HI106.out) (zR HO_113000.out) (by decide)) hk (fun _ h => h.2)) (fun _ h => h.1)) (Kd.Ai (Kd.Cz (Af.apart (show Af w _ g106 t103 x107001_1 x107002_1 from zX HI106.out) (zR HO_117000.out) (by decide)) hk (fun _ h => h.2)) (fun _ h => h.1)) (zW BK101.out hk NB101_106.out) (zW BK102.out hk NB102_106.out) (zW BK112.out hk NB112_106.out) (zW BK116.out hk NB116_106.out) (hb) (hi); clear HO_113000 HO_117000 BK101 BK102 BK112 BK116 HB HI106; obtain ⟨HO_113000, HO_117000, BK101, BK102, BK112, BK116, HB, HI106⟩ := n_; (try clear hi hb hk)) | (refine gK 26 ?_; refine gL 57 Tryz.func26 #[.pointer (some ⟨g106, 0, none⟩)] ?_; (with_reducible refine (Du.calls k1 g106 t103 t126 t127 t145 t148 t149 w _ ?side1 ?side2 A62.out).mono ?_); (case side1 => exact zX HI106.out); (case side2 => exact zB); rintro e w66 ⟨v146, rfl, ho0, hi, hb, hk⟩; refine ⟨_, rfl, ?_⟩; have n_ := y9 (Kd.Ai (Kd.Ez (Kd.No (Af.apart (show Af w _ g106 t103 t126 t127 from zX HI106.out) (zR HO_113000.out) (by decide)) hk) (Kd.Bs ho0)) (fun _ h_ => h_.1)) (Kd.Ai (Kd.Ez (Kd.No (Af.apart (show Af w _ g106 t103 t126 t127 from zX HI106.out) (zR HO_117000.out) (by decide)) hk) (Kd.Bs ho0)) (fun _ h_ => h_.1)) (zW BK101.out hk NB101_106.out) (zW BK102.out hk NB102_106.out) (zW BK112.out hk NB112_106.out) (zW BK116.out hk NB116_106.out) (Kd.Bk (Kd.Bt (Kd.Bt ho0 (Kd.Cx (zR HO_113000.out))) (Kd.Cx (zR HO_117000.out))) (An (zB))) (hb) (hi); clear HO_113000 HO_117000 BK101 BK102 BK112 BK116 HB HI106; obtain ⟨HO_113000, HO_117000, BK101, BK102, BK112, BK116, HO147, HB, HI106⟩ := n_; (try clear ho0 hi hb hk); obtain ⟨Ao67, co67, eo67⟩ := Kd.Bb HO147.out; subst eo67; have hnb68 := NB116_101.out; have hnc68 := NB101_116.out; have hnb69 := NB116_102.out; have hnc69 := NB102_116.out; have hnb70 := NB116_112.out; have hnc70 := NB112_116.out; have hnb71 := NB116_106.out; have hnc71 := NB106_116.out; obtain ⟨hcz72_0, hfz72_0⟩ := zw BK116.out))
  have n0_ : Aa (Kd.R (Kd.int .i64) 2 (w66.setCell ⟨gb116, 0, none⟩ (.slice Ao67 t145.length co67)) w.heap.size (fun k_ => some k_ ≠ (u117000 : Value).ownBlock ∧ some k_ ≠ (.slice Ao67 t145.length co67 : Value).ownBlock) u113000 x113000_1) := ⟨by refine zR ?_; exact Kd.Ai (Kd.Dv (p := ⟨gb116, 0, none⟩) (Kd.Cj HO_113000.out BK116.out (by decide)) (fun _ hk => hk.2) (.slice Ao67 t145.length co67)) (fun _ hk => ⟨hk.1.1, hk.1.2⟩)⟩
  have n1_ : Aa (Kd.R (Kd.int .i64) 2 (w66.setCell ⟨gb116, 0, none⟩ (.slice Ao67 t145.length co67)) w.heap.size (fun k_ => some k_ ≠ (u113000 : Value).ownBlock ∧ some k_ ≠ (.slice Ao67 t145.length co67 : Value).ownBlock) u117000 x117000_1) := ⟨by refine zR ?_; exact Kd.Ai (Kd.Dv (p := ⟨gb116, 0, none⟩) (Kd.Cj HO_117000.out BK116.out (by decide)) (fun _ hk => hk.2) (.slice Ao67 t145.length co67)) (fun _ hk => ⟨hk.1.1, hk.1.2⟩)⟩
  have n2_ : Aa (Kd.R (Kd.int .i64) 2 (w66.setCell ⟨gb116, 0, none⟩ (.slice Ao67 t145.length co67)) w.heap.size (fun k_ => some k_ ≠ (u113000 : Value).ownBlock ∧ some k_ ≠ (u117000 : Value).ownBlock) (.slice Ao67 t145.length co67) t145) := ⟨by refine zR ?_; exact Kd.Ai (Kd.Dv (p := ⟨gb116, 0, none⟩) (Kd.Cj HO147.out BK116.out (by decide)) (fun _ hk => hk.2) (.slice Ao67 t145.length co67)) (fun _ hk => ⟨hk.1.1.2, hk.1.2⟩)⟩
  have n3_ : Aa ((w66.setCell ⟨gb116, 0, none⟩ (.slice Ao67 t145.length co67)).heap[gb101]? = some (.cells #[.slice none 0 0] 26 (0, 0))) := ⟨by refine zG ?_; refine Ce ?_ NB101_116.out _; refine zG ?_; exact BK101.out⟩
  have n4_ : Aa ((w66.setCell ⟨gb116, 0, none⟩ (.slice Ao67 t145.length co67)).heap[gb102]? = some (.cells #[.slice none 0 0] 26 (0, 0))) := ⟨by refine zG ?_; refine Ce ?_ NB102_116.out _; refine zG ?_; exact BK102.out⟩
  have n5_ : Aa ((w66.setCell ⟨gb116, 0, none⟩ (.slice Ao67 t145.length co67)).heap[gb112]? = some (.cells #[u113000] 26 (0, 0))) := ⟨by refine zG ?_; refine Ce ?_ NB112_116.out _; refine zG ?_; exact BK112.out⟩
  have n6_ : Aa ((w66.setCell ⟨gb116, 0, none⟩ (.slice Ao67 t145.length co67)).heap[gb116]? = some (.cells #[.slice Ao67 t145.length co67] 26 (0, 0))) := ⟨by (with_reducible repeat (first | refine Am ?_ _ | refine Ag ?_ | refine Ak ?_ _)); refine Cl (cs := #[u117000]) ?_ 0 _ rfl; (with_reducible repeat (first | refine Am ?_ _ | refine Ag ?_ | refine Ak ?_ _)); exact BK116.out⟩
  have n7_ : Aa (Af w (w66.setCell ⟨gb116, 0, none⟩ (.slice Ao67 t145.length co67)) g106 t103 t148 t149) := ⟨zX HI106.out⟩
  have n8_ : Aa (Below w.heap.size w (w66.setCell ⟨gb116, 0, none⟩ (.slice Ao67 t145.length co67))) := ⟨zB⟩
  (try clear HO_113000)
  (try clear HO_117000)
  (try clear HO147)
  (try clear BK101)
  (try clear BK102)
  (try clear BK112)
  (try clear BK116)
  (try clear HI106)
  (try clear HB)
  generalize (w66.setCell ⟨gb116, 0, none⟩ (.slice Ao67 t145.length co67)) = w73 at n0_ n1_ n2_ n3_ n4_ n5_ n6_ n7_ n8_ ⊢
  have HO_113000 := n0_
  have HO_117000 := n1_
  have HO147 := n2_
  have BK101 := n3_
  have BK102 := n4_
  have BK112 := n5_
  have BK116 := n6_
  have HI106 := n7_
  have HB := n8_
  clear n0_ n1_ n2_ n3_ n4_ n5_ n6_ n7_ n8_
  have n_ := y9 (Kd.Ep HO_113000.out) (Kd.Ep HO_117000.out) (Kd.Ep HO147.out) (Ag BK101.out) (Ag BK102.out) (Ag BK112.out) (Ag BK116.out) (Af.drew HI106.out) (Bz HB.out)
  clear HO_113000 HO_117000 HO147 BK101 BK102 BK112 BK116 HI106 HB
  obtain ⟨HO_113000, HO_117000, HO147, BK101, BK102, BK112, BK116, HI106, HB⟩ := n_
  obtain ⟨Ao75, co75, eo75⟩ := Kd.Bb HO_113000.out
  (first | subst eo75 | (injection eo75 with f1_ f2_ f3_; have f4_ := f1_.symm; have f5_ := f3_.symm; clear f1_ f2_ f3_; subst f4_; subst f5_))
  refine Fg (n := 8) (S := fun w' => w'.cell? ⟨gb112, 0, none⟩ = some (.slice Ao75 x113000_1.length co75) ∧ w'.cell? ⟨gb116, 0, none⟩ = some (.slice Ao67 t145.length co67)) (ds := []) #[false,false,false,false,false,false,false,false] zk rfl rfl ⟨(Au BK112.out 0).trans rfl, (Au BK116.out 0).trans rfl⟩ (fun hHeld => ?_); refine Eh Ar.tab14 Ar.bits14 (fun HT_ HW_ => ?_)
  generalize w73.drew = w74 at HO_113000 HO_117000 HO147 BK101 BK102 BK112 BK116 HI106 HB hHeld ⊢
  refine pT 0 58 HT_ ?_
  refine pT 3 61 HT_ ?_
  refine tT 1 59 HT_ HW_ hHeld ?_
  refine tT 4 62 HT_ HW_ hHeld ?_
  refine Fk (i := 2) (N := some 60) #[true,true,true,true,true,false,false,false] rfl rfl (Db HT_.out zk) (by decide) (fun K hK => ?_)
  refine Ff Tryz.func30 zk rfl #[.pointer (some ⟨g106, 0, none⟩), .agg #[.slice Ao75 x113000_1.length co75]] (by rfl) rfl rfl zA ?_
  with_reducible refine (Bm.calls k1 g106 t103 t148 t149 (fun k_ => some k_ = (.slice Ao75 x113000_1.length co75 : Value).ownBlock) (.slice Ao75 x113000_1.length co75) x113000_1 t150 t153 t154 w _ ?side1 ?side2 ?side3 A63.out).mono ?_
  (case side1 => exact zX HI106.out)
  (case side2 => exact zB)
  (case side3 => exact Kd.Ml rfl HO_113000.out)
  rintro e w76 ⟨v151, rfl, ho0, hi, hb, hkp⟩
  refine ⟨_, rfl, ?_⟩
  have n_ := y9 (Kd.Ai (ok' := fun k_ => some k_ ≠ (.slice Ao67 t145.length co67 : Value).ownBlock ∧ some k_ ≠ (v151 : Value).ownBlock) (Kd.Ns ((Af.apart HI106.out HO_117000.out (by decide))) hkp (fun k_ hk_ hs_ => Or.elim hs_ (fun hs_ => (hk_.1.1) hs_) (fun e_ => (hk_.2) e_))) (fun k_ hk_ => ⟨hk_.1.1.2, fun e_ => Or.elim (ho0.1 k_ e_.symm) (fun hs_ => by first | exact hk_.2.1 hs_ | exact hk_.2.1 (.inl hs_)) (fun hn_ => Nat.not_le.2 hk_.2.2 hn_)⟩)) (Eu (zG BK101.out) hkp (fun hs_ => Or.elim hs_ (fun hs_ => (fun e_ => (Kd.Em HO_113000.out BK101.out (by decide)) e_) hs_) (fun e_ => NB101_106.out e_))) (Eu (zG BK102.out) hkp (fun hs_ => Or.elim hs_ (fun hs_ => (fun e_ => (Kd.Em HO_113000.out BK102.out (by decide)) e_) hs_) (fun e_ => NB102_106.out e_))) (Eu (zG BK112.out) hkp (fun hs_ => Or.elim hs_ (fun hs_ => (fun e_ => (Kd.Em HO_113000.out BK112.out (by decide)) e_) hs_) (fun e_ => NB112_106.out e_))) (Eu (zG BK116.out) hkp (fun hs_ => Or.elim hs_ (fun hs_ => (fun e_ => (Kd.Em HO_113000.out BK116.out (by decide)) e_) hs_) (fun e_ => NB116_106.out e_))) (hi) (Kd.Ai (ok' := fun k_ => some k_ ≠ (u117000 : Value).ownBlock ∧ some k_ ≠ (v151 : Value).ownBlock) (Kd.Ns ((Af.apart HI106.out HO147.out (by decide))) hkp (fun k_ hk_ hs_ => Or.elim hs_ (fun hs_ => (hk_.1.1) hs_) (fun e_ => (hk_.2) e_))) (fun k_ hk_ => ⟨hk_.1.1.2, fun e_ => Or.elim (ho0.1 k_ e_.symm) (fun hs_ => by first | exact hk_.2.1 hs_ | exact hk_.2.1 (.inl hs_)) (fun hn_ => Nat.not_le.2 hk_.2.2 hn_)⟩)) (Kd.Ai (ok' := fun k_ => some k_ ≠ (u117000 : Value).ownBlock ∧ some k_ ≠ (.slice Ao67 t145.length co67 : Value).ownBlock) ho0 (fun k_ hk_ => ⟨Or.elim hk_ (fun hs_ => fun e_ => ((((Af.apart HI106.out HO_117000.out (by decide))).1 k_ e_.symm).1.1) hs_) (fun hn_ => (Kd.fresh' (Kd.Cx (zR HO_117000.out)) k_ hn_)), Or.elim hk_ (fun hs_ => fun e_ => ((((Af.apart HI106.out HO147.out (by decide))).1 k_ e_.symm).1.1) hs_) (fun hn_ => (Kd.fresh' (Kd.Cx (zR HO147.out)) k_ hn_))⟩)) (hb)
  clear HO_117000 BK101 BK102 BK112 BK116 HI106 HO147 HB HO_113000
  obtain ⟨HO_117000, BK101, BK102, BK112, BK116, HI106, HO147, HO152, HB⟩ := n_
  (try clear hb)
  (try clear hkp)
  (try clear ho0)
  refine hK.out _ _ ⟨(Au BK112.out 0).trans rfl, (Au BK116.out 0).trans rfl⟩ (fun hHeld => ?_)
  clear hK K
  refine nT 60 ?_
  refine Fk (i := 5) (N := some 63) #[true,true,true,true,true,true,false,false] rfl rfl (Db HT_.out zk) (by decide) (fun K hK => ?_)
  refine Ff Tryz.func30 zk rfl #[.pointer (some ⟨g106, 0, none⟩), .agg #[.slice Ao67 t145.length co67]] (by rfl) rfl rfl zA ?_
  with_reducible refine (Bm.calls k1 g106 t103 t153 t154 (fun k_ => some k_ = (.slice Ao67 t145.length co67 : Value).ownBlock) (.slice Ao67 t145.length co67) t145 t155 t158 t159 w _ ?side1 ?side2 ?side3 A64.out).mono ?_
  (case side1 => exact zX HI106.out)
  (case side2 => exact zB)
  (case side3 => exact Kd.Ml rfl HO147.out)
  rintro e w77 ⟨v156, rfl, ho0, hi, hb, hkp⟩
  refine ⟨_, rfl, ?_⟩
  have n_ := y9 (Kd.Ai (ok' := fun k_ => some k_ ≠ (v151 : Value).ownBlock ∧ some k_ ≠ (v156 : Value).ownBlock) (Kd.Ns ((Af.apart HI106.out HO_117000.out (by decide))) hkp (fun k_ hk_ hs_ => Or.elim hs_ (fun hs_ => (hk_.1.1) hs_) (fun e_ => (hk_.2) e_))) (fun k_ hk_ => ⟨hk_.1.1.2, fun e_ => Or.elim (ho0.1 k_ e_.symm) (fun hs_ => by first | exact hk_.2.1 hs_ | exact hk_.2.1 (.inl hs_)) (fun hn_ => Nat.not_le.2 hk_.2.2 hn_)⟩)) (Eu (zG BK101.out) hkp (fun hs_ => Or.elim hs_ (fun hs_ => (fun e_ => (Kd.Em HO147.out BK101.out (by decide)) e_) hs_) (fun e_ => NB101_106.out e_))) (Eu (zG BK102.out) hkp (fun hs_ => Or.elim hs_ (fun hs_ => (fun e_ => (Kd.Em HO147.out BK102.out (by decide)) e_) hs_) (fun e_ => NB102_106.out e_))) (Eu (zG BK112.out) hkp (fun hs_ => Or.elim hs_ (fun hs_ => (fun e_ => (Kd.Em HO147.out BK112.out (by decide)) e_) hs_) (fun e_ => NB112_106.out e_))) (Eu (zG BK116.out) hkp (fun hs_ => Or.elim hs_ (fun hs_ => (fun e_ => (Kd.Em HO147.out BK116.out (by decide)) e_) hs_) (fun e_ => NB116_106.out e_))) (hi) (Kd.Ai (ok' := fun k_ => some k_ ≠ (u117000 : Value).ownBlock ∧ some k_ ≠ (v156 : Value).ownBlock) (Kd.Ns ((Af.apart HI106.out HO152.out (by decide))) hkp (fun k_ hk_ hs_ => Or.elim hs_ (fun hs_ => (hk_.1.2) hs_) (fun e_ => (hk_.2) e_))) (fun k_ hk_ => ⟨hk_.1.1.1, fun e_ => Or.elim (ho0.1 k_ e_.symm) (fun hs_ => by first | exact hk_.2.1 hs_ | exact hk_.2.1 (.inl hs_)) (fun hn_ => Nat.not_le.2 hk_.2.2 hn_)⟩)) (Kd.Ai (ok' := fun k_ => some k_ ≠ (u117000 : Value).ownBlock ∧ some k_ ≠ (v151 : Value).ownBlock) ho0 (fun k_ hk_ => ⟨Or.elim hk_ (fun hs_ => fun e_ => ((((Af.apart HI106.out HO_117000.out (by decide))).1 k_ e_.symm).1.1) hs_) (fun hn_ => (Kd.fresh' (Kd.Cx (zR HO_117000.out)) k_ hn_)), Or.elim hk_ (fun hs_ => fun e_ => ((((Af.apart HI106.out HO152.out (by decide))).1 k_ e_.symm).1.2) hs_) (fun hn_ => (Kd.fresh' (Kd.Cx (zR HO152.out)) k_ hn_))⟩)) (hb)
  clear HO_117000 BK101 BK102 BK112 BK116 HI106 HO152 HB HO147
  obtain ⟨HO_117000, BK101, BK102, BK112, BK116, HI106, HO152, HO157, HB⟩ := n_
  (try clear hb)
  (try clear hkp)
  (try clear ho0)
  obtain ⟨Ao78, co78, eo78⟩ := Kd.Bb HO152.out
  (first | subst eo78 | (injection eo78 with f1_ f2_ f3_; have f4_ := f1_.symm; have f5_ := f3_.symm; clear f1_ f2_ f3_; subst f4_; subst f5_))
  obtain ⟨Ao80, co80, eo80⟩ := Kd.Bb HO157.out
  (first | subst eo80 | (injection eo80 with f1_ f2_ f3_; have f4_ := f1_.symm; have f5_ := f3_.symm; clear f1_ f2_ f3_; subst f4_; subst f5_))
  refine hK.out _ _ ⟨(Au BK112.out 0).trans rfl, (Au BK116.out 0).trans rfl⟩ (fun hHeld => ?_)
  clear hK K
  refine nT 63 ?_
  refine Fk (i := 6) (N := none) #[true,true,true,true,true,true,true,false] rfl rfl (Db HT_.out zk) (by decide) (fun K hK => ?_)
  have hs79 : w77.cell? ⟨gb101, 0, none⟩ = some (.slice none 0 0) := (Au BK101.out 0).trans rfl
  have hfs79 := Fl BK101.out 0
  have hns79_1 := NB102_101.out
  have hns79_2 := NB112_101.out
  have hns79_3 := NB116_101.out
  have hms79_1 := NB101_102.out
  have hms79_2 := NB101_112.out
  have hms79_3 := NB101_116.out
  refine Lo (w1 := ?_) (by rfl) rfl ?_ ?_
  rotate_left
  ·
   go_simp
   rfl
  refine hK.out _ _ ⟨((Kf (p := ⟨gb101, _, none⟩) NB112_101.out _).trans (hHeld.1)), ((Kf (p := ⟨gb101, _, none⟩) NB116_101.out _).trans (hHeld.2))⟩ (fun hHeld => ?_)
  clear hK K
  refine Fk (i := 7) (N := none) #[true,true,true,true,true,true,true,true] rfl rfl (Db HT_.out zk) (by decide) (fun K hK => ?_)
  have hs81 : w77.cell? ⟨gb102, 0, none⟩ = some (.slice none 0 0) := (Au BK102.out 0).trans rfl
  have hfs81 := Fl BK102.out 0
  have hns81_0 := NB101_102.out
  have hns81_2 := NB112_102.out
  have hns81_3 := NB116_102.out
  have hms81_0 := NB102_101.out
  have hms81_2 := NB102_112.out
  have hms81_3 := NB102_116.out
  refine Lo (w1 := ?_) (by rfl) rfl ?_ ?_
  rotate_left
  ·
   go_simp
   rfl
  refine hK.out _ _ ⟨((Kf (p := ⟨gb102, _, none⟩) NB112_102.out _).trans (hHeld.1)), ((Kf (p := ⟨gb102, _, none⟩) NB116_102.out _).trans (hHeld.2))⟩ (fun hHeld => ?_)
  clear hK K
  refine Gf (Fo HT_.out zk) ?_
  try go_wp2
  refine bodyPost_ret (Rg rfl _ _ gb101 gb102 26 26 #[.slice Ao78 t150.length co78] #[.slice Ao80 t155.length co80] (0, 0) (0, 0) _ _ rfl (by refine zG ?_; refine Ce ?_ NB101_102.out _; (with_reducible repeat (first | refine Am ?_ _ | refine Ag ?_ | refine Ak ?_ _)); refine Cl (cs := #[.slice none 0 0]) ?_ 0 _ rfl; (with_reducible repeat (first | refine Am ?_ _ | refine Ag ?_ | refine Ak ?_ _)); exact BK101.out) Tryz.underlying26 rfl zk rfl (by (with_reducible repeat (first | refine Am ?_ _ | refine Ag ?_ | refine Ak ?_ _)); refine Cl (cs := #[.slice none 0 0]) ?_ 0 _ rfl; (with_reducible repeat (first | refine Am ?_ _ | refine Ag ?_ | refine Ak ?_ _)); refine Ce ?_ NB102_101.out _; refine zG ?_; exact BK102.out) Tryz.underlying26 rfl zk) rfl ?_
  exact ⟨_, _, zE, by refine zR ?_; exact Kd.Ai (Kd.Dv (p := ⟨gb102, 0, none⟩) (Kd.Dv (p := ⟨gb101, 0, none⟩) (Kd.Cj (Kd.Cj HO152.out BK101.out (by decide)) BK102.out (by decide)) (fun _ hk => hk.1.2) (.slice Ao78 t150.length co78)) (fun _ hk => hk.2) (.slice Ao80 t155.length co80)) (fun _ hk => hk.1.1.2), by refine zR ?_; exact Kd.Ai (Kd.Dv (p := ⟨gb102, 0, none⟩) (Kd.Dv (p := ⟨gb101, 0, none⟩) (Kd.Cj (Kd.Cj HO157.out BK101.out (by decide)) BK102.out (by decide)) (fun _ hk => hk.1.2) (.slice Ao78 t150.length co78)) (fun _ hk => hk.2) (.slice Ao80 t155.length co80)) (fun _ hk => hk.1.1.2), zB⟩
mutual
def Al.l0 : Nat → List Int → Int → List Int → Option (List Int × List Int)
 | 0, _, _, _ => none
 | k + 1, x4, x5, x102000 => (Dt.f x102000).bind fun t106 => (if x5 < t106 then (if x4.length < 17592186044416 then (Al.l1 k (x4 ++ [x5]) x5 (x4.length : Int) x102000) else (none)) else (Al.l2 k x4 0 x102000 (([] : List Int))))
def Al.l1 : Nat → List Int → Int → Int → List Int → Option (List Int × List Int)
 | 0, _, _, _, _ => none
 | k + 1, x4, x5, x6, x102000 => if x6 > 0 then (if 0 ≤ (wrap64 (x6 - 1)) then (if (wrap64 (x6 - 1)) < (x4.length : Int) then (if 0 ≤ (rd x4 (wrap64 (x6 - 1))) then (if (rd x4 (wrap64 (x6 - 1))) < (x102000.length : Int) then (if 0 ≤ x5 then (if x5 < (x102000.length : Int) then (if (rd x102000 (rd x4 (wrap64 (x6 - 1)))) > (rd x102000 x5) then (if 0 ≤ x6 then (if x6 < (x4.length : Int) then (Al.l1 k (x4.set (x6 : Int).toNat (rd x4 (wrap64 (x6 - 1)))) x5 (wrap64 (x6 - 1)) x102000) else (none)) else (none)) else (if 0 ≤ x6 then (if x6 < (x4.length : Int) then (Al.l0 k (x4.set (x6 : Int).toNat x5) (wrap64 (x5 + 1)) x102000) else (none)) else (none))) else (none)) else (none)) else (none)) else (none)) else (none)) else (none)) else (if 0 ≤ x6 then (if x6 < (x4.length : Int) then (Al.l0 k (x4.set (x6 : Int).toNat x5) (wrap64 (x5 + 1)) x102000) else (none)) else (none))
def Al.l2 : Nat → List Int → Int → List Int → List Int → Option (List Int × List Int)
 | 0, _, _, _, _ => none
 | k + 1, x4, x8, x102000, x121000 => if x8 < (x4.length : Int) then (if 0 ≤ x8 then (if 0 ≤ (rd x4 x8) then (if (rd x4 x8) < (x102000.length : Int) then (if x121000.length < 17592186044416 then (Al.l2 k x4 (wrap64 (x8 + 1)) x102000 (x121000 ++ [rd x102000 (rd x4 x8)])) else (none)) else (none)) else (none)) else (none)) else (some (x121000, x4))
end
def Al.f (k : Nat) (l0_0 : List Int) : Option (List Int × List Int) := Al.l0 k (([] : List Int)) 0 l0_0
theorem Al.mono_l : ∀ k, (∀ y0 y1 y2, LeO (Al.l0 k y0 y1 y2) (Al.l0 (k + 1) y0 y1 y2)) ∧ (∀ y0 y1 y2 y3, LeO (Al.l1 k y0 y1 y2 y3) (Al.l1 (k + 1) y0 y1 y2 y3)) ∧ (∀ y0 y1 y2 y3, LeO (Al.l2 k y0 y1 y2 y3) (Al.l2 (k + 1) y0 y1 y2 y3))
 | 0 => ⟨fun _ _ _ r h => by simp [Al.l0] at h, fun _ _ _ _ r h => by simp [Al.l1] at h, fun _ _ _ _ r h => by simp [Al.l2] at h⟩
 | k + 1 => by
  obtain ⟨ih0, ih1, ih2⟩ := Al.mono_l k
  refine ⟨?_, ?_, ?_⟩ <;> intros <;> (first | unfold Al.l0 | unfold Al.l1 | unfold Al.l2) <;> repeat' first | (with_reducible first | exact ih0 _ _ _ | exact ih1 _ _ _ _ | exact ih2 _ _ _ _ | exact LeO.refl _ | exact LeO.none _ | refine LeO.ite ?_ ?_ | refine LeO.bind ?_ (fun _ => ?_)) | exact ih0 _ _ _ | exact ih1 _ _ _ _ | exact ih2 _ _ _ _ | exact LeO.none _ | refine LeO.ite ?_ ?_ | refine LeO.bind ?_ (fun _ => ?_)
theorem Al.mono : ∀ a0 k, LeO (Al.f k a0) (Al.f (k + 1) a0) := by
 intro a0 k
 obtain ⟨ih0, ih1, ih2⟩ := Al.mono_l k
 unfold Al.f
 repeat' first | (with_reducible first | exact ih0 _ _ _ | exact ih1 _ _ _ _ | exact ih2 _ _ _ _ | exact LeO.refl _ | exact LeO.none _ | refine LeO.ite ?_ ?_ | refine LeO.bind ?_ (fun _ => ?_)) | exact ih0 _ _ _ | exact ih1 _ _ _ _ | exact ih2 _ _ _ _ | exact LeO.none _ | refine LeO.ite ?_ ?_ | refine LeO.bind ?_ (fun _ => ?_)
def Al.T7 : Bool × List (List Nat × List Nat) := (true, [([], []), ([0], [0]), ([1], [1]), ([2], [2]), ([3, 2], [2, 3]), ([2], [2]), ([2], [2]), ([6, 2], [2, 6]), ([5, 7, 2], [2, 5, 7]), ([8, 2], [2, 8]), ([4, 9, 2], [2, 4, 9]), ([10, 2], [2, 10]), ([2], [2]), ([12, 2], [2, 12]), ([2], [2]), ([13, 14, 2], [2, 13, 14]), ([15, 2], [2, 15]), ([11, 16, 2], [2, 11, 16]), ([2, 17], [2, 17])])
def Al.B7 : List Nat := [0, 1, 3, 7, 15, 7, 7, 71, 231, 487, 1023, 2047, 7, 4103, 7, 28679, 61447, 131071, 262143]
theorem Al.tab7 : rtab .any (Lz Tryz.f63 7) = Al.T7 := by kernel_rfl
theorem Al.bits7 : Gh Al.T7.2 Al.B7 = true := by kernel_rfl
def Al.T15 : Bool × List (List Nat × List Nat) := (true, [([], []), ([0], [0]), ([], []), ([2], [2]), ([], []), ([], []), ([4, 5], [4, 5]), ([6], [6]), ([3, 7], [3, 7]), ([8], [8]), ([9], [9]), ([1, 10], [1, 10]), ([0, 1, 2, 3, 4, 5, 6, 7, 8, 9, 10, 11], []), ([12, 11, 11, 0, 1, 2, 3, 4, 5, 6, 7, 8, 9, 10, 11], [11, 12])])
def Al.B15 : List Nat := [0, 1, 0, 4, 0, 0, 48, 112, 252, 508, 1020, 2047, 4095, 8191]
theorem Al.tab15 : rtab .any (Lz Tryz.f63 15) = Al.T15 := by kernel_rfl
theorem Al.bits15 : Gh Al.T15.2 Al.B15 = true := by kernel_rfl
theorem Al.calls (k : Nat) (A0_0 : Option Addr) (c0_0 : Nat) (l0_0 : List Int) (r1 : List Int) (r2 : List Int) (w : World) (hr0_0 : Kd.C (Kd.int .i64) w A0_0 l0_0.length l0_0) (hc0_0 : l0_0.length ≤ c0_0) (h : Al.f k l0_0 = some (r1, r2)) :
    Calls Tryz.prog 63 #[.agg #[.slice A0_0 l0_0.length c0_0]] w fun e w' => ∃ v0_ v1_ : Value, e = .returned (.tuple #[.agg #[v0_], v1_]) ∧ Kd.R (Kd.int .i64) 2 w' w.heap.size (fun k_ => some k_ ≠ (v1_ : Value).ownBlock) v0_ r1 ∧ Kd.R (Kd.int .i64) 2 w' w.heap.size (fun k_ => some k_ ≠ (v0_ : Value).ownBlock) v1_ r2 ∧ Below w.heap.size w w' := by
 have hu26 := Tryz.underlying26
 have HR0_0 := Aa.mk hr0_0
 have HC0_0 := Aa.mk hc0_0
 clear hr0_0 hc0_0
 have HB := Aa.mk (Below.refl w.heap.size w)
 have H := h
 clear h
 unfold Al.f at H
 obtain ⟨y103, hy103⟩ : ∃ y_ : List Int, y_ = (([] : List Int)) := ⟨_, rfl⟩
 replace H : (Al.l0 k y103 0 l0_0) = some (r1, r2) := zH hy103
 have Ny103 := Aa.mk hy103
 clear hy103
 have H' := Aa.mk H
 clear H
 go_enter Tryz.func63, Tryz.ntmps63
 go_wp2_with (first | ((with_reducible refine Ay (N := 1) rfl ?_); refine Be zr (N := 1) zr (cs := #[.slice A0_0 l0_0.length c0_0]) (t := 26) zg ?_; intro gb101 hg w2 hbox hb; have n_ := y4 (Ab (zB) hb) (hbox) ((zS hg : w.heap.size ≤ gb101)) ((zS hg : w.heap.size ≤ gb101)); clear HB; obtain ⟨HB, BK101, GW101, GE101⟩ := n_; clear hb hbox hg) | ((with_reducible refine Ay (N := 2) rfl ?_); refine Be zr (N := 2) zr (cs := #[.slice none 0 0]) (t := 26) zg ?_; intro gb102 hg w3 hbox hb; have n_ := y7 (zb BK101.out hb) (Ab (zB) hb) (hbox) ((zS hg : w.heap.size ≤ gb102)) ((zS hg : w.heap.size ≤ gb102)) ((zL hg BK101.out : gb101 ≠ gb102)) ((zM hg BK101.out : gb102 ≠ gb101)); clear BK101 HB; obtain ⟨BK101, HB, BK102, GW102, GE102, NB101_102, NB102_101⟩ := n_; clear hb hbox hg) | ((with_reducible refine Ay (N := 9) rfl ?_); refine Kd.Kv (Kd.int .i64) _ 2 ?hg (N := 9) ?hd (xs := ([] : List Int)) (inner := []) (ok := fun _ => True) (okp := fun _ => True) ?hr ?hp (fun _ hk => hk) trivial (Below.refl _ _) (Nat.le_refl _) (by simp) ?_; (case hd => rfl); (case hg => rfl); (case hr => first | (go_simp; done) | (go_simp; rfl)); (case hp => exact (Dk.none _ _)); intro v104 w4 ho5 hb hg_ hnew_; clear hg_ hnew_; (first | rw [← Ny103.out] at ho5 | (simp only [Int.reduceToNat] at ho5; rw [← Ny103.out] at ho5)); have n_ := y4 (Kd.Bk ho5 (An (zB))) (zb BK101.out hb) (zb BK102.out hb) (Ab (zB) hb); clear BK101 BK102 HB; obtain ⟨HO105, BK101, BK102, HB⟩ := n_; clear hb ho5))
 go_loopg [4, 5] k (fun kq v4 v5 w' => ∃ (x4_1 : List Int) (x5_1 : Int), v5 = .int .i64 x5_1 ∧ Aa (Al.l0 kq x4_1 x5_1 l0_0 = some (r1, r2)) ∧ Aa (kq ≤ k) ∧ Aa (Kd.R (Kd.int .i64) 2 w' w.heap.size (fun _ => True) v4 x4_1) ∧ Aa (w'.heap[gb101]? = some (.cells #[(.slice A0_0 l0_0.length c0_0)] 26 (0, 0))) ∧ Aa (w'.heap[gb102]? = some (.cells #[(.slice none 0 0)] 26 (0, 0))) ∧ Aa (Below w.heap.size w w'))
 case atStart => exact ⟨(y103), (0), zF, H', ⟨Nat.le_refl _⟩, ⟨zR HO105.out⟩, ⟨zG BK101.out⟩, ⟨zG BK102.out⟩, ⟨zB⟩⟩
 clear H'
 obtain ⟨x4_1, x5_1, rfl, HA, HK1, HO_4, BK101, BK102, HB⟩ := hrel
 cases gk with
 | zero => exact absurd HA.out (by simp [Al.l0])
 | succ k1 =>
  have H := HA.out
  clear HA
  simp only [Al.l0] at H
  obtain ⟨t106, A6, H⟩ := zO H
  try dsimp only at H
  by_cases c7 : x5_1 < t106
  case neg =>
   rw [if_neg c7] at H
   have c7b0 := decide_eq_false c7
   clear c7
   obtain ⟨y117, hy117⟩ : ∃ y_ : List Int, y_ = (([] : List Int)) := ⟨_, rfl⟩
   replace H : (Al.l2 k1 x4_1 0 l0_0 y117) = some (r1, r2) := zH hy117
   have Ny117 := Aa.mk hy117
   clear hy117
   have H' := Aa.mk H
   clear H
   have hnb43 := NB101_102.out
   have hnc43 := NB102_101.out
   obtain ⟨hcz44_0, hfz44_0⟩ := zw BK101.out
   go_wp2_with (first | (refine gK 28 ?_; refine gL 12 Tryz.func28 #[.agg #[.slice A0_0 l0_0.length c0_0]] ?_; (with_reducible refine (Dt.calls _ _ l0_0 t106 _ ?side1 HC0_0.out A6.out).mono ?_); (case side1 => exact zC (Kd.Bh HR0_0.out HB.out)); rintro e w45 ⟨rfl, hb⟩; refine ⟨_, rfl, ?_⟩; have n_ := y4 (Kd.Ap (zR HO_4.out) hb) (zb BK101.out hb) (zb BK102.out hb) (Ab (zB) hb); clear HO_4 BK101 BK102 HB; obtain ⟨HO_4, BK101, BK102, HB⟩ := n_; (try clear hb)) | ((with_reducible refine Ay (N := 55) rfl ?_); refine Kd.Kv (Kd.int .i64) _ 2 ?hg (N := 55) ?hd (xs := ([] : List Int)) (inner := []) (ok := fun _ => True) (okp := fun _ => True) ?hr ?hp (fun _ hk => hk) trivial (Below.refl _ _) (Nat.le_refl _) (by simp) ?_; (case hd => rfl); (case hg => rfl); (case hr => first | (go_simp; done) | (go_simp; rfl)); (case hp => exact (Dk.none _ _)); intro v118 w46 ho47 hb hg_ hnew_; clear hg_ hnew_; (first | rw [← Ny117.out] at ho47 | (simp only [Int.reduceToNat] at ho47; rw [← Ny117.out] at ho47)); have n_ := y5 (Kd.Bu (zR HO_4.out) (Kd.Bs ho47) hb) (Kd.Bk (Kd.Bt ho47 (Kd.Cx (zR HO_4.out))) (An (zB))) (zb BK101.out hb) (zb BK102.out hb) (Ab (zB) hb); clear HO_4 BK101 BK102 HB; obtain ⟨HO_4, HO119, BK101, BK102, HB⟩ := n_; clear hb ho47; obtain ⟨Ao48, co48, eo48⟩ := Kd.Bb HO119.out; subst eo48) | ((with_reducible refine Ay (N := 7) rfl ?_); refine Be zr (N := 7) zr (cs := #[.slice none 0 0]) (t := 26) zg ?_; intro gb120 hg w49 hbox hb; have n_ := y12 (Kd.Ap (zR HO_4.out) hb) (Kd.Ap (zR HO119.out) hb) (zb BK101.out hb) (zb BK102.out hb) (Ab (zB) hb) (hbox) ((zS hg : w.heap.size ≤ gb120)) ((zS hg : w.heap.size ≤ gb120)) ((zL hg BK101.out : gb101 ≠ gb120)) ((zM hg BK101.out : gb120 ≠ gb101)) ((zL hg BK102.out : gb102 ≠ gb120)) ((zM hg BK102.out : gb120 ≠ gb102)); clear HO_4 HO119 BK101 BK102 HB; obtain ⟨HO_4, HO119, BK101, BK102, HB, BK120, GW120, GE120, NB101_120, NB120_101, NB102_120, NB120_102⟩ := n_; clear hb hbox hg; have hnb50 := NB120_101.out; have hnc50 := NB101_120.out; have hnb51 := NB120_102.out; have hnc51 := NB102_120.out; obtain ⟨hcz52_0, hfz52_0⟩ := zw BK120.out))
   go_loopg [8] k1 (fun kq v8 w' => ∃ (x8_2 : Int) (x121000_2 : List Int) (u121000 : Value), v8 = .int .i64 x8_2 ∧ Aa (Al.l2 kq x4_1 x8_2 l0_0 x121000_2 = some (r1, r2)) ∧ Aa (kq ≤ k1) ∧ Aa (Kd.R (Kd.int .i64) 2 w' w.heap.size (fun k_ => some k_ ≠ (u121000 : Value).ownBlock) u4 x4_1) ∧ Aa (Kd.R (Kd.int .i64) 2 w' w.heap.size (fun k_ => some k_ ≠ (u4 : Value).ownBlock) u121000 x121000_2) ∧ Aa (w'.heap[gb101]? = some (.cells #[(.slice A0_0 l0_0.length c0_0)] 26 (0, 0))) ∧ Aa (w'.heap[gb102]? = some (.cells #[(.slice none 0 0)] 26 (0, 0))) ∧ Aa (w'.heap[gb120]? = some (.cells #[u121000] 26 (0, 0))) ∧ Aa (Below w.heap.size w w'))
   case atStart => exact ⟨(0), (y117), (.slice Ao48 y117.length co48), zF, H', ⟨Nat.le_refl _⟩, ⟨by refine zR ?_; exact Kd.Ai (Kd.Dv (p := ⟨gb120, 0, none⟩) (Kd.Cj HO_4.out BK120.out (by decide)) (fun _ hk => hk.2) (.slice Ao48 y117.length co48)) (fun _ hk => hk.1.2)⟩, ⟨by refine zR ?_; exact Kd.Ai (Kd.Dv (p := ⟨gb120, 0, none⟩) (Kd.Cj HO119.out BK120.out (by decide)) (fun _ hk => hk.2) (.slice Ao48 y117.length co48)) (fun _ hk => hk.1.2)⟩, ⟨by refine zG ?_; refine Ce ?_ NB101_120.out _; refine zG ?_; exact BK101.out⟩, ⟨by refine zG ?_; refine Ce ?_ NB102_120.out _; refine zG ?_; exact BK102.out⟩, ⟨by (with_reducible repeat (first | refine Am ?_ _ | refine Ag ?_ | refine Ak ?_ _)); refine Cl (cs := #[.slice none 0 0]) ?_ 0 _ rfl; (with_reducible repeat (first | refine Am ?_ _ | refine Ag ?_ | refine Ak ?_ _)); exact BK120.out⟩, ⟨zB⟩⟩
   clear H'
   try clear c7
   try clear c7b0
   try clear hcz44_0
   try clear hcz52_0
   try clear hfz44_0
   try clear hfz52_0
   obtain ⟨x8_2, x121000_2, u121000, rfl, HA, HK2, HO_4, HO_121000, BK101, BK102, BK120, HB⟩ := hrel
   cases gk with
   | zero => exact absurd HA.out (by simp [Al.l2])
   | succ k2 =>
    have H := HA.out
    clear HA
    simp only [Al.l2] at H
    by_cases c53 : x8_2 < (x4_1.length : Int)
    case neg =>
     rw [if_neg c53] at H
     have c53b0 := decide_eq_false c53
     clear c53
     simp only [Option.some.injEq, Prod.mk.injEq] at H
     obtain ⟨rfl, rfl⟩ := H
     obtain ⟨Ao63, co63, eo63⟩ := Kd.Bb HO_4.out
     subst eo63
     have hnb64 := NB120_101.out
     have hnc64 := NB101_120.out
     have hnb65 := NB120_102.out
     have hnc65 := NB102_120.out
     obtain ⟨hcz66_0, hfz66_0⟩ := zw BK120.out
     obtain ⟨Ao67, co67, eo67⟩ := Kd.Bb HO_121000.out
     subst eo67
     have hnb68 := NB102_101.out
     have hnc68 := NB101_102.out
     obtain ⟨hcz69_0, hfz69_0⟩ := zw BK102.out
     go_wp2
     refine bodyPost_ret (Fw rfl _ _ gb102 26 #[.slice Ao67 x121000_2.length co67] (0, 0) _ rfl (by (with_reducible repeat (first | refine Am ?_ _ | refine Ag ?_ | refine Ak ?_ _)); refine Cl (cs := #[.slice none 0 0]) ?_ 0 _ rfl; (with_reducible repeat (first | refine Am ?_ _ | refine Ag ?_ | refine Ak ?_ _)); exact BK102.out) Tryz.underlying26 rfl zk) rfl ?_
     exact ⟨_, _, zE, by refine zR ?_; exact Kd.Ai (Kd.Dv (p := ⟨gb102, 0, none⟩) (Kd.Cj HO_121000.out BK102.out (by decide)) (fun _ hk => hk.2) (.slice Ao67 x121000_2.length co67)) (fun _ hk => hk.1), by refine zR ?_; exact Kd.Ai (Kd.Dv (p := ⟨gb102, 0, none⟩) (Kd.Cj HO_4.out BK102.out (by decide)) (fun _ hk => hk.2) (.slice Ao67 x121000_2.length co67)) (fun _ hk => hk.1), zB⟩
    rw [if_pos c53] at H
    have c53b0 := decide_eq_true c53
    clear c53
    by_cases c54 : 0 ≤ x8_2
    case neg => rw [if_neg c54] at H; exact absurd H (by simp)
    rw [if_pos c54] at H
    have c54b0 := decide_eq_true c54
    clear c54
    by_cases c55 : 0 ≤ (rd x4_1 x8_2)
    case neg => rw [if_neg c55] at H; exact absurd H (by simp)
    rw [if_pos c55] at H
    have c55b0 := decide_eq_true c55
    clear c55
    by_cases c56 : (rd x4_1 x8_2) < (l0_0.length : Int)
    case neg => rw [if_neg c56] at H; exact absurd H (by simp)
    rw [if_pos c56] at H
    have c56b0 := decide_eq_true c56
    clear c56
    by_cases c57 : x121000_2.length < 17592186044416
    case neg => rw [if_neg c57] at H; exact absurd H (by simp)
    rw [if_pos c57] at H
    have LMc57 := Aa.mk c57
    clear c57
    obtain ⟨y123, hy123⟩ : ∃ y_ : List Int, y_ = (x121000_2 ++ [rd l0_0 (rd x4_1 x8_2)]) := ⟨_, rfl⟩
    replace H : (Al.l2 k2 x4_1 (wrap64 (x8_2 + 1)) l0_0 y123) = some (r1, r2) := zH hy123
    have Ny123 := Aa.mk hy123
    clear hy123
    have H' := Aa.mk H
    clear H
    obtain ⟨Ao58, co58, eo58⟩ := Kd.Bb HO_4.out
    subst eo58
    try go_wp2
    have n_ := y6 (Kd.Ep HO_4.out) (Kd.Ep HO_121000.out) (Ag BK101.out) (Ag BK102.out) (Ag BK120.out) (Bz HB.out)
    clear HO_4 HO_121000 BK101 BK102 BK120 HB
    obtain ⟨HO_4, HO_121000, BK101, BK102, BK120, HB⟩ := n_
    have p121 : 0 ≤ (x8_2 : Int) := zD
    have q121 : x8_2 < (x4_1.length : Int) := zD
    obtain ⟨ad121, e121, hx121_0⟩ := Kd.Cv (Kd.Ae HO_4.out).2.2 x8_2 p121 q121
    cases e121
    replace p121 := eq_true p121
    replace q121 := eq_true q121
    have p122 : 0 ≤ ((rd x4_1 x8_2) : Int) := zD
    have q122 : (rd x4_1 x8_2) < (l0_0.length : Int) := zD
    obtain ⟨ad122, e122, hx122_0⟩ := Kd.Cv HR0_0.out (rd x4_1 x8_2) p122 q122
    have hw122_0 := hx122_0
    cases e122
    replace hx122_0 := (HB.out.cell (World.block_lt_of_cell? w _ hx122_0)).trans hx122_0
    replace p122 := eq_true p122
    replace q122 := eq_true q122
    refine Fg (n := 14) (S := fun w' => w'.cell? ⟨gb120, 0, none⟩ = some (u121000) ∧ w'.cell? ⟨gb101, 0, none⟩ = some (.slice (some ad122) l0_0.length c0_0) ∧ w'.cell? (ad121.add (x8_2).toNat) = some (.int .i64 (rd x4_1 x8_2)) ∧ w'.cell? (ad122.add ((rd x4_1 x8_2)).toNat) = some (.int .i64 (rd l0_0 (rd x4_1 x8_2)))) (ds := [11, 13]) #[false,false,false,false,false,false,false,false,false,false,false,false,false,false] zk rfl rfl ⟨(Au BK120.out 0).trans rfl, (Au BK101.out 0).trans rfl, hx121_0, ((HB.out.cell (World.block_lt_of_cell? w _ hw122_0)).trans hw122_0)⟩ (fun hHeld => ?_); refine Eh Al.tab15 Al.bits15 (fun HT_ HW_ => ?_)
    generalize wr.drew = w59 at HO_4 HO_121000 BK101 BK102 BK120 HB hx121_0 hx122_0 hHeld ⊢
    refine pT 0 63 HT_ ?_
    refine pT 2 65 HT_ ?_
    refine pT 4 67 HT_ ?_
    refine pT 5 68 HT_ ?_
    refine pT 6 69 HT_ ?_
    refine tT 1 64 HT_ HW_ hHeld ?_
    refine tT 3 66 HT_ HW_ hHeld ?_
    refine tT 7 70 HT_ HW_ hHeld ?_
    refine pT 8 71 HT_ ?_
    refine tT 9 72 HT_ HW_ hHeld ?_
    refine Fk (i := 10) (N := some 73) #[true,true,true,true,true,true,true,true,true,true,true,false,false,false] rfl rfl (Db HT_.out zk) (by decide) (fun K hK => ?_)
    refine Xm (w1 := ?_) (v := ?_) (by rfl) rfl ?_ ?_
    rotate_left 2
    ·
     go_simp
     constructor
     · rfl
     rfl
    refine hK.out _ _ ⟨(Au (Ak BK120.out _) 0).trans rfl, (Au (Ak BK101.out _) 0).trans rfl, (World.cell?_alloc_lt _ _ _ (World.block_lt_of_cell? _ _ (hHeld.2.2.1))).trans (hHeld.2.2.1), (World.cell?_alloc_lt _ _ _ (World.block_lt_of_cell? _ _ (((HB.out.cell (World.block_lt_of_cell? w _ hw122_0)).trans hw122_0)))).trans (((HB.out.cell (World.block_lt_of_cell? w _ hw122_0)).trans hw122_0))⟩ (fun hHeld => ?_)
    clear hK K
    refine nT 73 ?_
    refine Ms (i := 11) (N := some 74) #[true,true,true,true,true,true,true,true,true,true,true,true,false,false] rfl rfl (Db HT_.out zk) (by decide) (fun K hK => ?_)
    refine Kd.Mj (Kd.int .i64) (w0 := w) w.heap.size (by rfl) (.tmp 64) (.tmp 73) 24 2 (.int .i64 0) 8 rfl Tryz.underlying24 Gb rfl (by decide) (by omega) u121000 x121000_2 (rd l0_0 (rd x4_1 x8_2)) [.int .i64 (rd l0_0 (rd x4_1 x8_2))] (fun k_ => some k_ ≠ (.slice (some ad121) x4_1.length co58 : Value).ownBlock) (fun _ => False) rfl rfl ?aP (fun _ hk => hk.elim) ?aF ?aO ?aB ?aS ?aL ?_
    (case aP => exact rfl)
    (case aB => exact (zB))
    (case aF => exact (fun k_ hk => Kd.fresh' (Kd.Cx (zR HO_4.out)) k_ hk))
    (case aO => exact (zR HO_121000.out))
    (case aS => exact (An (zB)))
    (case aL => have := LMc57.out; omega)
    intro v124 w60 ho hb hg hat
    rw [← Ny123.out] at ho
    have n_ := y6 (Kd.Cp (ok := (fun _ => True)) (by refine zR ?_; exact Kd.Ai HO_4.out (fun _ hk => ⟨trivial, hk⟩)) hg hat) (Cm (g := gb101) (o := .cells #[.slice (some ad122) l0_0.length c0_0] 26 (0, 0)) (zG BK101.out) hg (Kd.Em HO_121000.out BK101.out (by decide))) (Cm (g := gb102) (o := .cells #[.slice none 0 0] 26 (0, 0)) (zG BK102.out) hg (Kd.Em HO_121000.out BK102.out (by decide))) (Cm (g := gb120) (o := .cells #[u121000] 26 (0, 0)) (zG BK120.out) hg (Kd.Em HO_121000.out BK120.out (by decide))) (hb) (ho)
    clear HO_4 BK101 BK102 BK120 HB HO_121000
    obtain ⟨HO_4, BK101, BK102, BK120, HB, HO125⟩ := n_
    clear ho hb hg hat
    obtain ⟨Ao61, co61, eo61⟩ := Kd.Bb HO125.out
    (first | subst eo61 | (injection eo61 with f1_ f2_ f3_; have f4_ := f1_.symm; have f5_ := f3_.symm; clear f1_ f2_ f3_; subst f4_; subst f5_))
    refine hK.out _ _ ?_
    clear hK K
    refine nT 74 ?_
    refine pT 12 75 HT_ ?_
    refine Ms (i := 13) (N := none) #[true,true,true,true,true,true,true,true,true,true,true,true,true,true] rfl rfl (Db HT_.out zk) (by decide) (fun K hK => ?_)
    have hs62 : w60.cell? ⟨gb120, 0, none⟩ = some (u121000) := (Au BK120.out 0).trans rfl
    have hfs62 := Fl BK120.out 0
    have hns62_0 := NB101_120.out
    have hns62_1 := NB102_120.out
    have hms62_0 := NB120_101.out
    have hms62_1 := NB120_102.out
    refine Lo (w1 := ?_) (by rfl) rfl ?_ ?_
    rotate_left
    ·
     go_simp
     rfl
    refine hK.out _ _ ?_
    clear hK K
    refine Gf (Fo HT_.out zk) ?_
    try go_wp2
    go_roundg k2
    case measure => have := HK1.out; have := HK2.out; omega
    case rel => exact ⟨(wrap64 (x8_2 + 1)), (y123), (.slice Ao61 y123.length co61), zF, H', ⟨by have := HK1.out; have := HK2.out; omega⟩, ⟨by refine zR ?_; exact Kd.Ai (Kd.Dv (p := ⟨gb120, 0, none⟩) (Kd.Cj HO_4.out BK120.out (by decide)) (fun _ hk => hk.2) (.slice Ao61 y123.length co61)) (fun _ hk => hk.1.2)⟩, ⟨by refine zR ?_; exact Kd.Ai (Kd.Dv (p := ⟨gb120, 0, none⟩) (Kd.Cj HO125.out BK120.out (by decide)) (fun _ hk => hk.2) (.slice Ao61 y123.length co61)) (fun _ hk => hk.1)⟩, ⟨by refine zG ?_; refine Ce ?_ NB101_120.out _; refine zG ?_; exact BK101.out⟩, ⟨by refine zG ?_; refine Ce ?_ NB102_120.out _; refine zG ?_; exact BK102.out⟩, ⟨by (with_reducible repeat (first | refine Am ?_ _ | refine Ag ?_ | refine Ak ?_ _)); refine Cl (cs := #[u121000]) ?_ 0 _ rfl; (with_reducible repeat (first | refine Am ?_ _ | refine Ag ?_ | refine Ak ?_ _)); exact BK120.out⟩, ⟨zB⟩⟩
  rw [if_pos c7] at H
  have c7b0 := decide_eq_true c7
  clear c7
  by_cases c8 : x4_1.length < 17592186044416
  case neg => rw [if_neg c8] at H; exact absurd H (by simp)
  rw [if_pos c8] at H
  have LMc8 := Aa.mk c8
  clear c8
  obtain ⟨y107, hy107⟩ : ∃ y_ : List Int, y_ = (x4_1 ++ [x5_1]) := ⟨_, rfl⟩
  replace H : (Al.l1 k1 y107 x5_1 (x4_1.length : Int) l0_0) = some (r1, r2) := zH hy107
  have Ny107 := Aa.mk hy107
  clear hy107
  have H' := Aa.mk H
  clear H
  have hnb9 := NB101_102.out
  have hnc9 := NB102_101.out
  obtain ⟨hcz10_0, hfz10_0⟩ := zw BK101.out
  go_wp2_with (first | (refine gK 28 ?_; refine gL 12 Tryz.func28 #[.agg #[.slice A0_0 l0_0.length c0_0]] ?_; (with_reducible refine (Dt.calls _ _ l0_0 t106 _ ?side1 HC0_0.out A6.out).mono ?_); (case side1 => exact zC (Kd.Bh HR0_0.out HB.out)); rintro e w11 ⟨rfl, hb⟩; refine ⟨_, rfl, ?_⟩; have n_ := y4 (Kd.Ap (zR HO_4.out) hb) (zb BK101.out hb) (zb BK102.out hb) (Ab (zB) hb); clear HO_4 BK101 BK102 HB; obtain ⟨HO_4, BK101, BK102, HB⟩ := n_; (try clear hb); obtain ⟨Ao12, co12, eo12⟩ := Kd.Bb HO_4.out; subst eo12) | ((with_reducible refine Dp (b := .append) (xs := #[.tmp 18, .tmp 20]) rfl ?_); at_builtin; refine Kd.Gk (Kd.int .i64) (w0 := w) w.heap.size rfl (.tmp 18) (.tmp 20) 24 2 (.int .i64 0) 8 rfl Tryz.underlying24 Gb rfl (by decide) (by omega) (.slice Ao12 x4_1.length co12) x4_1 x5_1 [.int .i64 x5_1] (fun _ => True) (fun _ => False) rfl rfl ?aP (fun _ hk => hk.elim) ?aF ?aO ?aB ?aS ?aL ?_; (case aP => exact rfl); (case aB => exact (zB)); (case aF => exact (fun _ _ => trivial)); (case aO => exact (zR HO_4.out)); (case aS => exact (An (zB))); (case aL => have := LMc8.out; omega); intro v108 w13 ho hb hg hat; rw [← Ny107.out] at ho; have n_ := y4 (Cm (g := gb101) (o := .cells #[.slice A0_0 l0_0.length c0_0] 26 (0, 0)) (zG BK101.out) hg (Kd.Em HO_4.out BK101.out (by decide))) (Cm (g := gb102) (o := .cells #[.slice none 0 0] 26 (0, 0)) (zG BK102.out) hg (Kd.Em HO_4.out BK102.out (by decide))) (hb) (ho); clear BK101 BK102 HB HO_4; obtain ⟨BK101, BK102, HB, HO109⟩ := n_; clear ho hb hg hat))
  go_loopg [6] k1 (fun kq v6 w' => ∃ (x4_2 : List Int) (x6_2 : Int), v6 = .int .i64 x6_2 ∧ Aa (Al.l1 kq x4_2 x5_1 x6_2 l0_0 = some (r1, r2)) ∧ Aa (kq ≤ k1) ∧ Aa (Kd.R (Kd.int .i64) 2 w' w.heap.size (fun _ => True) v108 x4_2) ∧ Aa (w'.heap[gb101]? = some (.cells #[(.slice A0_0 l0_0.length c0_0)] 26 (0, 0))) ∧ Aa (w'.heap[gb102]? = some (.cells #[(.slice none 0 0)] 26 (0, 0))) ∧ Aa (Below w.heap.size w w'))
  case atStart => exact ⟨(y107), ((x4_1.length : Int)), zF, H', ⟨Nat.le_refl _⟩, ⟨zR HO109.out⟩, ⟨zG BK101.out⟩, ⟨zG BK102.out⟩, ⟨zB⟩⟩
  clear H'
  try clear c7
  try clear c7b0
  try clear c8
  try clear hcz10_0
  try clear hfz10_0
  obtain ⟨x4_2, x6_2, rfl, HA, HK2, HO_4, BK101, BK102, HB⟩ := hrel
  cases gk with
  | zero => exact absurd HA.out (by simp [Al.l1])
  | succ k2 =>
   have H := HA.out
   clear HA
   simp only [Al.l1] at H
   by_cases c14 : x6_2 > 0
   case neg =>
    rw [if_neg c14] at H
    have c14b0 := decide_eq_false c14
    clear c14
    by_cases c37 : 0 ≤ x6_2
    case neg => rw [if_neg c37] at H; exact absurd H (by simp)
    rw [if_pos c37] at H
    have c37b0 := decide_eq_true c37
    clear c37
    by_cases c38 : x6_2 < (x4_2.length : Int)
    case neg => rw [if_neg c38] at H; exact absurd H (by simp)
    rw [if_pos c38] at H
    have c38b0 := decide_eq_true c38
    clear c38
    obtain ⟨y116, hy116⟩ : ∃ y_ : List Int, y_ = (x4_2.set (x6_2 : Int).toNat x5_1) := ⟨_, rfl⟩
    replace H : (Al.l0 k2 y116 (wrap64 (x5_1 + 1)) l0_0) = some (r1, r2) := zH hy116
    have Ny116 := Aa.mk hy116
    clear hy116
    have H' := Aa.mk H
    clear H
    try go_wp2
    have n_ := y4 (Kd.Ep HO_4.out) (Ag BK101.out) (Ag BK102.out) (Bz HB.out)
    clear HO_4 BK101 BK102 HB
    obtain ⟨HO_4, BK101, BK102, HB⟩ := n_
    refine Fg (n := 19) (S := fun w' => True) (ds := []) #[false,false,false,false,false,false,false,false,false,false,false,false,false,false,false,false,false,false,false] zk rfl rfl trivial (fun hHeld => ?_); refine Eh Al.tab7 Al.bits7 (fun HT_ HW_ => ?_)
    generalize wr.drew = w40 at HO_4 BK101 BK102 HB hHeld ⊢
    refine pT 0 22 HT_ ?_
    refine pT 1 23 HT_ ?_
    refine pT 2 24 HT_ ?_
    refine Fz (i := 3) (N := some 25) (v := undef) (a' := ?_) #[true,true,true,true,false,false,false,false,false,false,false,false,false,false,false,false,false,false,false] rfl rfl (Ga HT_.out zk) (fun _ _ _ h => h) (Or.inr ⟨by rfl, rfl⟩) ?_ ?_
    rotate_left
    ·
     simp only [Act.put, List.setIfInBounds_toArray, List.set_cons_zero, List.set_cons_succ, Ec, En]
     rfl
    refine Fz (i := 4) (N := some 26) (v := undef) (a' := ?_) #[true,true,true,true,true,false,false,false,false,false,false,false,false,false,false,false,false,false,false] rfl rfl (Ga HT_.out zk) (fun _ _ _ h => h) (Or.inr ⟨by rfl, rfl⟩) ?_ ?_
    rotate_left
    ·
     simp only [Act.put, List.setIfInBounds_toArray, List.set_cons_zero, List.set_cons_succ, Ec, En]
     rfl
    refine Fz (i := 5) (N := some 27) (v := undef) (a' := ?_) #[true,true,true,true,true,true,false,false,false,false,false,false,false,false,false,false,false,false,false] rfl rfl (Ga HT_.out zk) (fun _ _ _ h => h) (Or.inr ⟨by rfl, rfl⟩) ?_ ?_
    rotate_left
    ·
     simp only [Act.put, List.setIfInBounds_toArray, List.set_cons_zero, List.set_cons_succ, Ec, En]
     rfl
    refine Fz (i := 6) (N := some 28) (v := undef) (a' := ?_) #[true,true,true,true,true,true,true,false,false,false,false,false,false,false,false,false,false,false,false] rfl rfl (Ga HT_.out zk) (fun _ _ _ h => h) (Or.inr ⟨by rfl, rfl⟩) ?_ ?_
    rotate_left
    ·
     simp only [Act.put, List.setIfInBounds_toArray, List.set_cons_zero, List.set_cons_succ, Ec, En]
     rfl
    refine Fz (i := 7) (N := some 29) (v := undef) (a' := ?_) #[true,true,true,true,true,true,true,true,false,false,false,false,false,false,false,false,false,false,false] rfl rfl (Ga HT_.out zk) (fun _ _ _ h => h) (Or.inr ⟨by rfl, rfl⟩) ?_ ?_
    rotate_left
    ·
     simp only [Act.put, List.setIfInBounds_toArray, List.set_cons_zero, List.set_cons_succ, Ec, En]
     rfl
    refine Fz (i := 8) (N := some 30) (v := undef) (a' := ?_) #[true,true,true,true,true,true,true,true,true,false,false,false,false,false,false,false,false,false,false] rfl rfl (Ga HT_.out zk) (fun _ _ _ h => h) (Or.inr ⟨by rfl, rfl⟩) ?_ ?_
    rotate_left
    ·
     simp only [Act.put, List.setIfInBounds_toArray, List.set_cons_zero, List.set_cons_succ, Ec, En]
     rfl
    refine Fz (i := 9) (N := some 31) (v := undef) (a' := ?_) #[true,true,true,true,true,true,true,true,true,true,false,false,false,false,false,false,false,false,false] rfl rfl (Ga HT_.out zk) (fun _ _ _ h => h) (Or.inr ⟨by rfl, rfl⟩) ?_ ?_
    rotate_left
    ·
     simp only [Act.put, List.setIfInBounds_toArray, List.set_cons_zero, List.set_cons_succ, Ec, En]
     rfl
    refine Fz (i := 10) (N := some 32) (v := undef) (a' := ?_) #[true,true,true,true,true,true,true,true,true,true,true,false,false,false,false,false,false,false,false] rfl rfl (Ga HT_.out zk) (fun _ _ _ h => h) (Or.inr ⟨by rfl, rfl⟩) ?_ ?_
    rotate_left
    ·
     simp only [Act.put, List.setIfInBounds_toArray, List.set_cons_zero, List.set_cons_succ, Ec, En]
     rfl
    refine Fz (i := 11) (N := some 33) (v := undef) (a' := ?_) #[true,true,true,true,true,true,true,true,true,true,true,true,false,false,false,false,false,false,false] rfl rfl (Ga HT_.out zk) (fun _ _ _ h => h) (Or.inr ⟨by rfl, rfl⟩) ?_ ?_
    rotate_left
    ·
     simp only [Act.put, List.setIfInBounds_toArray, List.set_cons_zero, List.set_cons_succ, Ec, En]
     rfl
    refine Fz (i := 12) (N := some 34) (v := undef) (a' := ?_) #[true,true,true,true,true,true,true,true,true,true,true,true,true,false,false,false,false,false,false] rfl rfl (Ga HT_.out zk) (fun _ _ _ h => h) (Or.inr ⟨by rfl, rfl⟩) ?_ ?_
    rotate_left
    ·
     simp only [Act.put, List.setIfInBounds_toArray, List.set_cons_zero, List.set_cons_succ, Ec, En]
     rfl
    refine Fz (i := 13) (N := some 35) (v := undef) (a' := ?_) #[true,true,true,true,true,true,true,true,true,true,true,true,true,true,false,false,false,false,false] rfl rfl (Ga HT_.out zk) (fun _ _ _ h => h) (Or.inr ⟨by rfl, rfl⟩) ?_ ?_
    rotate_left
    ·
     simp only [Act.put, List.setIfInBounds_toArray, List.set_cons_zero, List.set_cons_succ, Ec, En]
     rfl
    refine Fz (i := 14) (N := some 36) (v := undef) (a' := ?_) #[true,true,true,true,true,true,true,true,true,true,true,true,true,true,true,false,false,false,false] rfl rfl (Ga HT_.out zk) (fun _ _ _ h => h) (Or.inr ⟨by rfl, rfl⟩) ?_ ?_
    rotate_left
    ·
     simp only [Act.put, List.setIfInBounds_toArray, List.set_cons_zero, List.set_cons_succ, Ec, En]
     rfl
    refine Fz (i := 15) (N := some 37) (v := undef) (a' := ?_) #[true,true,true,true,true,true,true,true,true,true,true,true,true,true,true,true,false,false,false] rfl rfl (Ga HT_.out zk) (fun _ _ _ h => h) (Or.inr ⟨by rfl, rfl⟩) ?_ ?_
    rotate_left
    ·
     simp only [Act.put, List.setIfInBounds_toArray, List.set_cons_zero, List.set_cons_succ, Ec, En]
     rfl
    refine Fz (i := 16) (N := some 38) (v := undef) (a' := ?_) #[true,true,true,true,true,true,true,true,true,true,true,true,true,true,true,true,true,false,false] rfl rfl (Ga HT_.out zk) (fun _ _ _ h => h) (Or.inr ⟨by rfl, rfl⟩) ?_ ?_
    rotate_left
    ·
     simp only [Act.put, List.setIfInBounds_toArray, List.set_cons_zero, List.set_cons_succ, Ec, En]
     rfl
    refine Fz (i := 17) (N := some 39) (v := undef) (a' := ?_) #[true,true,true,true,true,true,true,true,true,true,true,true,true,true,true,true,true,true,false] rfl rfl (Ga HT_.out zk) (fun _ _ _ h => h) (Or.inr ⟨by rfl, rfl⟩) ?_ ?_
    rotate_left
    ·
     simp only [Act.put, List.setIfInBounds_toArray, List.set_cons_zero, List.set_cons_succ, Ec, En]
     rfl
    refine pT 18 40 HT_ ?_
    refine Gf (Fo HT_.out zk) ?_
    have p39 : 0 ≤ (x6_2 : Int) := zD
    have q39 : (x6_2 : Int) < ((x4_2.length : Int) : Int) := zD
    obtain ⟨go39, co39, eo39, gb39, gl39, cl39, HG39⟩ := Kd.Lk HO_4.out (by omega)
    (first | cases eo39 | (injection eo39 with ea_ en_ ec_; (first | subst ea_ | (injection ea_ with ea_; subst ea_)); subst ec_; clear en_))
    have GB39 := Aa.mk gb39
    have GG39 := Aa.mk HG39
    clear gb39 gl39 HG39
    obtain ⟨hx39_0, hf39_0⟩ := Kd.Fx 0 HO_4.out (x6_2 : Int) p39 q39
    replace p39 := eq_true p39
    replace q39 := eq_true q39
    obtain ⟨hy41_, hz41_⟩ := Kd.Fx 0 HO_4.out (x6_2 : Int) (zD) (zD)
    have HP41 := Kd.Pu HO_4.out (x6_2 : Int) x5_1
    try go_wp2_with (first | ((with_reducible refine Ku (t := 2) (p := 54) rfl ?_); refine Kh (t := 2) (p := 54) (v := ?vo_w42) (w1 := (w40.setCell ⟨go39, (x6_2 : Int).toNat, none⟩ (.int .i64 x5_1))) ?hg ?ho ?hn ?hr ?_; (case ho => rfl); (case hg => rfl); (case hn => rfl); (case hr => first | (go_simp; done) | (go_simp; rfl)); intro w42 hw; have hg : w40.grownBy w42 (some go39) := (by rw [hw]; exact HP41.2); have hp_ : Kd.R (Kd.int .i64) 2 w42 w.heap.size (fun _ => True) (.slice (some ⟨go39, 0, none⟩) x4_2.length co39) y116 := (by rw [hw, Ny116.out]; exact HP41.1); clear HP41; have n_ := y4 (hp_) (Cm (g := gb101) (o := .cells #[.slice A0_0 l0_0.length c0_0] 26 (0, 0)) (zG BK101.out) hg (Kd.Em HO_4.out BK101.out (by decide))) (Cm (g := gb102) (o := .cells #[.slice none 0 0] 26 (0, 0)) (zG BK102.out) hg (Kd.Em HO_4.out BK102.out (by decide))) ((by rw [hw]; exact Gl (HB.out) GB39.out : Below w.heap.size w w42)); clear HO_4 BK101 BK102 HB; obtain ⟨HO_4, BK101, BK102, HB⟩ := n_; clear hg hw hp_))
    go_roundg k2
    case measure => have := HK1.out; have := HK2.out; omega
    case rel => exact ⟨(y116), (wrap64 (x5_1 + 1)), zF, H', ⟨by have := HK1.out; have := HK2.out; omega⟩, ⟨zR HO_4.out⟩, ⟨zG BK101.out⟩, ⟨zG BK102.out⟩, ⟨zB⟩⟩
   rw [if_pos c14] at H
   have c14b0 := decide_eq_true c14
   clear c14
   obtain ⟨ji15, hji15⟩ : ∃ j_ : Int, (wrap64 (x6_2 - 1)) = j_ := ⟨_, rfl⟩
   replace H : (if 0 ≤ (ji15) then (if (ji15) < (x4_2.length : Int) then (if 0 ≤ (rd x4_2 (ji15)) then (if (rd x4_2 (ji15)) < (l0_0.length : Int) then (if 0 ≤ x5_1 then (if x5_1 < (l0_0.length : Int) then (if (rd l0_0 (rd x4_2 (ji15))) > (rd l0_0 x5_1) then (if 0 ≤ x6_2 then (if x6_2 < (x4_2.length : Int) then (Al.l1 k2 (x4_2.set (x6_2 : Int).toNat (rd x4_2 (ji15))) x5_1 ji15 l0_0) else (none)) else (none)) else (if 0 ≤ x6_2 then (if x6_2 < (x4_2.length : Int) then (Al.l0 k2 (x4_2.set (x6_2 : Int).toNat x5_1) (wrap64 (x5_1 + 1)) l0_0) else (none)) else (none))) else (none)) else (none)) else (none)) else (none)) else (none)) else (none)) = some (r1, r2) := by first | (rw [hji15] at H; exact H) | (simp only [hji15] at H ⊢; exact H)
   have hji15w : (IntKind.i64.wrap (x6_2 - 1)) = ji15 := (Ec _).trans hji15
   by_cases c16 : 0 ≤ (ji15)
   case neg => rw [if_neg c16] at H; exact absurd H (by simp)
   rw [if_pos c16] at H
   have c16b0 := decide_eq_true c16
   clear c16
   by_cases c17 : (ji15) < (x4_2.length : Int)
   case neg => rw [if_neg c17] at H; exact absurd H (by simp)
   rw [if_pos c17] at H
   have c17b0 := decide_eq_true c17
   clear c17
   by_cases c18 : 0 ≤ (rd x4_2 (ji15))
   case neg => rw [if_neg c18] at H; exact absurd H (by simp)
   rw [if_pos c18] at H
   have c18b0 := decide_eq_true c18
   clear c18
   by_cases c19 : (rd x4_2 (ji15)) < (l0_0.length : Int)
   case neg => rw [if_neg c19] at H; exact absurd H (by simp)
   rw [if_pos c19] at H
   have c19b0 := decide_eq_true c19
   clear c19
   by_cases c20 : 0 ≤ x5_1
   case neg => rw [if_neg c20] at H; exact absurd H (by simp)
   rw [if_pos c20] at H
   have c20b0 := decide_eq_true c20
   clear c20
   by_cases c21 : x5_1 < (l0_0.length : Int)
   case neg => rw [if_neg c21] at H; exact absurd H (by simp)
   rw [if_pos c21] at H
   have c21b0 := decide_eq_true c21
   clear c21
   by_cases c22 : (rd l0_0 (rd x4_2 (ji15))) > (rd l0_0 x5_1)
   case neg =>
    rw [if_neg c22] at H
    have c22b0 := decide_eq_false c22
    clear c22
    by_cases c30 : 0 ≤ x6_2
    case neg => rw [if_neg c30] at H; exact absurd H (by simp)
    rw [if_pos c30] at H
    have c30b0 := decide_eq_true c30
    clear c30
    by_cases c31 : x6_2 < (x4_2.length : Int)
    case neg => rw [if_neg c31] at H; exact absurd H (by simp)
    rw [if_pos c31] at H
    have c31b0 := decide_eq_true c31
    clear c31
    obtain ⟨y115, hy115⟩ : ∃ y_ : List Int, y_ = (x4_2.set (x6_2 : Int).toNat x5_1) := ⟨_, rfl⟩
    replace H : (Al.l0 k2 y115 (wrap64 (x5_1 + 1)) l0_0) = some (r1, r2) := zH hy115
    have Ny115 := Aa.mk hy115
    clear hy115
    have H' := Aa.mk H
    clear H
    try go_wp2
    have n_ := y4 (Kd.Ep HO_4.out) (Ag BK101.out) (Ag BK102.out) (Bz HB.out)
    clear HO_4 BK101 BK102 HB
    obtain ⟨HO_4, BK101, BK102, HB⟩ := n_
    obtain ⟨Ao34, co34, eo34⟩ := Kd.Bb HO_4.out
    (first | subst eo34 | (injection eo34 with f1_ f2_ f3_; have f4_ := f1_.symm; have f5_ := f3_.symm; clear f1_ f2_ f3_; subst f4_; subst f5_))
    have p110 : 0 ≤ ((ji15) : Int) := zD
    have q110 : (ji15) < (x4_2.length : Int) := zD
    obtain ⟨ad110, e110, hx110_0⟩ := Kd.Cv (Kd.Ae HO_4.out).2.2 (ji15) p110 q110
    cases e110
    replace p110 := eq_true p110
    replace q110 := eq_true q110
    have p111 : 0 ≤ ((rd x4_2 (ji15)) : Int) := zD
    have q111 : (rd x4_2 (ji15)) < (l0_0.length : Int) := zD
    obtain ⟨ad111, e111, hx111_0⟩ := Kd.Cv HR0_0.out (rd x4_2 (ji15)) p111 q111
    have hw111_0 := hx111_0
    cases e111
    replace hx111_0 := (HB.out.cell (World.block_lt_of_cell? w _ hx111_0)).trans hx111_0
    replace p111 := eq_true p111
    replace q111 := eq_true q111
    have p112 : 0 ≤ (x5_1 : Int) := zD
    have q112 : x5_1 < (l0_0.length : Int) := zD
    obtain ⟨ad112, e112, hx112_0⟩ := Kd.Cv HR0_0.out x5_1 p112 q112
    have hw112_0 := hx112_0
    obtain rfl : ad111 = ad112 := (by injection e112)
    replace hx112_0 := (HB.out.cell (World.block_lt_of_cell? w _ hx112_0)).trans hx112_0
    replace p112 := eq_true p112
    replace q112 := eq_true q112
    refine Fg (n := 19) (S := fun w' => w'.cell? ⟨gb101, 0, none⟩ = some (.slice (some ad111) l0_0.length c0_0) ∧ w'.cell? (ad110.add ((ji15)).toNat) = some (.int .i64 (rd x4_2 (ji15))) ∧ w'.cell? (ad111.add ((rd x4_2 (ji15))).toNat) = some (.int .i64 (rd l0_0 (rd x4_2 (ji15)))) ∧ w'.cell? (ad111.add (x5_1).toNat) = some (.int .i64 (rd l0_0 x5_1))) (ds := []) #[false,false,false,false,false,false,false,false,false,false,false,false,false,false,false,false,false,false,false] zk rfl rfl ⟨(Au BK101.out 0).trans rfl, hx110_0, ((HB.out.cell (World.block_lt_of_cell? w _ hw111_0)).trans hw111_0), ((HB.out.cell (World.block_lt_of_cell? w _ hw112_0)).trans hw112_0)⟩ (fun hHeld => ?_); refine Eh Al.tab7 Al.bits7 (fun HT_ HW_ => ?_)
    generalize wr.drew = w33 at HO_4 BK101 BK102 HB hx110_0 hx111_0 hx112_0 hHeld ⊢
    refine pT 0 22 HT_ ?_
    refine pT 1 23 HT_ ?_
    refine pT 2 24 HT_ ?_
    refine pT 3 25 HT_ ?_
    refine pT 5 27 HT_ ?_
    refine pT 6 28 HT_ ?_
    refine pT 7 29 HT_ ?_
    refine pT 8 30 HT_ ?_
    refine pT 12 34 HT_ ?_
    refine pT 14 36 HT_ ?_
    refine tT 4 26 HT_ HW_ hHeld ?_
    refine tT 9 31 HT_ HW_ hHeld ?_
    refine pT 10 32 HT_ ?_
    refine tT 11 33 HT_ HW_ hHeld ?_
    refine tT 13 35 HT_ HW_ hHeld ?_
    refine pT 15 37 HT_ ?_
    refine tT 16 38 HT_ HW_ hHeld ?_
    refine pT 17 39 HT_ ?_
    refine pT 18 40 HT_ ?_
    refine Gf (Fo HT_.out zk) ?_
    have p32 : 0 ≤ (x6_2 : Int) := zD
    have q32 : (x6_2 : Int) < ((x4_2.length : Int) : Int) := zD
    obtain ⟨go32, co32, eo32, gb32, gl32, cl32, HG32⟩ := Kd.Lk HO_4.out (by omega)
    (first | cases eo32 | (injection eo32 with ea_ en_ ec_; (first | subst ea_ | (injection ea_ with ea_; subst ea_)); subst ec_; clear en_))
    have GB32 := Aa.mk gb32
    have GG32 := Aa.mk HG32
    clear gb32 gl32 HG32
    (first | simp only [Gw] at hx110_0 | skip)
    obtain ⟨hx32_0, hf32_0⟩ := Kd.Fx 0 HO_4.out (x6_2 : Int) p32 q32
    replace p32 := eq_true p32
    replace q32 := eq_true q32
    obtain ⟨hy35_, hz35_⟩ := Kd.Fx 0 HO_4.out (x6_2 : Int) (zD) (zD)
    have HP35 := Kd.Pu HO_4.out (x6_2 : Int) x5_1
    try go_wp2_with (first | ((with_reducible refine Ku (t := 2) (p := 54) rfl ?_); refine Kh (t := 2) (p := 54) (v := ?vo_w36) (w1 := (w33.setCell ⟨go32, (x6_2 : Int).toNat, none⟩ (.int .i64 x5_1))) ?hg ?ho ?hn ?hr ?_; (case ho => rfl); (case hg => rfl); (case hn => rfl); (case hr => first | (go_simp; done) | (go_simp; rfl)); intro w36 hw; have hg : w33.grownBy w36 (some go32) := (by rw [hw]; exact HP35.2); have hp_ : Kd.R (Kd.int .i64) 2 w36 w.heap.size (fun _ => True) (.slice (some ⟨go32, 0, none⟩) x4_2.length co34) y115 := (by rw [hw, Ny115.out]; exact HP35.1); clear HP35; have n_ := y4 (hp_) (Cm (g := gb101) (o := .cells #[.slice (some ad111) l0_0.length c0_0] 26 (0, 0)) (zG BK101.out) hg (Kd.Em HO_4.out BK101.out (by decide))) (Cm (g := gb102) (o := .cells #[.slice none 0 0] 26 (0, 0)) (zG BK102.out) hg (Kd.Em HO_4.out BK102.out (by decide))) ((by rw [hw]; exact Gl (HB.out) GB32.out : Below w.heap.size w w36)); clear HO_4 BK101 BK102 HB; obtain ⟨HO_4, BK101, BK102, HB⟩ := n_; clear hg hw hp_))
    go_roundg k2
    case measure => have := HK1.out; have := HK2.out; omega
    case rel => exact ⟨(y115), (wrap64 (x5_1 + 1)), zF, H', ⟨by have := HK1.out; have := HK2.out; omega⟩, ⟨zR HO_4.out⟩, ⟨zG BK101.out⟩, ⟨zG BK102.out⟩, ⟨zB⟩⟩
   rw [if_pos c22] at H
   have c22b0 := decide_eq_true c22
   clear c22
   by_cases c23 : 0 ≤ x6_2
   case neg => rw [if_neg c23] at H; exact absurd H (by simp)
   rw [if_pos c23] at H
   have c23b0 := decide_eq_true c23
   clear c23
   by_cases c24 : x6_2 < (x4_2.length : Int)
   case neg => rw [if_neg c24] at H; exact absurd H (by simp)
   rw [if_pos c24] at H
   have c24b0 := decide_eq_true c24
   clear c24
   obtain ⟨y114, hy114⟩ : ∃ y_ : List Int, y_ = (x4_2.set (x6_2 : Int).toNat (rd x4_2 (ji15))) := ⟨_, rfl⟩
   replace H : (Al.l1 k2 y114 x5_1 ji15 l0_0) = some (r1, r2) := zH hy114
   have Ny114 := Aa.mk hy114
   clear hy114
   have H' := Aa.mk H
   clear H
   try go_wp2
   have n_ := y4 (Kd.Ep HO_4.out) (Ag BK101.out) (Ag BK102.out) (Bz HB.out)
   clear HO_4 BK101 BK102 HB
   obtain ⟨HO_4, BK101, BK102, HB⟩ := n_
   obtain ⟨Ao27, co27, eo27⟩ := Kd.Bb HO_4.out
   (first | subst eo27 | (injection eo27 with f1_ f2_ f3_; have f4_ := f1_.symm; have f5_ := f3_.symm; clear f1_ f2_ f3_; subst f4_; subst f5_))
   have p110 : 0 ≤ ((ji15) : Int) := zD
   have q110 : (ji15) < (x4_2.length : Int) := zD
   obtain ⟨ad110, e110, hx110_0⟩ := Kd.Cv (Kd.Ae HO_4.out).2.2 (ji15) p110 q110
   cases e110
   replace p110 := eq_true p110
   replace q110 := eq_true q110
   have p111 : 0 ≤ ((rd x4_2 (ji15)) : Int) := zD
   have q111 : (rd x4_2 (ji15)) < (l0_0.length : Int) := zD
   obtain ⟨ad111, e111, hx111_0⟩ := Kd.Cv HR0_0.out (rd x4_2 (ji15)) p111 q111
   have hw111_0 := hx111_0
   cases e111
   replace hx111_0 := (HB.out.cell (World.block_lt_of_cell? w _ hx111_0)).trans hx111_0
   replace p111 := eq_true p111
   replace q111 := eq_true q111
   have p112 : 0 ≤ (x5_1 : Int) := zD
   have q112 : x5_1 < (l0_0.length : Int) := zD
   obtain ⟨ad112, e112, hx112_0⟩ := Kd.Cv HR0_0.out x5_1 p112 q112
   have hw112_0 := hx112_0
   obtain rfl : ad111 = ad112 := (by injection e112)
   replace hx112_0 := (HB.out.cell (World.block_lt_of_cell? w _ hx112_0)).trans hx112_0
   replace p112 := eq_true p112
   replace q112 := eq_true q112
   refine Fg (n := 19) (S := fun w' => w'.cell? ⟨gb101, 0, none⟩ = some (.slice (some ad111) l0_0.length c0_0) ∧ w'.cell? (ad110.add ((ji15)).toNat) = some (.int .i64 (rd x4_2 (ji15))) ∧ w'.cell? (ad111.add ((rd x4_2 (ji15))).toNat) = some (.int .i64 (rd l0_0 (rd x4_2 (ji15)))) ∧ w'.cell? (ad111.add (x5_1).toNat) = some (.int .i64 (rd l0_0 x5_1))) (ds := []) #[false,false,false,false,false,false,false,false,false,false,false,false,false,false,false,false,false,false,false] zk rfl rfl ⟨(Au BK101.out 0).trans rfl, hx110_0, ((HB.out.cell (World.block_lt_of_cell? w _ hw111_0)).trans hw111_0), ((HB.out.cell (World.block_lt_of_cell? w _ hw112_0)).trans hw112_0)⟩ (fun hHeld => ?_); refine Eh Al.tab7 Al.bits7 (fun HT_ HW_ => ?_)
   generalize wr.drew = w26 at HO_4 BK101 BK102 HB hx110_0 hx111_0 hx112_0 hHeld ⊢
   refine pT 0 22 HT_ ?_
   refine pT 1 23 HT_ ?_
   refine pT 2 24 HT_ ?_
   refine pT 3 25 HT_ ?_
   refine pT 5 27 HT_ ?_
   refine pT 6 28 HT_ ?_
   refine pT 7 29 HT_ ?_
   refine pT 8 30 HT_ ?_
   refine pT 12 34 HT_ ?_
   refine pT 14 36 HT_ ?_
   refine tT 4 26 HT_ HW_ hHeld ?_
   refine tT 9 31 HT_ HW_ hHeld ?_
   refine pT 10 32 HT_ ?_
   refine tT 11 33 HT_ HW_ hHeld ?_
   refine tT 13 35 HT_ HW_ hHeld ?_
   refine pT 15 37 HT_ ?_
   refine tT 16 38 HT_ HW_ hHeld ?_
   refine pT 17 39 HT_ ?_
   refine pT 18 40 HT_ ?_
   refine Gf (Fo HT_.out zk) ?_
   have p113 : 0 ≤ ((ji15) : Int) := zD
   have q113 : (ji15) < (x4_2.length : Int) := zD
   obtain ⟨ad113, e113, hx113_0⟩ := Kd.Cv (Kd.Ae HO_4.out).2.2 (ji15) p113 q113
   obtain rfl : ad110 = ad113 := (by injection e113)
   replace p113 := eq_true p113
   replace q113 := eq_true q113
   have p25 : 0 ≤ (x6_2 : Int) := zD
   have q25 : (x6_2 : Int) < ((x4_2.length : Int) : Int) := zD
   obtain ⟨go25, co25, eo25, gb25, gl25, cl25, HG25⟩ := Kd.Lk HO_4.out (by omega)
   (first | cases eo25 | (injection eo25 with ea_ en_ ec_; (first | subst ea_ | (injection ea_ with ea_; subst ea_)); subst ec_; clear en_))
   have GB25 := Aa.mk gb25
   have GG25 := Aa.mk HG25
   clear gb25 gl25 HG25
   (first | simp only [Gw] at hx110_0 | skip)
   (first | simp only [Gw] at hx113_0 | skip)
   obtain ⟨hx25_0, hf25_0⟩ := Kd.Fx 0 HO_4.out (x6_2 : Int) p25 q25
   replace p25 := eq_true p25
   replace q25 := eq_true q25
   obtain ⟨hy28_, hz28_⟩ := Kd.Fx 0 HO_4.out (x6_2 : Int) (zD) (zD)
   have HP28 := Kd.Pu HO_4.out (x6_2 : Int) (rd x4_2 (ji15))
   try go_wp2_with (first | ((with_reducible refine Ku (t := 2) (p := 48) rfl ?_); refine Kh (t := 2) (p := 48) (v := ?vo_w29) (w1 := (w26.setCell ⟨go25, (x6_2 : Int).toNat, none⟩ (.int .i64 (rd x4_2 (ji15))))) ?hg ?ho ?hn ?hr ?_; (case ho => rfl); (case hg => rfl); (case hn => rfl); (case hr => first | (go_simp; done) | (go_simp; rfl)); intro w29 hw; have hg : w26.grownBy w29 (some go25) := (by rw [hw]; exact HP28.2); have hp_ : Kd.R (Kd.int .i64) 2 w29 w.heap.size (fun _ => True) (.slice (some ⟨go25, 0, none⟩) x4_2.length co27) y114 := (by rw [hw, Ny114.out]; exact HP28.1); clear HP28; have n_ := y4 (hp_) (Cm (g := gb101) (o := .cells #[.slice (some ad111) l0_0.length c0_0] 26 (0, 0)) (zG BK101.out) hg (Kd.Em HO_4.out BK101.out (by decide))) (Cm (g := gb102) (o := .cells #[.slice none 0 0] 26 (0, 0)) (zG BK102.out) hg (Kd.Em HO_4.out BK102.out (by decide))) ((by rw [hw]; exact Gl (HB.out) GB25.out : Below w.heap.size w w29)); clear HO_4 BK101 BK102 HB; obtain ⟨HO_4, BK101, BK102, HB⟩ := n_; clear hg hw hp_))
   go_roundg k2
   case measure => have := HK1.out; have := HK2.out; omega
   case rel => exact ⟨(y114), (ji15), (by first | rfl | (simp; done) | (simp only [← hji15] <;> (first | rfl | simp)) | (simp [*]; done)), H', ⟨by have := HK1.out; have := HK2.out; omega⟩, ⟨zR HO_4.out⟩, ⟨zG BK101.out⟩, ⟨zG BK102.out⟩, ⟨zB⟩⟩
mutual
def Cn.j0 : Nat → Bool → List Int → List Int → Option (Bool × Int)
 | 0, _, _, _ => none
 | k + 1, x18, x102000, x103000 => if x18 = true then (some (false, 1)) else ((Al.f k x102000).bind fun bt105 => ((Al.f k x103000).bind fun bt112 => (if (bt105.1.length : Int) < (bt112.1.length : Int) then (some (false, 0)) else (Cn.l0 k 0 bt105.1 bt112.1))))
def Cn.l0 : Nat → Int → List Int → List Int → Option (Bool × Int)
 | 0, _, _, _ => none
 | k + 1, x10, x112000, x119000 => if x10 < (x119000.length : Int) then (if 0 ≤ x10 then (if x10 < (x112000.length : Int) then (if (rd x119000 x10) < (rd x112000 x10) then (some (false, 0)) else (Cn.l0 k (wrap64 (x10 + 1)) x112000 x119000)) else (none)) else (none)) else (some (true, 0))
end
def Cn.f (k : Nat) (l0_0 : List Int) (l1_0 : List Int) : Option (Bool × Int) := (Cb.f k l0_0).bind fun t103 => (if t103 = true then ((Cb.f k l1_0).bind fun t104 => (Cn.j0 k (!t104) l0_0 l1_0)) else (Cn.j0 k true l0_0 l1_0))
theorem Cn.mono_l : ∀ k, (∀ y0 y1 y2, LeO (Cn.j0 k y0 y1 y2) (Cn.j0 (k + 1) y0 y1 y2)) ∧ (∀ y0 y1 y2, LeO (Cn.l0 k y0 y1 y2) (Cn.l0 (k + 1) y0 y1 y2))
 | 0 => ⟨fun _ _ _ r h => by simp [Cn.j0] at h, fun _ _ _ r h => by simp [Cn.l0] at h⟩
 | k + 1 => by
  obtain ⟨ih0, ih1⟩ := Cn.mono_l k
  refine ⟨?_, ?_⟩ <;> intros <;> (first | unfold Cn.j0 | unfold Cn.l0) <;> repeat' first | (with_reducible first | exact ih0 _ _ _ | exact ih1 _ _ _ | exact Cb.mono _ _ | exact Al.mono _ _ | exact LeO.refl _ | exact LeO.none _ | refine LeO.ite ?_ ?_ | refine LeO.bind ?_ (fun _ => ?_)) | exact ih0 _ _ _ | exact ih1 _ _ _ | exact Cb.mono _ _ | exact Al.mono _ _ | exact LeO.none _ | refine LeO.ite ?_ ?_ | refine LeO.bind ?_ (fun _ => ?_)
theorem Cn.mono : ∀ a0 a1 k, LeO (Cn.f k a0 a1) (Cn.f (k + 1) a0 a1) := by
 intro a0 a1 k
 obtain ⟨ih0, ih1⟩ := Cn.mono_l k
 unfold Cn.f
 repeat' first | (with_reducible first | exact ih0 _ _ _ | exact ih1 _ _ _ | exact Cb.mono _ _ | exact Al.mono _ _ | exact LeO.refl _ | exact LeO.none _ | refine LeO.ite ?_ ?_ | refine LeO.bind ?_ (fun _ => ?_)) | exact ih0 _ _ _ | exact ih1 _ _ _ | exact Cb.mono _ _ | exact Al.mono _ _ | exact LeO.none _ | refine LeO.ite ?_ ?_ | refine LeO.bind ?_ (fun _ => ?_)
theorem Cn.calls (k : Nat) (A0_0 : Option Addr) (c0_0 : Nat) (l0_0 : List Int) (A1_0 : Option Addr) (c1_0 : Nat) (l1_0 : List Int) (r1 : Bool) (r2 : Int) (w : World) (hr0_0 : Kd.C (Kd.int .i64) w A0_0 l0_0.length l0_0) (hc0_0 : l0_0.length ≤ c0_0) (hr1_0 : Kd.C (Kd.int .i64) w A1_0 l1_0.length l1_0) (hc1_0 : l1_0.length ≤ c1_0) (h : Cn.f k l0_0 l1_0 = some (r1, r2)) :
    Calls Tryz.prog 17 #[.agg #[.slice A0_0 l0_0.length c0_0], .agg #[.slice A1_0 l1_0.length c1_0]] w fun e w' => e = .returned (.tuple #[.bool r1, .int .i64 r2]) ∧ Below w.heap.size w w' := by
 have hu26 := Tryz.underlying26
 have HR0_0 := Aa.mk hr0_0
 have HC0_0 := Aa.mk hc0_0
 clear hr0_0 hc0_0
 have HR1_0 := Aa.mk hr1_0
 have HC1_0 := Aa.mk hc1_0
 clear hr1_0 hc1_0
 have HB := Aa.mk (Below.refl w.heap.size w)
 have H := h
 clear h
 unfold Cn.f at H
 have HC3 := Aa.mk H
 clear H
 go_enter Tryz.func17, Tryz.ntmps17
 go_upto_region 1 with (first | ((with_reducible refine Ay (N := 2) rfl ?_); refine Be zr (N := 2) zr (cs := #[.slice A0_0 l0_0.length c0_0]) (t := 26) zg ?_; intro gb101 hg w4 hbox hb; have n_ := y4 (Ab (zB) hb) (hbox) ((zS hg : w.heap.size ≤ gb101)) ((zS hg : w.heap.size ≤ gb101)); clear HB; obtain ⟨HB, BK101, GW101, GE101⟩ := n_; clear hb hbox hg) | ((with_reducible refine Ay (N := 3) rfl ?_); refine Be zr (N := 3) zr (cs := #[.slice A1_0 l1_0.length c1_0]) (t := 26) zg ?_; intro gb102 hg w5 hbox hb; have n_ := y7 (zb BK101.out hb) (Ab (zB) hb) (hbox) ((zS hg : w.heap.size ≤ gb102)) ((zS hg : w.heap.size ≤ gb102)) ((zL hg BK101.out : gb101 ≠ gb102)) ((zM hg BK101.out : gb102 ≠ gb101)); clear BK101 HB; obtain ⟨BK101, HB, BK102, GW102, GE102, NB101_102, NB102_101⟩ := n_; clear hb hbox hg))
 repeat (go_quiet (first | ((with_reducible refine Ay (N := 2) rfl ?_); refine Be zr (N := 2) zr (cs := #[.slice A0_0 l0_0.length c0_0]) (t := 26) zg ?_; intro gb101 hg w4 hbox hb; have n_ := y4 (Ab (zB) hb) (hbox) ((zS hg : w.heap.size ≤ gb101)) ((zS hg : w.heap.size ≤ gb101)); clear HB; obtain ⟨HB, BK101, GW101, GE101⟩ := n_; clear hb hbox hg) | ((with_reducible refine Ay (N := 3) rfl ?_); refine Be zr (N := 3) zr (cs := #[.slice A1_0 l1_0.length c1_0]) (t := 26) zg ?_; intro gb102 hg w5 hbox hb; have n_ := y7 (zb BK101.out hb) (Ab (zB) hb) (hbox) ((zS hg : w.heap.size ≤ gb102)) ((zS hg : w.heap.size ≤ gb102)) ((zL hg BK101.out : gb101 ≠ gb102)) ((zM hg BK101.out : gb102 ≠ gb101)); clear BK101 HB; obtain ⟨BK101, HB, BK102, GW102, GE102, NB101_102, NB102_101⟩ := n_; clear hb hbox hg)); go_upto_region 1 with (first | ((with_reducible refine Ay (N := 2) rfl ?_); refine Be zr (N := 2) zr (cs := #[.slice A0_0 l0_0.length c0_0]) (t := 26) zg ?_; intro gb101 hg w4 hbox hb; have n_ := y4 (Ab (zB) hb) (hbox) ((zS hg : w.heap.size ≤ gb101)) ((zS hg : w.heap.size ≤ gb101)); clear HB; obtain ⟨HB, BK101, GW101, GE101⟩ := n_; clear hb hbox hg) | ((with_reducible refine Ay (N := 3) rfl ?_); refine Be zr (N := 3) zr (cs := #[.slice A1_0 l1_0.length c1_0]) (t := 26) zg ?_; intro gb102 hg w5 hbox hb; have n_ := y7 (zb BK101.out hb) (Ab (zB) hb) (hbox) ((zS hg : w.heap.size ≤ gb102)) ((zS hg : w.heap.size ≤ gb102)) ((zL hg BK101.out : gb101 ≠ gb102)) ((zM hg BK101.out : gb102 ≠ gb101)); clear BK101 HB; obtain ⟨BK101, HB, BK102, GW102, GE102, NB101_102, NB102_101⟩ := n_; clear hb hbox hg)))
 (try simp only [Act.put, List.setIfInBounds_toArray, List.set_cons_zero, List.set_cons_succ])
 go_cut [18] (fun v18 wc => ∃ (kq : Nat) (x18_2 : Bool), v18 = .bool x18_2 ∧ Aa (Cn.j0 kq x18_2 l0_0 l1_0 = some (r1, r2)) ∧ Aa (kq ≤ k) ∧ Aa (wc.heap[gb101]? = some (.cells #[(.slice A0_0 l0_0.length c0_0)] 26 (0, 0))) ∧ Aa (wc.heap[gb102]? = some (.cells #[(.slice A1_0 l1_0.length c1_0)] 26 (0, 0))) ∧ Aa (Below w.heap.size w wc))
 case first =>
  have H := HC3.out
  clear HC3
  obtain ⟨t103, A6, H⟩ := zO H
  try dsimp only at H
  by_cases c7 : t103 = true
  ·
   subst c7
   rw [if_pos rfl] at H
   obtain ⟨t104, A8, H⟩ := zO H
   try dsimp only at H
   have H' := Aa.mk H
   clear H
   have hnb9 := NB101_102.out
   have hnc9 := NB102_101.out
   obtain ⟨hcz10_0, hfz10_0⟩ := zw BK101.out
   go_wp2_with (first | (go_at_call 35; (with_reducible refine (Cb.calls k _ _ l0_0 true _ ?side1 HC0_0.out A6.out).mono ?_); (case side1 => exact zC (Kd.Bh HR0_0.out HB.out)); rintro e w11 ⟨rfl, hb⟩; have n_ := y3 (zb BK101.out hb) (zb BK102.out hb) (Ab (zB) hb); clear BK101 BK102 HB; obtain ⟨BK101, BK102, HB⟩ := n_; (try clear hb); obtain ⟨hcz12_0, hfz12_0⟩ := zw BK102.out) | (go_at_call 35; (with_reducible refine (Cb.calls k _ _ l1_0 t104 _ ?side1 HC1_0.out A8.out).mono ?_); (case side1 => exact zC (Kd.Bh HR1_0.out HB.out)); rintro e w13 ⟨rfl, hb⟩; have n_ := y3 (zb BK101.out hb) (zb BK102.out hb) (Ab (zB) hb); clear BK101 BK102 HB; obtain ⟨BK101, BK102, HB⟩ := n_; (try clear hb)))
   repeat (go_quiet (first | (go_at_call 35; (with_reducible refine (Cb.calls k _ _ l0_0 true _ ?side1 HC0_0.out A6.out).mono ?_); (case side1 => exact zC (Kd.Bh HR0_0.out HB.out)); rintro e w11 ⟨rfl, hb⟩; have n_ := y3 (zb BK101.out hb) (zb BK102.out hb) (Ab (zB) hb); clear BK101 BK102 HB; obtain ⟨BK101, BK102, HB⟩ := n_; (try clear hb); obtain ⟨hcz12_0, hfz12_0⟩ := zw BK102.out) | (go_at_call 35; (with_reducible refine (Cb.calls k _ _ l1_0 t104 _ ?side1 HC1_0.out A8.out).mono ?_); (case side1 => exact zC (Kd.Bh HR1_0.out HB.out)); rintro e w13 ⟨rfl, hb⟩; have n_ := y3 (zb BK101.out hb) (zb BK102.out hb) (Ab (zB) hb); clear BK101 BK102 HB; obtain ⟨BK101, BK102, HB⟩ := n_; (try clear hb))); try go_wp2_with (first | (go_at_call 35; (with_reducible refine (Cb.calls k _ _ l0_0 true _ ?side1 HC0_0.out A6.out).mono ?_); (case side1 => exact zC (Kd.Bh HR0_0.out HB.out)); rintro e w11 ⟨rfl, hb⟩; have n_ := y3 (zb BK101.out hb) (zb BK102.out hb) (Ab (zB) hb); clear BK101 BK102 HB; obtain ⟨BK101, BK102, HB⟩ := n_; (try clear hb); obtain ⟨hcz12_0, hfz12_0⟩ := zw BK102.out) | (go_at_call 35; (with_reducible refine (Cb.calls k _ _ l1_0 t104 _ ?side1 HC1_0.out A8.out).mono ?_); (case side1 => exact zC (Kd.Bh HR1_0.out HB.out)); rintro e w13 ⟨rfl, hb⟩; have n_ := y3 (zb BK101.out hb) (zb BK102.out hb) (Ab (zB) hb); clear BK101 BK102 HB; obtain ⟨BK101, BK102, HB⟩ := n_; (try clear hb))))
   go_meet
   case rel => exact ⟨_, (!t104), zF, H', ⟨by first | omega | exact Nat.le_refl _⟩, ⟨zG BK101.out⟩, ⟨zG BK102.out⟩, ⟨zB⟩⟩
  replace c7 := Bool.eq_false_iff.mpr c7
  subst c7
  rw [if_neg zf] at H
  have H' := Aa.mk H
  clear H
  have hnb14 := NB101_102.out
  have hnc14 := NB102_101.out
  obtain ⟨hcz15_0, hfz15_0⟩ := zw BK101.out
  go_wp2_with (first | (go_at_call 35; (with_reducible refine (Cb.calls k _ _ l0_0 false _ ?side1 HC0_0.out A6.out).mono ?_); (case side1 => exact zC (Kd.Bh HR0_0.out HB.out)); rintro e w16 ⟨rfl, hb⟩; have n_ := y3 (zb BK101.out hb) (zb BK102.out hb) (Ab (zB) hb); clear BK101 BK102 HB; obtain ⟨BK101, BK102, HB⟩ := n_; (try clear hb)))
  repeat (go_quiet (first | (go_at_call 35; (with_reducible refine (Cb.calls k _ _ l0_0 false _ ?side1 HC0_0.out A6.out).mono ?_); (case side1 => exact zC (Kd.Bh HR0_0.out HB.out)); rintro e w16 ⟨rfl, hb⟩; have n_ := y3 (zb BK101.out hb) (zb BK102.out hb) (Ab (zB) hb); clear BK101 BK102 HB; obtain ⟨BK101, BK102, HB⟩ := n_; (try clear hb))); try go_wp2_with (first | (go_at_call 35; (with_reducible refine (Cb.calls k _ _ l0_0 false _ ?side1 HC0_0.out A6.out).mono ?_); (case side1 => exact zC (Kd.Bh HR0_0.out HB.out)); rintro e w16 ⟨rfl, hb⟩; have n_ := y3 (zb BK101.out hb) (zb BK102.out hb) (Ab (zB) hb); clear BK101 BK102 HB; obtain ⟨BK101, BK102, HB⟩ := n_; (try clear hb))))
  go_meet
  case rel => exact ⟨_, (true), zF, H', ⟨by first | omega | exact Nat.le_refl _⟩, ⟨zG BK101.out⟩, ⟨zG BK102.out⟩, ⟨zB⟩⟩
 clear HC3
 obtain ⟨kq, x18_2, rfl, HA, HJ2, BK101, BK102, HB⟩ := hcut
 cases kq with
 | zero => exact absurd HA.out (by simp [Cn.j0])
 | succ kj2 =>
  have H := HA.out
  clear HA
  simp only [Cn.j0] at H
  by_cases c17 : x18_2 = true
  ·
   subst c17
   rw [if_pos rfl] at H
   simp only [Option.some.injEq, Prod.mk.injEq] at H
   obtain ⟨rfl, rfl⟩ := H
   go_wp2
   repeat (go_quiet (fail); try go_wp2)
   go_ret2
   exact ⟨zE, zB⟩
  replace c17 := Bool.eq_false_iff.mpr c17
  subst c17
  rw [if_neg zf] at H
  obtain ⟨⟨t105, t108⟩, A18, H⟩ := zO H
  try dsimp only at H
  obtain ⟨⟨t112, t115⟩, A19, H⟩ := zO H
  try dsimp only at H
  by_cases c20 : (t105.length : Int) < (t112.length : Int)
  ·
   rw [if_pos c20] at H
   have c20b0 := decide_eq_true c20
   have c20b1 : decide (t105.length < t112.length) = true := decide_eq_true (Int.ofNat_lt.mp c20)
   clear c20
   simp only [Option.some.injEq, Prod.mk.injEq] at H
   obtain ⟨rfl, rfl⟩ := H
   have hnb21 := NB101_102.out
   have hnc21 := NB102_101.out
   obtain ⟨hcz22_0, hfz22_0⟩ := zw BK101.out
   go_wp2_with (first | (go_at_call 63; (with_reducible refine (Al.calls kj2 _ _ l0_0 t105 t108 _ ?side1 HC0_0.out A18.out).mono ?_); (case side1 => exact zC (Kd.Bh HR0_0.out HB.out)); rintro e w23 ⟨v106, v109, rfl, ho0, ho1, hb⟩; have n_ := y5 (Kd.Bk ho0 (An (zB))) (Kd.Bk ho1 (An (zB))) (zb BK101.out hb) (zb BK102.out hb) (Ab (zB) hb); clear BK101 BK102 HB; obtain ⟨HO107, HO110, BK101, BK102, HB⟩ := n_; (try clear ho0 ho1 hb)) | ((with_reducible refine Ay (N := 6) rfl ?_); refine Be zr (N := 6) zr (cs := #[.slice none 0 0]) (t := 26) zg ?_; intro gb111 hg w24 hbox hb; have n_ := y12 (Kd.Ap (zR HO107.out) hb) (Kd.Ap (zR HO110.out) hb) (zb BK101.out hb) (zb BK102.out hb) (Ab (zB) hb) (hbox) ((zS hg : w.heap.size ≤ gb111)) ((zS hg : w.heap.size ≤ gb111)) ((zL hg BK101.out : gb101 ≠ gb111)) ((zM hg BK101.out : gb111 ≠ gb101)) ((zL hg BK102.out : gb102 ≠ gb111)) ((zM hg BK102.out : gb111 ≠ gb102)); clear HO107 HO110 BK101 BK102 HB; obtain ⟨HO107, HO110, BK101, BK102, HB, BK111, GW111, GE111, NB101_111, NB111_101, NB102_111, NB111_102⟩ := n_; clear hb hbox hg; obtain ⟨Ao25, co25, eo25⟩ := Kd.Bb HO107.out; subst eo25; have hnb26 := NB111_101.out; have hnc26 := NB101_111.out; have hnb27 := NB111_102.out; have hnc27 := NB102_111.out; obtain ⟨hcz28_0, hfz28_0⟩ := zw BK111.out; obtain ⟨hcz29_0, hfz29_0⟩ := zw BK102.out) | (go_at_call 63; (with_reducible refine (Al.calls kj2 _ _ l1_0 t112 t115 _ ?side1 HC1_0.out A19.out).mono ?_); (case side1 => exact Kd.Bh HR1_0.out (zB)); rintro e w30 ⟨v113, v116, rfl, ho0, ho1, hb⟩; have n_ := y8 (Kd.Ai (Kd.Ez (Kd.Ez (Kd.Mh (zV HO107.out BK111.out) hb) (Kd.Bs ho0)) (Kd.Bs ho1)) (fun _ h_ => h_.1)) (Kd.Ai (Kd.Ez (Kd.Ez (Kd.Mh (zV HO110.out BK111.out) hb) (Kd.Bs ho0)) (Kd.Bs ho1)) (fun _ h_ => h_.1)) (Kd.Bk (Kd.Bt (Kd.Bt ho0 (Kd.Cx (zV HO107.out BK111.out))) (Kd.Cx (zV HO110.out BK111.out))) (An (zB))) (Kd.Bk (Kd.Bt (Kd.Bt ho1 (Kd.Cx (zV HO107.out BK111.out))) (Kd.Cx (zV HO110.out BK111.out))) (An (zB))) (Cy (g := gb101) (o := .cells #[.slice A0_0 l0_0.length c0_0] 26 (0, 0)) (by refine zG ?_; refine Ce ?_ NB101_111.out _; refine zG ?_; exact BK101.out) hb) (Cy (g := gb102) (o := .cells #[.slice A1_0 l1_0.length c1_0] 26 (0, 0)) (by refine zG ?_; refine Ce ?_ NB102_111.out _; refine zG ?_; exact BK102.out) hb) (Cy (g := gb111) (o := .cells #[.slice Ao25 t105.length co25] 26 (0, 0)) (by (with_reducible repeat (first | refine Am ?_ _ | refine Ag ?_ | refine Ak ?_ _)); refine Cl (cs := #[.slice none 0 0]) ?_ 0 _ rfl; (with_reducible repeat (first | refine Am ?_ _ | refine Ag ?_ | refine Ak ?_ _)); exact BK111.out) hb) (Ab (zB) hb); clear HO107 HO110 BK101 BK102 BK111 HB; obtain ⟨HO107, HO110, HO114, HO117, BK101, BK102, BK111, HB⟩ := n_; (try clear ho0 ho1 hb)) | ((with_reducible refine Ay (N := 8) rfl ?_); refine Be zr (N := 8) zr (cs := #[.slice none 0 0]) (t := 26) zg ?_; intro gb118 hg w31 hbox hb; have n_ := y17 (Kd.Ap (zR HO107.out) hb) (Kd.Ap (zR HO110.out) hb) (Kd.Ap (zR HO114.out) hb) (Kd.Ap (zR HO117.out) hb) (zb BK101.out hb) (zb BK102.out hb) (zb BK111.out hb) (Ab (zB) hb) (hbox) ((zS hg : w.heap.size ≤ gb118)) ((zS hg : w.heap.size ≤ gb118)) ((zL hg BK101.out : gb101 ≠ gb118)) ((zM hg BK101.out : gb118 ≠ gb101)) ((zL hg BK102.out : gb102 ≠ gb118)) ((zM hg BK102.out : gb118 ≠ gb102)) ((zL hg BK111.out : gb111 ≠ gb118)) ((zM hg BK111.out : gb118 ≠ gb111)); clear HO107 HO110 HO114 HO117 BK101 BK102 BK111 HB; obtain ⟨HO107, HO110, HO114, HO117, BK101, BK102, BK111, HB, BK118, GW118, GE118, NB101_118, NB118_101, NB102_118, NB118_102, NB111_118, NB118_111⟩ := n_; clear hb hbox hg; obtain ⟨Ao32, co32, eo32⟩ := Kd.Bb HO114.out; subst eo32; have hnb33 := NB118_101.out; have hnc33 := NB101_118.out; have hnb34 := NB118_102.out; have hnc34 := NB102_118.out; have hnb35 := NB118_111.out; have hnc35 := NB111_118.out; obtain ⟨hcz36_0, hfz36_0⟩ := zw BK118.out; obtain ⟨hcz37_0, hfz37_0⟩ := zw BK111.out))
   repeat (go_quiet (first | (go_at_call 63; (with_reducible refine (Al.calls kj2 _ _ l0_0 t105 t108 _ ?side1 HC0_0.out A18.out).mono ?_); (case side1 => exact zC (Kd.Bh HR0_0.out HB.out)); rintro e w23 ⟨v106, v109, rfl, ho0, ho1, hb⟩; have n_ := y5 (Kd.Bk ho0 (An (zB))) (Kd.Bk ho1 (An (zB))) (zb BK101.out hb) (zb BK102.out hb) (Ab (zB) hb); clear BK101 BK102 HB; obtain ⟨HO107, HO110, BK101, BK102, HB⟩ := n_; (try clear ho0 ho1 hb)) | ((with_reducible refine Ay (N := 6) rfl ?_); refine Be zr (N := 6) zr (cs := #[.slice none 0 0]) (t := 26) zg ?_; intro gb111 hg w24 hbox hb; have n_ := y12 (Kd.Ap (zR HO107.out) hb) (Kd.Ap (zR HO110.out) hb) (zb BK101.out hb) (zb BK102.out hb) (Ab (zB) hb) (hbox) ((zS hg : w.heap.size ≤ gb111)) ((zS hg : w.heap.size ≤ gb111)) ((zL hg BK101.out : gb101 ≠ gb111)) ((zM hg BK101.out : gb111 ≠ gb101)) ((zL hg BK102.out : gb102 ≠ gb111)) ((zM hg BK102.out : gb111 ≠ gb102)); clear HO107 HO110 BK101 BK102 HB; obtain ⟨HO107, HO110, BK101, BK102, HB, BK111, GW111, GE111, NB101_111, NB111_101, NB102_111, NB111_102⟩ := n_; clear hb hbox hg; obtain ⟨Ao25, co25, eo25⟩ := Kd.Bb HO107.out; subst eo25; have hnb26 := NB111_101.out; have hnc26 := NB101_111.out; have hnb27 := NB111_102.out; have hnc27 := NB102_111.out; obtain ⟨hcz28_0, hfz28_0⟩ := zw BK111.out; obtain ⟨hcz29_0, hfz29_0⟩ := zw BK102.out) | (go_at_call 63; (with_reducible refine (Al.calls kj2 _ _ l1_0 t112 t115 _ ?side1 HC1_0.out A19.out).mono ?_); (case side1 => exact Kd.Bh HR1_0.out (zB)); rintro e w30 ⟨v113, v116, rfl, ho0, ho1, hb⟩; have n_ := y8 (Kd.Ai (Kd.Ez (Kd.Ez (Kd.Mh (zV HO107.out BK111.out) hb) (Kd.Bs ho0)) (Kd.Bs ho1)) (fun _ h_ => h_.1)) (Kd.Ai (Kd.Ez (Kd.Ez (Kd.Mh (zV HO110.out BK111.out) hb) (Kd.Bs ho0)) (Kd.Bs ho1)) (fun _ h_ => h_.1)) (Kd.Bk (Kd.Bt (Kd.Bt ho0 (Kd.Cx (zV HO107.out BK111.out))) (Kd.Cx (zV HO110.out BK111.out))) (An (zB))) (Kd.Bk (Kd.Bt (Kd.Bt ho1 (Kd.Cx (zV HO107.out BK111.out))) (Kd.Cx (zV HO110.out BK111.out))) (An (zB))) (Cy (g := gb101) (o := .cells #[.slice A0_0 l0_0.length c0_0] 26 (0, 0)) (by refine zG ?_; refine Ce ?_ NB101_111.out _; refine zG ?_; exact BK101.out) hb) (Cy (g := gb102) (o := .cells #[.slice A1_0 l1_0.length c1_0] 26 (0, 0)) (by refine zG ?_; refine Ce ?_ NB102_111.out _; refine zG ?_; exact BK102.out) hb) (Cy (g := gb111) (o := .cells #[.slice Ao25 t105.length co25] 26 (0, 0)) (by (with_reducible repeat (first | refine Am ?_ _ | refine Ag ?_ | refine Ak ?_ _)); refine Cl (cs := #[.slice none 0 0]) ?_ 0 _ rfl; (with_reducible repeat (first | refine Am ?_ _ | refine Ag ?_ | refine Ak ?_ _)); exact BK111.out) hb) (Ab (zB) hb); clear HO107 HO110 BK101 BK102 BK111 HB; obtain ⟨HO107, HO110, HO114, HO117, BK101, BK102, BK111, HB⟩ := n_; (try clear ho0 ho1 hb)) | ((with_reducible refine Ay (N := 8) rfl ?_); refine Be zr (N := 8) zr (cs := #[.slice none 0 0]) (t := 26) zg ?_; intro gb118 hg w31 hbox hb; have n_ := y17 (Kd.Ap (zR HO107.out) hb) (Kd.Ap (zR HO110.out) hb) (Kd.Ap (zR HO114.out) hb) (Kd.Ap (zR HO117.out) hb) (zb BK101.out hb) (zb BK102.out hb) (zb BK111.out hb) (Ab (zB) hb) (hbox) ((zS hg : w.heap.size ≤ gb118)) ((zS hg : w.heap.size ≤ gb118)) ((zL hg BK101.out : gb101 ≠ gb118)) ((zM hg BK101.out : gb118 ≠ gb101)) ((zL hg BK102.out : gb102 ≠ gb118)) ((zM hg BK102.out : gb118 ≠ gb102)) ((zL hg BK111.out : gb111 ≠ gb118)) ((zM hg BK111.out : gb118 ≠ gb111)); clear HO107 HO110 HO114 HO117 BK101 BK102 BK111 HB; obtain ⟨HO107, HO110, HO114, HO117, BK101, BK102, BK111, HB, BK118, GW118, GE118, NB101_118, NB118_101, NB102_118, NB118_102, NB111_118, NB118_111⟩ := n_; clear hb hbox hg; obtain ⟨Ao32, co32, eo32⟩ := Kd.Bb HO114.out; subst eo32; have hnb33 := NB118_101.out; have hnc33 := NB101_118.out; have hnb34 := NB118_102.out; have hnc34 := NB102_118.out; have hnb35 := NB118_111.out; have hnc35 := NB111_118.out; obtain ⟨hcz36_0, hfz36_0⟩ := zw BK118.out; obtain ⟨hcz37_0, hfz37_0⟩ := zw BK111.out)); try go_wp2_with (first | (go_at_call 63; (with_reducible refine (Al.calls kj2 _ _ l0_0 t105 t108 _ ?side1 HC0_0.out A18.out).mono ?_); (case side1 => exact zC (Kd.Bh HR0_0.out HB.out)); rintro e w23 ⟨v106, v109, rfl, ho0, ho1, hb⟩; have n_ := y5 (Kd.Bk ho0 (An (zB))) (Kd.Bk ho1 (An (zB))) (zb BK101.out hb) (zb BK102.out hb) (Ab (zB) hb); clear BK101 BK102 HB; obtain ⟨HO107, HO110, BK101, BK102, HB⟩ := n_; (try clear ho0 ho1 hb)) | ((with_reducible refine Ay (N := 6) rfl ?_); refine Be zr (N := 6) zr (cs := #[.slice none 0 0]) (t := 26) zg ?_; intro gb111 hg w24 hbox hb; have n_ := y12 (Kd.Ap (zR HO107.out) hb) (Kd.Ap (zR HO110.out) hb) (zb BK101.out hb) (zb BK102.out hb) (Ab (zB) hb) (hbox) ((zS hg : w.heap.size ≤ gb111)) ((zS hg : w.heap.size ≤ gb111)) ((zL hg BK101.out : gb101 ≠ gb111)) ((zM hg BK101.out : gb111 ≠ gb101)) ((zL hg BK102.out : gb102 ≠ gb111)) ((zM hg BK102.out : gb111 ≠ gb102)); clear HO107 HO110 BK101 BK102 HB; obtain ⟨HO107, HO110, BK101, BK102, HB, BK111, GW111, GE111, NB101_111, NB111_101, NB102_111, NB111_102⟩ := n_; clear hb hbox hg; obtain ⟨Ao25, co25, eo25⟩ := Kd.Bb HO107.out; subst eo25; have hnb26 := NB111_101.out; have hnc26 := NB101_111.out; have hnb27 := NB111_102.out; have hnc27 := NB102_111.out; obtain ⟨hcz28_0, hfz28_0⟩ := zw BK111.out; obtain ⟨hcz29_0, hfz29_0⟩ := zw BK102.out) | (go_at_call 63; (with_reducible refine (Al.calls kj2 _ _ l1_0 t112 t115 _ ?side1 HC1_0.out A19.out).mono ?_); (case side1 => exact Kd.Bh HR1_0.out (zB)); rintro e w30 ⟨v113, v116, rfl, ho0, ho1, hb⟩; have n_ := y8 (Kd.Ai (Kd.Ez (Kd.Ez (Kd.Mh (zV HO107.out BK111.out) hb) (Kd.Bs ho0)) (Kd.Bs ho1)) (fun _ h_ => h_.1)) (Kd.Ai (Kd.Ez (Kd.Ez (Kd.Mh (zV HO110.out BK111.out) hb) (Kd.Bs ho0)) (Kd.Bs ho1)) (fun _ h_ => h_.1)) (Kd.Bk (Kd.Bt (Kd.Bt ho0 (Kd.Cx (zV HO107.out BK111.out))) (Kd.Cx (zV HO110.out BK111.out))) (An (zB))) (Kd.Bk (Kd.Bt (Kd.Bt ho1 (Kd.Cx (zV HO107.out BK111.out))) (Kd.Cx (zV HO110.out BK111.out))) (An (zB))) (Cy (g := gb101) (o := .cells #[.slice A0_0 l0_0.length c0_0] 26 (0, 0)) (by refine zG ?_; refine Ce ?_ NB101_111.out _; refine zG ?_; exact BK101.out) hb) (Cy (g := gb102) (o := .cells #[.slice A1_0 l1_0.length c1_0] 26 (0, 0)) (by refine zG ?_; refine Ce ?_ NB102_111.out _; refine zG ?_; exact BK102.out) hb) (Cy (g := gb111) (o := .cells #[.slice Ao25 t105.length co25] 26 (0, 0)) (by (with_reducible repeat (first | refine Am ?_ _ | refine Ag ?_ | refine Ak ?_ _)); refine Cl (cs := #[.slice none 0 0]) ?_ 0 _ rfl; (with_reducible repeat (first | refine Am ?_ _ | refine Ag ?_ | refine Ak ?_ _)); exact BK111.out) hb) (Ab (zB) hb); clear HO107 HO110 BK101 BK102 BK111 HB; obtain ⟨HO107, HO110, HO114, HO117, BK101, BK102, BK111, HB⟩ := n_; (try clear ho0 ho1 hb)) | ((with_reducible refine Ay (N := 8) rfl ?_); refine Be zr (N := 8) zr (cs := #[.slice none 0 0]) (t := 26) zg ?_; intro gb118 hg w31 hbox hb; have n_ := y17 (Kd.Ap (zR HO107.out) hb) (Kd.Ap (zR HO110.out) hb) (Kd.Ap (zR HO114.out) hb) (Kd.Ap (zR HO117.out) hb) (zb BK101.out hb) (zb BK102.out hb) (zb BK111.out hb) (Ab (zB) hb) (hbox) ((zS hg : w.heap.size ≤ gb118)) ((zS hg : w.heap.size ≤ gb118)) ((zL hg BK101.out : gb101 ≠ gb118)) ((zM hg BK101.out : gb118 ≠ gb101)) ((zL hg BK102.out : gb102 ≠ gb118)) ((zM hg BK102.out : gb118 ≠ gb102)) ((zL hg BK111.out : gb111 ≠ gb118)) ((zM hg BK111.out : gb118 ≠ gb111)); clear HO107 HO110 HO114 HO117 BK101 BK102 BK111 HB; obtain ⟨HO107, HO110, HO114, HO117, BK101, BK102, BK111, HB, BK118, GW118, GE118, NB101_118, NB118_101, NB102_118, NB118_102, NB111_118, NB118_111⟩ := n_; clear hb hbox hg; obtain ⟨Ao32, co32, eo32⟩ := Kd.Bb HO114.out; subst eo32; have hnb33 := NB118_101.out; have hnc33 := NB101_118.out; have hnb34 := NB118_102.out; have hnc34 := NB102_118.out; have hnb35 := NB118_111.out; have hnc35 := NB111_118.out; obtain ⟨hcz36_0, hfz36_0⟩ := zw BK118.out; obtain ⟨hcz37_0, hfz37_0⟩ := zw BK111.out)))
   go_ret2
   exact ⟨zE, zB⟩
  rw [if_neg c20] at H
  have c20b0 := decide_eq_false c20
  have c20b1 : decide (t105.length < t112.length) = false := decide_eq_false (fun h => c20 (Int.ofNat_lt.mpr h))
  clear c20
  have H' := Aa.mk H
  clear H
  have hnb38 := NB101_102.out
  have hnc38 := NB102_101.out
  obtain ⟨hcz39_0, hfz39_0⟩ := zw BK101.out
  go_wp2_with (first | (go_at_call 63; (with_reducible refine (Al.calls kj2 _ _ l0_0 t105 t108 _ ?side1 HC0_0.out A18.out).mono ?_); (case side1 => exact zC (Kd.Bh HR0_0.out HB.out)); rintro e w40 ⟨v106, v109, rfl, ho0, ho1, hb⟩; have n_ := y5 (Kd.Bk ho0 (An (zB))) (Kd.Bk ho1 (An (zB))) (zb BK101.out hb) (zb BK102.out hb) (Ab (zB) hb); clear BK101 BK102 HB; obtain ⟨HO107, HO110, BK101, BK102, HB⟩ := n_; (try clear ho0 ho1 hb)) | ((with_reducible refine Ay (N := 6) rfl ?_); refine Be zr (N := 6) zr (cs := #[.slice none 0 0]) (t := 26) zg ?_; intro gb111 hg w41 hbox hb; have n_ := y12 (Kd.Ap (zR HO107.out) hb) (Kd.Ap (zR HO110.out) hb) (zb BK101.out hb) (zb BK102.out hb) (Ab (zB) hb) (hbox) ((zS hg : w.heap.size ≤ gb111)) ((zS hg : w.heap.size ≤ gb111)) ((zL hg BK101.out : gb101 ≠ gb111)) ((zM hg BK101.out : gb111 ≠ gb101)) ((zL hg BK102.out : gb102 ≠ gb111)) ((zM hg BK102.out : gb111 ≠ gb102)); clear HO107 HO110 BK101 BK102 HB; obtain ⟨HO107, HO110, BK101, BK102, HB, BK111, GW111, GE111, NB101_111, NB111_101, NB102_111, NB111_102⟩ := n_; clear hb hbox hg; obtain ⟨Ao42, co42, eo42⟩ := Kd.Bb HO107.out; subst eo42; have hnb43 := NB111_101.out; have hnc43 := NB101_111.out; have hnb44 := NB111_102.out; have hnc44 := NB102_111.out; obtain ⟨hcz45_0, hfz45_0⟩ := zw BK111.out; obtain ⟨hcz46_0, hfz46_0⟩ := zw BK102.out) | (go_at_call 63; (with_reducible refine (Al.calls kj2 _ _ l1_0 t112 t115 _ ?side1 HC1_0.out A19.out).mono ?_); (case side1 => exact Kd.Bh HR1_0.out (zB)); rintro e w47 ⟨v113, v116, rfl, ho0, ho1, hb⟩; have n_ := y8 (Kd.Ai (Kd.Ez (Kd.Ez (Kd.Mh (zV HO107.out BK111.out) hb) (Kd.Bs ho0)) (Kd.Bs ho1)) (fun _ h_ => h_.1)) (Kd.Ai (Kd.Ez (Kd.Ez (Kd.Mh (zV HO110.out BK111.out) hb) (Kd.Bs ho0)) (Kd.Bs ho1)) (fun _ h_ => h_.1)) (Kd.Bk (Kd.Bt (Kd.Bt ho0 (Kd.Cx (zV HO107.out BK111.out))) (Kd.Cx (zV HO110.out BK111.out))) (An (zB))) (Kd.Bk (Kd.Bt (Kd.Bt ho1 (Kd.Cx (zV HO107.out BK111.out))) (Kd.Cx (zV HO110.out BK111.out))) (An (zB))) (Cy (g := gb101) (o := .cells #[.slice A0_0 l0_0.length c0_0] 26 (0, 0)) (by refine zG ?_; refine Ce ?_ NB101_111.out _; refine zG ?_; exact BK101.out) hb) (Cy (g := gb102) (o := .cells #[.slice A1_0 l1_0.length c1_0] 26 (0, 0)) (by refine zG ?_; refine Ce ?_ NB102_111.out _; refine zG ?_; exact BK102.out) hb) (Cy (g := gb111) (o := .cells #[.slice Ao42 t105.length co42] 26 (0, 0)) (by (with_reducible repeat (first | refine Am ?_ _ | refine Ag ?_ | refine Ak ?_ _)); refine Cl (cs := #[.slice none 0 0]) ?_ 0 _ rfl; (with_reducible repeat (first | refine Am ?_ _ | refine Ag ?_ | refine Ak ?_ _)); exact BK111.out) hb) (Ab (zB) hb); clear HO107 HO110 BK101 BK102 BK111 HB; obtain ⟨HO107, HO110, HO114, HO117, BK101, BK102, BK111, HB⟩ := n_; (try clear ho0 ho1 hb)) | ((with_reducible refine Ay (N := 8) rfl ?_); refine Be zr (N := 8) zr (cs := #[.slice none 0 0]) (t := 26) zg ?_; intro gb118 hg w48 hbox hb; have n_ := y17 (Kd.Ap (zR HO107.out) hb) (Kd.Ap (zR HO110.out) hb) (Kd.Ap (zR HO114.out) hb) (Kd.Ap (zR HO117.out) hb) (zb BK101.out hb) (zb BK102.out hb) (zb BK111.out hb) (Ab (zB) hb) (hbox) ((zS hg : w.heap.size ≤ gb118)) ((zS hg : w.heap.size ≤ gb118)) ((zL hg BK101.out : gb101 ≠ gb118)) ((zM hg BK101.out : gb118 ≠ gb101)) ((zL hg BK102.out : gb102 ≠ gb118)) ((zM hg BK102.out : gb118 ≠ gb102)) ((zL hg BK111.out : gb111 ≠ gb118)) ((zM hg BK111.out : gb118 ≠ gb111)); clear HO107 HO110 HO114 HO117 BK101 BK102 BK111 HB; obtain ⟨HO107, HO110, HO114, HO117, BK101, BK102, BK111, HB, BK118, GW118, GE118, NB101_118, NB118_101, NB102_118, NB118_102, NB111_118, NB118_111⟩ := n_; clear hb hbox hg; obtain ⟨Ao49, co49, eo49⟩ := Kd.Bb HO114.out; subst eo49; have hnb50 := NB118_101.out; have hnc50 := NB101_118.out; have hnb51 := NB118_102.out; have hnc51 := NB102_118.out; have hnb52 := NB118_111.out; have hnc52 := NB111_118.out; obtain ⟨hcz53_0, hfz53_0⟩ := zw BK118.out; obtain ⟨hcz54_0, hfz54_0⟩ := zw BK111.out))
  repeat (go_quiet (first | (go_at_call 63; (with_reducible refine (Al.calls kj2 _ _ l0_0 t105 t108 _ ?side1 HC0_0.out A18.out).mono ?_); (case side1 => exact zC (Kd.Bh HR0_0.out HB.out)); rintro e w40 ⟨v106, v109, rfl, ho0, ho1, hb⟩; have n_ := y5 (Kd.Bk ho0 (An (zB))) (Kd.Bk ho1 (An (zB))) (zb BK101.out hb) (zb BK102.out hb) (Ab (zB) hb); clear BK101 BK102 HB; obtain ⟨HO107, HO110, BK101, BK102, HB⟩ := n_; (try clear ho0 ho1 hb)) | ((with_reducible refine Ay (N := 6) rfl ?_); refine Be zr (N := 6) zr (cs := #[.slice none 0 0]) (t := 26) zg ?_; intro gb111 hg w41 hbox hb; have n_ := y12 (Kd.Ap (zR HO107.out) hb) (Kd.Ap (zR HO110.out) hb) (zb BK101.out hb) (zb BK102.out hb) (Ab (zB) hb) (hbox) ((zS hg : w.heap.size ≤ gb111)) ((zS hg : w.heap.size ≤ gb111)) ((zL hg BK101.out : gb101 ≠ gb111)) ((zM hg BK101.out : gb111 ≠ gb101)) ((zL hg BK102.out : gb102 ≠ gb111)) ((zM hg BK102.out : gb111 ≠ gb102)); clear HO107 HO110 BK101 BK102 HB; obtain ⟨HO107, HO110, BK101, BK102, HB, BK111, GW111, GE111, NB101_111, NB111_101, NB102_111, NB111_102⟩ := n_; clear hb hbox hg; obtain ⟨Ao42, co42, eo42⟩ := Kd.Bb HO107.out; subst eo42; have hnb43 := NB111_101.out; have hnc43 := NB101_111.out; have hnb44 := NB111_102.out; have hnc44 := NB102_111.out; obtain ⟨hcz45_0, hfz45_0⟩ := zw BK111.out; obtain ⟨hcz46_0, hfz46_0⟩ := zw BK102.out) | (go_at_call 63; (with_reducible refine (Al.calls kj2 _ _ l1_0 t112 t115 _ ?side1 HC1_0.out A19.out).mono ?_); (case side1 => exact Kd.Bh HR1_0.out (zB)); rintro e w47 ⟨v113, v116, rfl, ho0, ho1, hb⟩; have n_ := y8 (Kd.Ai (Kd.Ez (Kd.Ez (Kd.Mh (zV HO107.out BK111.out) hb) (Kd.Bs ho0)) (Kd.Bs ho1)) (fun _ h_ => h_.1)) (Kd.Ai (Kd.Ez (Kd.Ez (Kd.Mh (zV HO110.out BK111.out) hb) (Kd.Bs ho0)) (Kd.Bs ho1)) (fun _ h_ => h_.1)) (Kd.Bk (Kd.Bt (Kd.Bt ho0 (Kd.Cx (zV HO107.out BK111.out))) (Kd.Cx (zV HO110.out BK111.out))) (An (zB))) (Kd.Bk (Kd.Bt (Kd.Bt ho1 (Kd.Cx (zV HO107.out BK111.out))) (Kd.Cx (zV HO110.out BK111.out))) (An (zB))) (Cy (g := gb101) (o := .cells #[.slice A0_0 l0_0.length c0_0] 26 (0, 0)) (by refine zG ?_; refine Ce ?_ NB101_111.out _; refine zG ?_; exact BK101.out) hb) (Cy (g := gb102) (o := .cells #[.slice A1_0 l1_0.length c1_0] 26 (0, 0)) (by refine zG ?_; refine Ce ?_ NB102_111.out _; refine zG ?_; exact BK102.out) hb) (Cy (g := gb111) (o := .cells #[.slice Ao42 t105.length co42] 26 (0, 0)) (by (with_reducible repeat (first | refine Am ?_ _ | refine Ag ?_ | refine Ak ?_ _)); refine Cl (cs := #[.slice none 0 0]) ?_ 0 _ rfl; (with_reducible repeat (first | refine Am ?_ _ | refine Ag ?_ | refine Ak ?_ _)); exact BK111.out) hb) (Ab (zB) hb); clear HO107 HO110 BK101 BK102 BK111 HB; obtain ⟨HO107, HO110, HO114, HO117, BK101, BK102, BK111, HB⟩ := n_; (try clear ho0 ho1 hb)) | ((with_reducible refine Ay (N := 8) rfl ?_); refine Be zr (N := 8) zr (cs := #[.slice none 0 0]) (t := 26) zg ?_; intro gb118 hg w48 hbox hb; have n_ := y17 (Kd.Ap (zR HO107.out) hb) (Kd.Ap (zR HO110.out) hb) (Kd.Ap (zR HO114.out) hb) (Kd.Ap (zR HO117.out) hb) (zb BK101.out hb) (zb BK102.out hb) (zb BK111.out hb) (Ab (zB) hb) (hbox) ((zS hg : w.heap.size ≤ gb118)) ((zS hg : w.heap.size ≤ gb118)) ((zL hg BK101.out : gb101 ≠ gb118)) ((zM hg BK101.out : gb118 ≠ gb101)) ((zL hg BK102.out : gb102 ≠ gb118)) ((zM hg BK102.out : gb118 ≠ gb102)) ((zL hg BK111.out : gb111 ≠ gb118)) ((zM hg BK111.out : gb118 ≠ gb111)); clear HO107 HO110 HO114 HO117 BK101 BK102 BK111 HB; obtain ⟨HO107, HO110, HO114, HO117, BK101, BK102, BK111, HB, BK118, GW118, GE118, NB101_118, NB118_101, NB102_118, NB118_102, NB111_118, NB118_111⟩ := n_; clear hb hbox hg; obtain ⟨Ao49, co49, eo49⟩ := Kd.Bb HO114.out; subst eo49; have hnb50 := NB118_101.out; have hnc50 := NB101_118.out; have hnb51 := NB118_102.out; have hnc51 := NB102_118.out; have hnb52 := NB118_111.out; have hnc52 := NB111_118.out; obtain ⟨hcz53_0, hfz53_0⟩ := zw BK118.out; obtain ⟨hcz54_0, hfz54_0⟩ := zw BK111.out)); try go_wp2_with (first | (go_at_call 63; (with_reducible refine (Al.calls kj2 _ _ l0_0 t105 t108 _ ?side1 HC0_0.out A18.out).mono ?_); (case side1 => exact zC (Kd.Bh HR0_0.out HB.out)); rintro e w40 ⟨v106, v109, rfl, ho0, ho1, hb⟩; have n_ := y5 (Kd.Bk ho0 (An (zB))) (Kd.Bk ho1 (An (zB))) (zb BK101.out hb) (zb BK102.out hb) (Ab (zB) hb); clear BK101 BK102 HB; obtain ⟨HO107, HO110, BK101, BK102, HB⟩ := n_; (try clear ho0 ho1 hb)) | ((with_reducible refine Ay (N := 6) rfl ?_); refine Be zr (N := 6) zr (cs := #[.slice none 0 0]) (t := 26) zg ?_; intro gb111 hg w41 hbox hb; have n_ := y12 (Kd.Ap (zR HO107.out) hb) (Kd.Ap (zR HO110.out) hb) (zb BK101.out hb) (zb BK102.out hb) (Ab (zB) hb) (hbox) ((zS hg : w.heap.size ≤ gb111)) ((zS hg : w.heap.size ≤ gb111)) ((zL hg BK101.out : gb101 ≠ gb111)) ((zM hg BK101.out : gb111 ≠ gb101)) ((zL hg BK102.out : gb102 ≠ gb111)) ((zM hg BK102.out : gb111 ≠ gb102)); clear HO107 HO110 BK101 BK102 HB; obtain ⟨HO107, HO110, BK101, BK102, HB, BK111, GW111, GE111, NB101_111, NB111_101, NB102_111, NB111_102⟩ := n_; clear hb hbox hg; obtain ⟨Ao42, co42, eo42⟩ := Kd.Bb HO107.out; subst eo42; have hnb43 := NB111_101.out; have hnc43 := NB101_111.out; have hnb44 := NB111_102.out; have hnc44 := NB102_111.out; obtain ⟨hcz45_0, hfz45_0⟩ := zw BK111.out; obtain ⟨hcz46_0, hfz46_0⟩ := zw BK102.out) | (go_at_call 63; (with_reducible refine (Al.calls kj2 _ _ l1_0 t112 t115 _ ?side1 HC1_0.out A19.out).mono ?_); (case side1 => exact Kd.Bh HR1_0.out (zB)); rintro e w47 ⟨v113, v116, rfl, ho0, ho1, hb⟩; have n_ := y8 (Kd.Ai (Kd.Ez (Kd.Ez (Kd.Mh (zV HO107.out BK111.out) hb) (Kd.Bs ho0)) (Kd.Bs ho1)) (fun _ h_ => h_.1)) (Kd.Ai (Kd.Ez (Kd.Ez (Kd.Mh (zV HO110.out BK111.out) hb) (Kd.Bs ho0)) (Kd.Bs ho1)) (fun _ h_ => h_.1)) (Kd.Bk (Kd.Bt (Kd.Bt ho0 (Kd.Cx (zV HO107.out BK111.out))) (Kd.Cx (zV HO110.out BK111.out))) (An (zB))) (Kd.Bk (Kd.Bt (Kd.Bt ho1 (Kd.Cx (zV HO107.out BK111.out))) (Kd.Cx (zV HO110.out BK111.out))) (An (zB))) (Cy (g := gb101) (o := .cells #[.slice A0_0 l0_0.length c0_0] 26 (0, 0)) (by refine zG ?_; refine Ce ?_ NB101_111.out _; refine zG ?_; exact BK101.out) hb) (Cy (g := gb102) (o := .cells #[.slice A1_0 l1_0.length c1_0] 26 (0, 0)) (by refine zG ?_; refine Ce ?_ NB102_111.out _; refine zG ?_; exact BK102.out) hb) (Cy (g := gb111) (o := .cells #[.slice Ao42 t105.length co42] 26 (0, 0)) (by (with_reducible repeat (first | refine Am ?_ _ | refine Ag ?_ | refine Ak ?_ _)); refine Cl (cs := #[.slice none 0 0]) ?_ 0 _ rfl; (with_reducible repeat (first | refine Am ?_ _ | refine Ag ?_ | refine Ak ?_ _)); exact BK111.out) hb) (Ab (zB) hb); clear HO107 HO110 BK101 BK102 BK111 HB; obtain ⟨HO107, HO110, HO114, HO117, BK101, BK102, BK111, HB⟩ := n_; (try clear ho0 ho1 hb)) | ((with_reducible refine Ay (N := 8) rfl ?_); refine Be zr (N := 8) zr (cs := #[.slice none 0 0]) (t := 26) zg ?_; intro gb118 hg w48 hbox hb; have n_ := y17 (Kd.Ap (zR HO107.out) hb) (Kd.Ap (zR HO110.out) hb) (Kd.Ap (zR HO114.out) hb) (Kd.Ap (zR HO117.out) hb) (zb BK101.out hb) (zb BK102.out hb) (zb BK111.out hb) (Ab (zB) hb) (hbox) ((zS hg : w.heap.size ≤ gb118)) ((zS hg : w.heap.size ≤ gb118)) ((zL hg BK101.out : gb101 ≠ gb118)) ((zM hg BK101.out : gb118 ≠ gb101)) ((zL hg BK102.out : gb102 ≠ gb118)) ((zM hg BK102.out : gb118 ≠ gb102)) ((zL hg BK111.out : gb111 ≠ gb118)) ((zM hg BK111.out : gb118 ≠ gb111)); clear HO107 HO110 HO114 HO117 BK101 BK102 BK111 HB; obtain ⟨HO107, HO110, HO114, HO117, BK101, BK102, BK111, HB, BK118, GW118, GE118, NB101_118, NB118_101, NB102_118, NB118_102, NB111_118, NB118_111⟩ := n_; clear hb hbox hg; obtain ⟨Ao49, co49, eo49⟩ := Kd.Bb HO114.out; subst eo49; have hnb50 := NB118_101.out; have hnc50 := NB101_118.out; have hnb51 := NB118_102.out; have hnc51 := NB102_118.out; have hnb52 := NB118_111.out; have hnc52 := NB111_118.out; obtain ⟨hcz53_0, hfz53_0⟩ := zw BK118.out; obtain ⟨hcz54_0, hfz54_0⟩ := zw BK111.out)))
  go_loopg [10] kj2 (fun kq v10 w' => ∃ (x10_2 : Int), v10 = .int .i64 x10_2 ∧ Aa (Cn.l0 kq x10_2 t105 t112 = some (r1, r2)) ∧ Aa (kq ≤ kj2) ∧ Aa (Kd.R (Kd.int .i64) 2 w' w.heap.size (fun k_ => some k_ ≠ ((.slice Ao49 t112.length co49) : Value).ownBlock) (.slice Ao42 t105.length co42) t105) ∧ Aa (Kd.R (Kd.int .i64) 2 w' w.heap.size (fun k_ => some k_ ≠ ((.slice Ao42 t105.length co42) : Value).ownBlock) (.slice Ao49 t112.length co49) t112) ∧ Aa (w'.heap[gb111]? = some (.cells #[(.slice Ao42 t105.length co42)] 26 (0, 0))) ∧ Aa (w'.heap[gb118]? = some (.cells #[(.slice Ao49 t112.length co49)] 26 (0, 0))) ∧ Aa (Below w.heap.size w w'))
  case atStart => exact ⟨(0), zF, H', ⟨Nat.le_refl _⟩, ⟨by refine zR ?_; exact Kd.Ai (Kd.Dv (p := ⟨gb118, 0, none⟩) (Kd.Cj HO107.out BK118.out (by decide)) (fun _ hk => hk.2) (.slice Ao49 t112.length co49)) (fun _ hk => hk.1.1.2)⟩, ⟨by refine zR ?_; exact Kd.Ai (Kd.Dv (p := ⟨gb118, 0, none⟩) (Kd.Cj HO114.out BK118.out (by decide)) (fun _ hk => hk.2) (.slice Ao49 t112.length co49)) (fun _ hk => hk.1.1.2)⟩, ⟨by refine zG ?_; refine Ce ?_ NB111_118.out _; refine zG ?_; exact BK111.out⟩, ⟨by (with_reducible repeat (first | refine Am ?_ _ | refine Ag ?_ | refine Ak ?_ _)); refine Cl (cs := #[.slice none 0 0]) ?_ 0 _ rfl; (with_reducible repeat (first | refine Am ?_ _ | refine Ag ?_ | refine Ak ?_ _)); exact BK118.out⟩, ⟨zB⟩⟩
  clear H'
  try clear c17
  try clear c20
  try clear c20b0
  try clear c20b1
  try clear hcz39_0
  try clear hcz45_0
  try clear hcz46_0
  try clear hcz53_0
  try clear hcz54_0
  try clear hfz39_0
  try clear hfz45_0
  try clear hfz46_0
  try clear hfz53_0
  try clear hfz54_0
  obtain ⟨x10_2, rfl, HA, HK2, HO_112000, HO_119000, BK111, BK118, HB⟩ := hrel
  cases gk with
  | zero => exact absurd HA.out (by simp [Cn.l0])
  | succ k2 =>
   have H := HA.out
   clear HA
   simp only [Cn.l0] at H
   by_cases c55 : x10_2 < (t112.length : Int)
   case neg =>
    rw [if_neg c55] at H
    have c55b0 := decide_eq_false c55
    clear c55
    simp only [Option.some.injEq, Prod.mk.injEq] at H
    obtain ⟨rfl, rfl⟩ := H
    have hnb65 := NB118_111.out
    have hnc65 := NB111_118.out
    obtain ⟨hcz66_0, hfz66_0⟩ := zw BK118.out
    go_wp2
    repeat (go_quiet (fail); try go_wp2)
    go_ret2
    exact ⟨zE, zB⟩
   rw [if_pos c55] at H
   have c55b0 := decide_eq_true c55
   clear c55
   by_cases c56 : 0 ≤ x10_2
   case neg => rw [if_neg c56] at H; exact absurd H (by simp)
   rw [if_pos c56] at H
   have c56b0 := decide_eq_true c56
   clear c56
   by_cases c57 : x10_2 < (t105.length : Int)
   case neg => rw [if_neg c57] at H; exact absurd H (by simp)
   rw [if_pos c57] at H
   have c57b0 := decide_eq_true c57
   clear c57
   by_cases c58 : (rd t112 x10_2) < (rd t105 x10_2)
   ·
    rw [if_pos c58] at H
    have c58b0 := decide_eq_true c58
    clear c58
    simp only [Option.some.injEq, Prod.mk.injEq] at H
    obtain ⟨rfl, rfl⟩ := H
    have hnb59 := NB118_111.out
    have hnc59 := NB111_118.out
    obtain ⟨hcz60_0, hfz60_0⟩ := zw BK118.out
    have p119 : 0 ≤ (x10_2 : Int) := zD
    have q119 : x10_2 < (t112.length : Int) := zD
    obtain ⟨ad119, e119, hx119_0⟩ := Kd.Cv (Kd.Ae HO_119000.out).2.2 x10_2 p119 q119
    cases e119
    replace p119 := eq_true p119
    replace q119 := eq_true q119
    obtain ⟨hcz61_0, hfz61_0⟩ := zw BK111.out
    have p120 : 0 ≤ (x10_2 : Int) := zD
    have q120 : x10_2 < (t105.length : Int) := zD
    obtain ⟨ad120, e120, hx120_0⟩ := Kd.Cv (Kd.Ae HO_112000.out).2.2 x10_2 p120 q120
    cases e120
    replace p120 := eq_true p120
    replace q120 := eq_true q120
    go_wp2
    repeat (go_quiet (fail); try go_wp2)
    go_ret2
    exact ⟨zE, zB⟩
   rw [if_neg c58] at H
   have c58b0 := decide_eq_false c58
   clear c58
   have H' := Aa.mk H
   clear H
   have hnb62 := NB118_111.out
   have hnc62 := NB111_118.out
   obtain ⟨hcz63_0, hfz63_0⟩ := zw BK118.out
   have p119 : 0 ≤ (x10_2 : Int) := zD
   have q119 : x10_2 < (t112.length : Int) := zD
   obtain ⟨ad119, e119, hx119_0⟩ := Kd.Cv (Kd.Ae HO_119000.out).2.2 x10_2 p119 q119
   cases e119
   replace p119 := eq_true p119
   replace q119 := eq_true q119
   obtain ⟨hcz64_0, hfz64_0⟩ := zw BK111.out
   have p120 : 0 ≤ (x10_2 : Int) := zD
   have q120 : x10_2 < (t105.length : Int) := zD
   obtain ⟨ad120, e120, hx120_0⟩ := Kd.Cv (Kd.Ae HO_112000.out).2.2 x10_2 p120 q120
   cases e120
   replace p120 := eq_true p120
   replace q120 := eq_true q120
   go_wp2
   repeat (go_quiet (fail); try go_wp2)
   go_roundg k2
   case measure => have := HJ2.out; have := HK2.out; omega
   case rel => exact ⟨(wrap64 (x10_2 + 1)), zF, H', ⟨by have := HJ2.out; have := HK2.out; omega⟩, ⟨zR HO_112000.out⟩, ⟨zR HO_119000.out⟩, ⟨zG BK111.out⟩, ⟨zG BK118.out⟩, ⟨zB⟩⟩
def Bq.j0 : Nat → List Int → List Int → Int → Int → Option (List Int × Int × Int)
 | 0, _, _, _, _ => none
 | k + 1, x6, x105000, x105001, x105002 => (Co.f x105000 x105001 x105002 (([1, 3, 7] : List Int))).bind fun bt119 => ((El.f x105000 bt119.2.1 bt119.2.2 bt119.1).bind fun bt122 => ((Br.f k x105000 bt122.2.1 bt122.2.2 x6).bind fun bt125 => ((Co.f x105000 bt125.2.1 bt125.2.2 (([1, 2, 6] : List Int))).bind fun bt133 => ((El.f x105000 bt133.2.1 bt133.2.2 bt133.1).bind fun bt136 => (some (bt125.1, bt122.1, wrap64 (2 + bt136.1)))))))
def Bq.f (k : Nat) (l0 : List Int) : Option (List Int × Int × Int) := (Bj.f k l0).bind fun bt101 => ((Bf.f bt101.1 bt101.2.1 bt101.2.2 5).bind fun bt105 => ((Bg.f k bt101.1 bt105.2.1 bt105.2.2 (wrap64 (1 + bt105.1))).bind fun bt108 => (if (bt108.1.length : Int) > 30 then (if 30 ≤ (bt108.1.length : Int) then (Bq.j0 k (bt108.1.take (30 : Int).toNat) bt101.1 bt108.2.1 bt108.2.2) else (none)) else (Bq.j0 k bt108.1 bt101.1 bt108.2.1 bt108.2.2))))
theorem Bq.mono_l : ∀ k, (∀ y0 y1 y2 y3, LeO (Bq.j0 k y0 y1 y2 y3) (Bq.j0 (k + 1) y0 y1 y2 y3))
 | 0 => fun _ _ _ _ r h => by simp [Bq.j0] at h
 | k + 1 => by
  have ih0 := Bq.mono_l k
  ·
   intro y0 y1 y2 y3
   unfold Bq.j0
   repeat' first | (with_reducible first | exact ih0 _ _ _ _ | exact Br.mono _ _ _ _ _ | exact Bg.mono _ _ _ _ _ | exact Bj.mono _ _ | exact LeO.refl _ | exact LeO.none _ | refine LeO.ite ?_ ?_ | refine LeO.bind ?_ (fun _ => ?_)) | exact ih0 _ _ _ _ | exact Br.mono _ _ _ _ _ | exact Bg.mono _ _ _ _ _ | exact Bj.mono _ _ | exact LeO.none _ | refine LeO.ite ?_ ?_ | refine LeO.bind ?_ (fun _ => ?_)
theorem Bq.mono : ∀ a0 k, LeO (Bq.f k a0) (Bq.f (k + 1) a0) := by
 intro a0 k
 have ih0 := Bq.mono_l k
 unfold Bq.f
 repeat' first | (with_reducible first | exact ih0 _ _ _ _ | exact Br.mono _ _ _ _ _ | exact Bg.mono _ _ _ _ _ | exact Bj.mono _ _ | exact LeO.refl _ | exact LeO.none _ | refine LeO.ite ?_ ?_ | refine LeO.bind ?_ (fun _ => ?_)) | exact ih0 _ _ _ _ | exact Br.mono _ _ _ _ _ | exact Bg.mono _ _ _ _ _ | exact Bj.mono _ _ | exact LeO.none _ | refine LeO.ite ?_ ?_ | refine LeO.bind ?_ (fun _ => ?_)
end Go.Proofs.YtliepcfgcglcmaaGreat.P
end
