/- Folded tasks served by turns are served by the divided turns, the gaps that turns serve are the least ones, and who asks more has greater gaps. -/
import Derived.Test.YtliepcfgcglcmaaGreatCFnFolding3

set_option maxRecDepth 100000
set_option maxHeartbeats 8000000
section
namespace Go.Proofs.YtliepcfgcglcmaaGreat.P
open Go.RowKit Go.Proofs.YtliepcfgcglcmaaGreatW.PrintWords Go.Proofs.YtliepcfgcglcmaaGreatW.PrintLast Go.Proofs.YtliepcfgcglcmaaGreatW.PrintMore
attribute [local go_sem] Kn Kj Ld Li Kb Ke Kl Km
set_option linter.unusedVariables false
set_option linter.unusedSimpArgs false
theorem Bx.calls (k : Nat) (g : Nat) (s0_0 : List Int) (s0_1 : Int) (s0_2 : Int) (a1 : Int) (r1 : List Int) (r2 : Int) (r3 : Int) (w0 w : World) (hI : Af w0 w g s0_0 s0_1 s0_2) (hB : Below w0.heap.size w0 w) (h : Bx.f k s0_0 s0_1 s0_2 a1 = some (r1, r2, r3)) :
    Calls Tryz.prog 70 #[.pointer (some ⟨g, 0, none⟩), .int .i64 a1] w fun e w' => ∃ v0_ : Value, e = .returned (.agg #[v0_]) ∧ Kd.R (Kd.int .i64) 2 w' w.heap.size (fun _ => True) v0_ r1 ∧ Af w0 w' g s0_0 r2 r3 ∧ Below w0.heap.size w0 w' ∧ Av w w' g none := by
 have hu26 := Tryz.underlying26
 have HI0 := Aa.mk hI
 have HK := Aa.mk (Av.refl w g none)
 have HL := Aa.mk hB.size
 clear hI
 have HW0 := Aa.mk hB.size
 have HB := Aa.mk hB
 clear hB
 have H := h
 clear h
 unfold Bx.f at H
 obtain ⟨y102, hy102⟩ : ∃ y_ : List Int, y_ = (([] : List Int)) := ⟨_, rfl⟩
 replace H : (Bx.l0 k a1 0 s0_0 s0_1 s0_2 y102) = some (r1, r2, r3) := zH hy102
 have Ny102 := Aa.mk hy102
 clear hy102
 have H' := Aa.mk H
 clear H
 go_enter Tryz.func70, Tryz.ntmps70
 go_wp2_with (first | ((with_reducible refine Ay (N := 4) rfl ?_); refine Be zr (N := 4) zr (cs := #[.slice none 0 0]) (t := 26) zg ?_; intro gb101 hg w3 hbox hb; have n_ := y8 (Af.below (zI) hb) (Av.trans (zK) (Av.of_below hb g none) (.inl rfl)) (Ab (zB) hb) (hbox) ((by rw [hg]; exact (Di (w := w) (g := g) (row := none) (zK)) : w.heap.size ≤ gb101)) ((Nat.le_trans HW0.out (by rw [hg]; exact (Di (w := w) (g := g) (row := none) (zK)) : w.heap.size ≤ gb101) : w0.heap.size ≤ gb101)) ((by rw [hg]; exact Nat.ne_of_lt (Af.lt (show Af w0 _ g s0_0 s0_1 s0_2 from zI)) : g ≠ gb101)) ((by rw [hg]; exact Nat.ne_of_gt (Af.lt (show Af w0 _ g s0_0 s0_1 s0_2 from zI)) : gb101 ≠ g)); clear HI0 HK HB; obtain ⟨HI0, HK, HB, BK101, GW101, GE101, NB0_101, NB101_0⟩ := n_; clear hb hbox hg) | ((with_reducible refine Ay (N := 7) rfl ?_); refine Kd.Kv (Kd.int .i64) _ 2 ?hg (N := 7) ?hd (xs := ([] : List Int)) (inner := []) (ok := fun _ => True) (okp := fun _ => True) ?hr ?hp (fun _ hk => hk) trivial (Below.refl _ _) (Nat.le_refl _) (by simp) ?_; (case hd => rfl); (case hg => rfl); (case hr => first | (go_simp; done) | (go_simp; rfl)); (case hp => exact (Dk.none _ _)); intro v103 w4 ho5 hb hg_ hnew_; clear hg_ hnew_; (first | rw [← Ny102.out] at ho5 | (simp only [Int.reduceToNat] at ho5; rw [← Ny102.out] at ho5)); have n_ := y5 (Kd.Bk ho5 (Di (w := w) (g := g) (row := none) (zK))) (Af.below (zI) hb) (zb BK101.out hb) (Av.trans (zK) (Av.of_below hb g none) (.inl rfl)) (Ab (zB) hb); clear HI0 BK101 HK HB; obtain ⟨HO104, HI0, BK101, HK, HB⟩ := n_; clear hb ho5; obtain ⟨Ao6, co6, eo6⟩ := Kd.Bb HO104.out; subst eo6) | ((with_reducible refine Ay (N := 5) rfl ?_); refine Be zr (N := 5) zr (cs := #[.slice none 0 0]) (t := 26) zg ?_; intro gb105 hg w7 hbox hb; have n_ := y12 (Kd.Ap (zR HO104.out) hb) (Af.below (zI) hb) (zb BK101.out hb) (Av.trans (zK) (Av.of_below hb g none) (.inl rfl)) (Ab (zB) hb) (hbox) ((by rw [hg]; exact (Di (w := w) (g := g) (row := none) (zK)) : w.heap.size ≤ gb105)) ((Nat.le_trans HW0.out (by rw [hg]; exact (Di (w := w) (g := g) (row := none) (zK)) : w.heap.size ≤ gb105) : w0.heap.size ≤ gb105)) ((zL hg BK101.out : gb101 ≠ gb105)) ((zM hg BK101.out : gb105 ≠ gb101)) ((by rw [hg]; exact Nat.ne_of_lt (Af.lt (show Af w0 _ g s0_0 s0_1 s0_2 from zI)) : g ≠ gb105)) ((by rw [hg]; exact Nat.ne_of_gt (Af.lt (show Af w0 _ g s0_0 s0_1 s0_2 from zI)) : gb105 ≠ g)); clear HO104 HI0 BK101 HK HB; obtain ⟨HO104, HI0, BK101, HK, HB, BK105, GW105, GE105, NB101_105, NB105_101, NB0_105, NB105_0⟩ := n_; clear hb hbox hg; have hnb8 := NB105_101.out; have hnc8 := NB101_105.out; have hnb9 := NB105_0.out; have hnc9 := NB0_105.out; obtain ⟨hcz10_0, hfz10_0⟩ := zw BK105.out))
 go_loopg [6] k (fun kq v6 w' => ∃ (x6_1 : Int) (x1001_1 : Int) (x1002_1 : Int) (x106000_1 : List Int) (u106000 : Value), v6 = .int .i64 x6_1 ∧ Aa (Bx.l0 kq a1 x6_1 s0_0 x1001_1 x1002_1 x106000_1 = some (r1, r2, r3)) ∧ Aa (kq ≤ k) ∧ Aa (Kd.R (Kd.int .i64) 2 w' w.heap.size (fun _ => True) u106000 x106000_1) ∧ Aa (w'.heap[gb101]? = some (.cells #[(.slice none 0 0)] 26 (0, 0))) ∧ Aa (w'.heap[gb105]? = some (.cells #[u106000] 26 (0, 0))) ∧ Aa (Af w0 w' g s0_0 x1001_1 x1002_1) ∧ Aa (Av w w' g none) ∧ Aa (Below w0.heap.size w0 w'))
 case atStart => exact ⟨(0), (s0_1), (s0_2), (y102), (.slice Ao6 y102.length co6), zF, H', ⟨Nat.le_refl _⟩, ⟨by refine zR ?_; exact Kd.Ai (Kd.Dv (p := ⟨gb105, 0, none⟩) (Kd.Cj HO104.out BK105.out (by decide)) (fun _ hk => hk.2) (.slice Ao6 y102.length co6)) (fun _ hk => trivial)⟩, ⟨by refine zG ?_; refine Ce ?_ NB101_105.out _; refine zG ?_; exact BK101.out⟩, ⟨by (with_reducible repeat (first | refine Am ?_ _ | refine Ag ?_ | refine Ak ?_ _)); refine Cl (cs := #[.slice none 0 0]) ?_ 0 _ rfl; (with_reducible repeat (first | refine Am ?_ _ | refine Ag ?_ | refine Ak ?_ _)); exact BK105.out⟩, ⟨zI⟩, ⟨zK⟩, ⟨zB⟩⟩
 clear H'
 try clear hcz10_0
 try clear hfz10_0
 obtain ⟨x6_1, x1001_1, x1002_1, x106000_1, u106000, rfl, HA, HK1, HO_106000, BK101, BK105, HI0, HK, HB⟩ := hrel
 cases gk with
 | zero => exact absurd HA.out (by simp [Bx.l0])
 | succ k1 =>
  have H := HA.out
  clear HA
  simp only [Bx.l0] at H
  by_cases c11 : x6_1 < a1
  case neg =>
   rw [if_neg c11] at H
   have c11b0 := decide_eq_false c11
   clear c11
   simp only [Option.some.injEq, Prod.mk.injEq] at H
   obtain ⟨rfl, rfl, rfl⟩ := H
   have hnb24 := NB105_101.out
   have hnc24 := NB101_105.out
   have hnb25 := NB105_0.out
   have hnc25 := NB0_105.out
   obtain ⟨hcz26_0, hfz26_0⟩ := zw BK105.out
   obtain ⟨Ao27, co27, eo27⟩ := Kd.Bb HO_106000.out
   subst eo27
   have hnb28 := NB101_0.out
   have hnc28 := NB0_101.out
   obtain ⟨hcz29_0, hfz29_0⟩ := zw BK101.out
   go_wp2
   refine bodyPost_ret (results_cell_row rfl _ _ gb101 26 #[.slice Ao27 x106000_1.length co27] (0, 0) _ rfl (by (with_reducible repeat (first | refine Am ?_ _ | refine Ag ?_ | refine Ak ?_ _)); refine Cl (cs := #[.slice none 0 0]) ?_ 0 _ rfl; (with_reducible repeat (first | refine Am ?_ _ | refine Ag ?_ | refine Ak ?_ _)); exact BK101.out) Tryz.underlying26 rfl zk) rfl ?_
   exact ⟨_, zE, by refine zR ?_; exact Kd.Ai (Kd.Dv (p := ⟨gb101, 0, none⟩) (Kd.Cj HO_106000.out BK101.out (by decide)) (fun _ hk => hk.2) (.slice Ao27 x106000_1.length co27)) (fun _ hk => trivial), zI, zB, zK⟩
  rw [if_pos c11] at H
  have c11b0 := decide_eq_true c11
  clear c11
  obtain ⟨y106, hy106⟩ : ∃ y_ : List Int, y_ = (([4, 8, 12, 40] : List Int)) := ⟨_, rfl⟩
  replace H : ((Co.f s0_0 x1001_1 x1002_1 y106).bind fun bt109 => ((Bf.f s0_0 bt109.2.1 bt109.2.2 bt109.1).bind fun bt112 => (if x106000_1.length < 17592186044416 then (Bx.l0 k1 a1 (wrap64 (x6_1 + 1)) s0_0 bt112.2.1 bt112.2.2 (x106000_1 ++ [wrap64 (1 + bt112.1)])) else (none)))) = some (r1, r2, r3) := zH hy106
  have Ny106 := Aa.mk hy106
  clear hy106
  obtain ⟨⟨t109, t110, t111⟩, A12, H⟩ := zO H
  try dsimp only at H
  obtain ⟨⟨t112, t113, t114⟩, A13, H⟩ := zO H
  try dsimp only at H
  by_cases c14 : x106000_1.length < 17592186044416
  case neg => rw [if_neg c14] at H; exact absurd H (by simp)
  rw [if_pos c14] at H
  have LMc14 := Aa.mk c14
  clear c14
  obtain ⟨y115, hy115⟩ : ∃ y_ : List Int, y_ = (x106000_1 ++ [wrap64 (1 + t112)]) := ⟨_, rfl⟩
  replace H : (Bx.l0 k1 a1 (wrap64 (x6_1 + 1)) s0_0 t113 t114 y115) = some (r1, r2, r3) := zH hy115
  have Ny115 := Aa.mk hy115
  clear hy115
  have H' := Aa.mk H
  clear H
  try go_wp2
  have n_ := y6 (Kd.Ep HO_106000.out) (Ag BK101.out) (Ag BK105.out) (Af.drew HI0.out) (Ws HK.out) (Bz HB.out)
  clear HO_106000 BK101 BK105 HI0 HK HB
  obtain ⟨HO_106000, BK101, BK105, HI0, HK, HB⟩ := n_
  refine Fg (n := 12) (S := fun w' => w'.cell? ⟨gb105, 0, none⟩ = some (u106000)) (ds := [11]) #[false,false,false,false,false,false,false,false,false,false,false,false] zk rfl rfl ((Au BK105.out 0).trans rfl) (fun hHeld => ?_); refine Eh Bx.tab5 Bx.bits5 (fun HT_ HW_ => ?_)
  generalize wr.drew = w15 at HO_106000 BK101 BK105 HI0 HK HB hHeld ⊢
  refine pT 0 14 HT_ ?_
  refine pT 2 16 HT_ ?_
  refine pT 3 17 HT_ ?_
  refine tT 1 15 HT_ HW_ hHeld ?_
  refine Fk (i := 4) (N := some 18) #[true,true,true,true,true,false,false,false,false,false,false,false] rfl rfl (Db HT_.out zk) (by decide) (fun K hK => ?_)
  refine Kd.Lu (Kd.int .i64) _ 2 ?hg (N := 18) ?hd (xs := ([4, 8, 12, 40] : List Int)) (inner := [.int .i64 4, .int .i64 8, .int .i64 12, .int .i64 40]) (ok := fun _ => True) (okp := fun _ => True) ?hr ?hp (fun _ hk => hk) trivial (Below.refl _ _) (Nat.le_refl _) (by simp) ?_; (case hd => rfl); (case hg => rfl); (case hr => first | (go_simp; done) | (go_simp; rfl)); (case hp => exact (Dk.one (show Kd.M (Kd.int .i64) _ _ _ 4 [.int .i64 4] from rfl) (Dk.one (show Kd.M (Kd.int .i64) _ _ _ 8 [.int .i64 8] from rfl) (Dk.one (show Kd.M (Kd.int .i64) _ _ _ 12 [.int .i64 12] from rfl) (Dk.one (show Kd.M (Kd.int .i64) _ _ _ 40 [.int .i64 40] from rfl) (Dk.none _ _))))))
  intro v107 w16 ho17 hb hg_ hnew_
  clear hg_ hnew_
  (first | rw [← Ny106.out] at ho17 | (simp only [Int.reduceToNat] at ho17; rw [← Ny106.out] at ho17))
  have n_ := y7 (Kd.Bu (zR HO_106000.out) (Kd.Bs ho17) hb) (Kd.Bk (Kd.Bt ho17 (Kd.Cx (zR HO_106000.out))) (Di (w := w) (g := g) (row := none) (zK))) (zb BK101.out hb) (zb BK105.out hb) (Af.below (zI) hb) (Av.trans (zK) (Av.of_below hb g none) (.inl rfl)) (Ab (zB) hb)
  clear HO_106000 BK101 BK105 HI0 HK HB
  obtain ⟨HO_106000, HO108, BK101, BK105, HI0, HK, HB⟩ := n_
  clear hb ho17
  obtain ⟨Ao18, co18, eo18⟩ := Kd.Bb HO108.out
  (first | subst eo18 | (injection eo18 with f1_ f2_ f3_; have f4_ := f1_.symm; have f5_ := f3_.symm; clear f1_ f2_ f3_; subst f4_; subst f5_))
  refine hK.out _ _ ((Au BK105.out 0).trans rfl) (fun hHeld => ?_)
  clear hK K
  refine nT 18 ?_
  refine Fk (i := 5) (N := some 19) #[true,true,true,true,true,true,false,false,false,false,false,false] rfl rfl (Db HT_.out zk) (by decide) (fun K hK => ?_)
  refine Ff Tryz.func52 zk rfl #[.pointer (some ⟨g, 0, none⟩), .slice Ao18 y106.length co18] (by rfl) rfl rfl zA ?_
  with_reducible refine (Co.calls g s0_0 x1001_1 x1002_1 _ _ y106 t109 t110 t111 w0 _ ?side1 ?side2 ?side3 ?side4 ?side5 A12.out).mono ?_
  (case side1 => exact zI)
  (case side2 => exact zB)
  (case side3 => exact zC (Kd.Ae HO108.out).2.2)
  (case side4 => exact (Kd.Ae HO108.out).2.1)
  (case side5 => exact Gx (Af.Gd HI0.out HO108.out (by decide)))
  rintro e w19 ⟨rfl, hi, hb, hk⟩
  refine ⟨_, rfl, ?_⟩
  have n_ := y7 (Kd.Ai (Kd.Cz (Af.apart (show Af w0 _ g s0_0 x1001_1 x1002_1 from zI) (zR HO_106000.out) (by decide)) hk (fun _ h => h.2)) (fun _ h => h.1)) (zW BK101.out hk NB101_0.out) (zW BK105.out hk NB105_0.out) (Kd.Ai (Kd.Cz (Af.apart (show Af w0 _ g s0_0 x1001_1 x1002_1 from zI) (zR HO108.out) (by decide)) hk (fun _ h => h.2)) (fun _ h => h.1)) (Av.trans (zK) hk (.inl rfl)) (hb) (hi)
  clear HO_106000 BK101 BK105 HO108 HK HB HI0
  obtain ⟨HO_106000, BK101, BK105, HO108, HK, HB, HI0⟩ := n_
  try clear hi hb hk
  refine hK.out _ _ ((Au BK105.out 0).trans rfl) (fun hHeld => ?_)
  clear hK K
  refine nT 19 ?_
  refine Fk (i := 6) (N := some 20) #[true,true,true,true,true,true,true,false,false,false,false,false] rfl rfl (Db HT_.out zk) (by decide) (fun K hK => ?_)
  refine Ff Tryz.func29 zk rfl #[.pointer (some ⟨g, 0, none⟩), .int .i64 t109] (by rfl) rfl rfl zA ?_
  with_reducible refine (Bf.calls g s0_0 t110 t111 t109 t112 t113 t114 w0 _ ?side1 ?side2 A13.out).mono ?_
  (case side1 => exact zI)
  (case side2 => exact zB)
  rintro e w20 ⟨rfl, hi, hb, hk⟩
  refine ⟨_, rfl, ?_⟩
  have n_ := y7 (Kd.Ai (Kd.Cz (Af.apart (show Af w0 _ g s0_0 t110 t111 from zI) (zR HO_106000.out) (by decide)) hk (fun _ h => h.2)) (fun _ h => h.1)) (zW BK101.out hk NB101_0.out) (zW BK105.out hk NB105_0.out) (Kd.Ai (Kd.Cz (Af.apart (show Af w0 _ g s0_0 t110 t111 from zI) (zR HO108.out) (by decide)) hk (fun _ h => h.2)) (fun _ h => h.1)) (Av.trans (zK) hk (.inl rfl)) (hb) (hi)
  clear HO_106000 BK101 BK105 HO108 HK HB HI0
  obtain ⟨HO_106000, BK101, BK105, HO108, HK, HB, HI0⟩ := n_
  try clear hi hb hk
  refine hK.out _ _ ((Au BK105.out 0).trans rfl) (fun hHeld => ?_)
  clear hK K
  refine nT 20 ?_
  refine pT 7 21 HT_ ?_
  refine Fk (i := 8) (N := some 22) #[true,true,true,true,true,true,true,true,true,false,false,false] rfl rfl (Db HT_.out zk) (by decide) (fun K hK => ?_)
  refine Xm (w1 := ?_) (v := ?_) (by rfl) rfl ?_ ?_
  rotate_left 2
  ·
   go_simp
   constructor
   · rfl
   rfl
  refine hK.out _ _ ((Au (Ak BK105.out _) 0).trans rfl) (fun hHeld => ?_)
  clear hK K
  refine nT 22 ?_
  refine Fk (i := 9) (N := some 23) #[true,true,true,true,true,true,true,true,true,true,false,false] rfl rfl (Db HT_.out zk) (by decide) (fun K hK => ?_)
  refine Kd.Mj (Kd.int .i64) w.heap.size (by rfl) (.tmp 15) (.tmp 22) 24 2 (.int .i64 0) 8 rfl Tryz.underlying24 Gb rfl (by decide) (by omega) u106000 x106000_1 (wrap64 (1 + t112)) [.int .i64 (wrap64 (1 + t112))] (fun k_ => some k_ ≠ (.slice Ao18 y106.length co18 : Value).ownBlock) (fun _ => False) rfl rfl ?aP (fun _ hk => hk.elim) ?aF ?aO (Below.refl _ _) ?aS ?aL ?_
  (case aP => exact rfl)
  (case aF => exact (fun k_ hk => Kd.fresh' (Kd.Cx (zR HO108.out)) k_ hk))
  (case aO => exact (by refine zR ?_; exact Kd.Ai HO_106000.out (fun _ hk => hk.2)))
  (case aS => exact (Di (w := w) (g := g) (row := none) (zK)))
  (case aL => have := LMc14.out; omega)
  intro v116 w21 ho hb hg hat
  rw [← Ny115.out] at ho
  have n_ := y7 (Cm (g := gb101) (o := .cells #[.slice none 0 0] 26 (0, 0)) (zG BK101.out) hg (Kd.Em HO_106000.out BK101.out (by decide))) (Cm (g := gb105) (o := .cells #[u106000] 26 (0, 0)) (zG BK105.out) hg (Kd.Em HO_106000.out BK105.out (by decide))) (Af.grown (zI) hg (Af.Gd HI0.out HO_106000.out (by decide))) (Kd.Cp (ok := (fun _ => True)) (zR HO108.out) hg hat) (Lf (zB) HL.out hb) (Av.trans (zK) (Av.of_grown hg g) (Kd.Pb HO_106000.out)) (ho)
  clear BK101 BK105 HI0 HO108 HB HK HO_106000
  obtain ⟨BK101, BK105, HI0, HO108, HB, HK, HO117⟩ := n_
  clear ho hb hg hat
  obtain ⟨Ao22, co22, eo22⟩ := Kd.Bb HO117.out
  (first | subst eo22 | (injection eo22 with f1_ f2_ f3_; have f4_ := f1_.symm; have f5_ := f3_.symm; clear f1_ f2_ f3_; subst f4_; subst f5_))
  refine hK.out _ _ ((Au BK105.out 0).trans rfl) (fun hHeld => ?_)
  clear hK K
  refine nT 23 ?_
  refine pT 10 24 HT_ ?_
  refine Ms (i := 11) (N := none) #[true,true,true,true,true,true,true,true,true,true,true,true] rfl rfl (Db HT_.out zk) (by decide) (fun K hK => ?_)
  have hs23 : w21.cell? ⟨gb105, 0, none⟩ = some (u106000) := (Au BK105.out 0).trans rfl
  have hfs23 := Fl BK105.out 0
  have hns23_0 := NB101_105.out
  have hms23_0 := NB105_101.out
  refine Lo (w1 := ?_) (by rfl) rfl ?_ ?_
  rotate_left
  ·
   go_simp
   rfl
  refine hK.out _ _ ?_
  clear hK K
  refine Gf (Fo HT_.out zk) ?_
  try go_wp2
  go_roundg k1
  case measure => have := HK1.out; omega
  case rel => exact ⟨(wrap64 (x6_1 + 1)), (t113), (t114), (y115), (.slice Ao22 y115.length co22), zF, H', ⟨by have := HK1.out; omega⟩, ⟨by refine zR ?_; exact Kd.Ai (Kd.Dv (p := ⟨gb105, 0, none⟩) (Kd.Cj HO117.out BK105.out (by decide)) (fun _ hk => hk.2) (.slice Ao22 y115.length co22)) (fun _ hk => trivial)⟩, ⟨by refine zG ?_; refine Ce ?_ NB101_105.out _; refine zG ?_; exact BK101.out⟩, ⟨by (with_reducible repeat (first | refine Am ?_ _ | refine Ag ?_ | refine Ak ?_ _)); refine Cl (cs := #[u106000]) ?_ 0 _ rfl; (with_reducible repeat (first | refine Am ?_ _ | refine Ag ?_ | refine Ak ?_ _)); exact BK105.out⟩, ⟨zI⟩, ⟨zK⟩, ⟨zB⟩⟩
def Du.f (k : Nat) (s0_0 : List Int) (s0_1 : Int) (s0_2 : Int) : Option (List Int × Int × Int) := (Bf.f s0_0 s0_1 s0_2 2).bind fun bt102 => (if bt102.1 = 0 then ((Ah.f k s0_0 bt102.2.1 bt102.2.2).bind fun bt105 => (some (bt105.1, bt105.2.2.1, bt105.2.2.2))) else ((Co.f s0_0 bt102.2.1 bt102.2.2 (([3, 5, 8] : List Int))).bind fun bt117 => ((Bf.f s0_0 bt117.2.1 bt117.2.2 bt117.1).bind fun bt120 => ((Bx.f k s0_0 bt120.2.1 bt120.2.2 (wrap64 (1 + bt120.1))).bind fun bt123 => (some (bt123.1, bt123.2.1, bt123.2.2))))))
theorem Du.mono : ∀ a0 a1 a2 k, LeO (Du.f k a0 a1 a2) (Du.f (k + 1) a0 a1 a2) := by
 intro a0 a1 a2 k
 unfold Du.f
 repeat' first | (with_reducible first | exact Bx.mono _ _ _ _ _ | exact Ah.mono _ _ _ _ | exact LeO.refl _ | exact LeO.none _ | refine LeO.ite ?_ ?_ | refine LeO.bind ?_ (fun _ => ?_)) | exact Bx.mono _ _ _ _ _ | exact Ah.mono _ _ _ _ | exact LeO.none _ | refine LeO.ite ?_ ?_ | refine LeO.bind ?_ (fun _ => ?_)
theorem Du.calls (k : Nat) (g : Nat) (s0_0 : List Int) (s0_1 : Int) (s0_2 : Int) (r1 : List Int) (r2 : Int) (r3 : Int) (w0 w : World) (hI : Af w0 w g s0_0 s0_1 s0_2) (hB : Below w0.heap.size w0 w) (h : Du.f k s0_0 s0_1 s0_2 = some (r1, r2, r3)) :
    Calls Tryz.prog 26 #[.pointer (some ⟨g, 0, none⟩)] w fun e w' => ∃ v0_ : Value, e = .returned (.agg #[v0_]) ∧ Kd.R (Kd.int .i64) 2 w' w.heap.size (fun _ => True) v0_ r1 ∧ Af w0 w' g s0_0 r2 r3 ∧ Below w0.heap.size w0 w' ∧ Av w w' g none := by
 have hu26 := Tryz.underlying26
 have HI0 := Aa.mk hI
 have HK := Aa.mk (Av.refl w g none)
 have HL := Aa.mk hB.size
 clear hI
 have HW0 := Aa.mk hB.size
 have HB := Aa.mk hB
 clear hB
 have H := h
 clear h
 unfold Du.f at H
 obtain ⟨⟨t102, t103, t104⟩, A2, H⟩ := zO H
 try dsimp only at H
 by_cases c3 : t102 = 0
 ·
  rw [if_pos c3] at H
  have c3b0 : (t102 == 0) = true := beq_iff_eq.mpr c3
  have c3b1 : (t102 != 0) = false := bne_eq_false_iff_eq.mpr c3
  clear c3
  obtain ⟨⟨t105, t108, t111, t112⟩, A4, H⟩ := zO H
  try dsimp only at H
  simp only [Option.some.injEq, Prod.mk.injEq] at H
  obtain ⟨rfl, rfl, rfl⟩ := H
  go_enter Tryz.func26, Tryz.ntmps26
  go_wp2_with (first | ((with_reducible refine Ay (N := 2) rfl ?_); refine Be zr (N := 2) zr (cs := #[.slice none 0 0]) (t := 26) zg ?_; intro gb101 hg w5 hbox hb; have n_ := y8 (Af.below (zI) hb) (Av.trans (zK) (Av.of_below hb g none) (.inl rfl)) (Ab (zB) hb) (hbox) ((by rw [hg]; exact (Di (w := w) (g := g) (row := none) (zK)) : w.heap.size ≤ gb101)) ((Nat.le_trans HW0.out (by rw [hg]; exact (Di (w := w) (g := g) (row := none) (zK)) : w.heap.size ≤ gb101) : w0.heap.size ≤ gb101)) ((by rw [hg]; exact Nat.ne_of_lt (Af.lt (show Af w0 _ g s0_0 s0_1 s0_2 from zI)) : g ≠ gb101)) ((by rw [hg]; exact Nat.ne_of_gt (Af.lt (show Af w0 _ g s0_0 s0_1 s0_2 from zI)) : gb101 ≠ g)); clear HI0 HK HB; obtain ⟨HI0, HK, HB, BK101, GW101, GE101, NB0_101, NB101_0⟩ := n_; clear hb hbox hg) | (refine gK 29 ?_; refine gL 6 Tryz.func29 #[.pointer (some ⟨g, 0, none⟩), .int .i64 2] ?_; (with_reducible refine (Bf.calls g s0_0 s0_1 s0_2 2 t102 t103 t104 w0 _ ?side1 ?side2 A2.out).mono ?_); (case side1 => exact zI); (case side2 => exact zB); rintro e w6 ⟨rfl, hi, hb, hk⟩; refine ⟨_, rfl, ?_⟩; have n_ := y4 (zW BK101.out hk NB101_0.out) (Av.trans (zK) hk (.inl rfl)) (hb) (hi); clear BK101 HK HB HI0; obtain ⟨BK101, HK, HB, HI0⟩ := n_; (try clear hi hb hk)) | (refine gK 51 ?_; refine gL 10 Tryz.func51 #[.pointer (some ⟨g, 0, none⟩)] ?_; (with_reducible refine (Ah.calls k g s0_0 t103 t104 t105 t108 t111 t112 w0 _ ?side1 ?side2 A4.out).mono ?_); (case side1 => exact zI); (case side2 => exact zB); rintro e w7 ⟨v106, v109, rfl, ho0, ho1, hi, hb, hk⟩; refine ⟨_, rfl, ?_⟩; have n_ := y6 (zW BK101.out hk NB101_0.out) (Kd.Bk ho0 (Di (w := w) (g := g) (row := none) (zK))) (Kd.Bk ho1 (Di (w := w) (g := g) (row := none) (zK))) (Av.trans (zK) hk (.inl rfl)) (hb) (hi); clear BK101 HK HB HI0; obtain ⟨BK101, HO107, HO110, HK, HB, HI0⟩ := n_; (try clear ho0 ho1 hi hb hk)) | ((with_reducible refine Ay (N := 3) rfl ?_); refine Be zr (N := 3) zr (cs := #[.slice none 0 0]) (t := 26) zg ?_; intro gb113 hg w8 hbox hb; have n_ := y13 (Kd.Ap (zR HO107.out) hb) (Kd.Ap (zR HO110.out) hb) (Af.below (zI) hb) (zb BK101.out hb) (Av.trans (zK) (Av.of_below hb g none) (.inl rfl)) (Ab (zB) hb) (hbox) ((by rw [hg]; exact (Di (w := w) (g := g) (row := none) (zK)) : w.heap.size ≤ gb113)) ((Nat.le_trans HW0.out (by rw [hg]; exact (Di (w := w) (g := g) (row := none) (zK)) : w.heap.size ≤ gb113) : w0.heap.size ≤ gb113)) ((zL hg BK101.out : gb101 ≠ gb113)) ((zM hg BK101.out : gb113 ≠ gb101)) ((by rw [hg]; exact Nat.ne_of_lt (Af.lt (show Af w0 _ g s0_0 t111 t112 from zI)) : g ≠ gb113)) ((by rw [hg]; exact Nat.ne_of_gt (Af.lt (show Af w0 _ g s0_0 t111 t112 from zI)) : gb113 ≠ g)); clear HO107 HO110 HI0 BK101 HK HB; obtain ⟨HO107, HO110, HI0, BK101, HK, HB, BK113, GW113, GE113, NB101_113, NB113_101, NB0_113, NB113_0⟩ := n_; clear hb hbox hg; obtain ⟨Ao9, co9, eo9⟩ := Kd.Bb HO107.out; subst eo9; have hnb10 := NB113_101.out; have hnc10 := NB101_113.out; have hnb11 := NB113_0.out; have hnc11 := NB0_113.out; obtain ⟨hcz12_0, hfz12_0⟩ := zw BK113.out; have hnb13 := NB101_0.out; have hnc13 := NB0_101.out; obtain ⟨hcz14_0, hfz14_0⟩ := zw BK101.out))
  refine bodyPost_ret (results_cell_row rfl _ _ gb101 26 #[.slice Ao9 t105.length co9] (0, 0) _ rfl (by (with_reducible repeat (first | refine Am ?_ _ | refine Ag ?_ | refine Ak ?_ _)); refine Cl (cs := #[.slice none 0 0]) ?_ 0 _ rfl; (with_reducible repeat (first | refine Am ?_ _ | refine Ag ?_ | refine Ak ?_ _)); refine Ce ?_ NB101_113.out _; refine zG ?_; exact BK101.out) Tryz.underlying26 rfl zk) rfl ?_
  exact ⟨_, zE, by refine zR ?_; exact Kd.Ai (Kd.Dv (p := ⟨gb101, 0, none⟩) (Kd.Dv (p := ⟨gb113, 0, none⟩) (Kd.Cj (Kd.Cj HO107.out BK113.out (by decide)) BK101.out (by decide)) (fun _ hk => hk.1.2) (.slice Ao9 t105.length co9)) (fun _ hk => hk.2) (.slice Ao9 t105.length co9)) (fun _ hk => trivial), zI, zB, zK⟩
 rw [if_neg c3] at H
 have c3b0 : (t102 == 0) = false := beq_eq_false_iff_ne.mpr c3
 have c3b1 : (t102 != 0) = true := bne_iff_ne.mpr c3
 obtain ⟨y114, hy114⟩ : ∃ y_ : List Int, y_ = (([3, 5, 8] : List Int)) := ⟨_, rfl⟩
 replace H : ((Co.f s0_0 t103 t104 y114).bind fun bt117 => ((Bf.f s0_0 bt117.2.1 bt117.2.2 bt117.1).bind fun bt120 => ((Bx.f k s0_0 bt120.2.1 bt120.2.2 (wrap64 (1 + bt120.1))).bind fun bt123 => (some (bt123.1, bt123.2.1, bt123.2.2))))) = some (r1, r2, r3) := zH hy114
 have Ny114 := Aa.mk hy114
 clear hy114
 obtain ⟨⟨t117, t118, t119⟩, A15, H⟩ := zO H
 try dsimp only at H
 obtain ⟨⟨t120, t121, t122⟩, A16, H⟩ := zO H
 try dsimp only at H
 obtain ⟨⟨t123, t126, t127⟩, A17, H⟩ := zO H
 try dsimp only at H
 simp only [Option.some.injEq, Prod.mk.injEq] at H
 obtain ⟨rfl, rfl, rfl⟩ := H
 go_enter Tryz.func26, Tryz.ntmps26
 go_wp2_with (first | ((with_reducible refine Ay (N := 2) rfl ?_); refine Be zr (N := 2) zr (cs := #[.slice none 0 0]) (t := 26) zg ?_; intro gb101 hg w18 hbox hb; have n_ := y8 (Af.below (zI) hb) (Av.trans (zK) (Av.of_below hb g none) (.inl rfl)) (Ab (zB) hb) (hbox) ((by rw [hg]; exact (Di (w := w) (g := g) (row := none) (zK)) : w.heap.size ≤ gb101)) ((Nat.le_trans HW0.out (by rw [hg]; exact (Di (w := w) (g := g) (row := none) (zK)) : w.heap.size ≤ gb101) : w0.heap.size ≤ gb101)) ((by rw [hg]; exact Nat.ne_of_lt (Af.lt (show Af w0 _ g s0_0 s0_1 s0_2 from zI)) : g ≠ gb101)) ((by rw [hg]; exact Nat.ne_of_gt (Af.lt (show Af w0 _ g s0_0 s0_1 s0_2 from zI)) : gb101 ≠ g)); clear HI0 HK HB; obtain ⟨HI0, HK, HB, BK101, GW101, GE101, NB0_101, NB101_0⟩ := n_; clear hb hbox hg) | (refine gK 29 ?_; refine gL 6 Tryz.func29 #[.pointer (some ⟨g, 0, none⟩), .int .i64 2] ?_; (with_reducible refine (Bf.calls g s0_0 s0_1 s0_2 2 t102 t103 t104 w0 _ ?side1 ?side2 A2.out).mono ?_); (case side1 => exact zI); (case side2 => exact zB); rintro e w19 ⟨rfl, hi, hb, hk⟩; refine ⟨_, rfl, ?_⟩; have n_ := y4 (zW BK101.out hk NB101_0.out) (Av.trans (zK) hk (.inl rfl)) (hb) (hi); clear BK101 HK HB HI0; obtain ⟨BK101, HK, HB, HI0⟩ := n_; (try clear hi hb hk)) | ((with_reducible refine Ay (N := 17) rfl ?_); refine Kd.Kv (Kd.int .i64) _ 2 ?hg (N := 17) ?hd (xs := ([3, 5, 8] : List Int)) (inner := [.int .i64 3, .int .i64 5, .int .i64 8]) (ok := fun _ => True) (okp := fun _ => True) ?hr ?hp (fun _ hk => hk) trivial (Below.refl _ _) (Nat.le_refl _) (by simp) ?_; (case hd => rfl); (case hg => rfl); (case hr => first | (go_simp; done) | (go_simp; rfl)); (case hp => exact (Dk.one (show Kd.M (Kd.int .i64) _ _ _ 3 [.int .i64 3] from rfl) (Dk.one (show Kd.M (Kd.int .i64) _ _ _ 5 [.int .i64 5] from rfl) (Dk.one (show Kd.M (Kd.int .i64) _ _ _ 8 [.int .i64 8] from rfl) (Dk.none _ _))))); intro v115 w20 ho21 hb hg_ hnew_; clear hg_ hnew_; (first | rw [← Ny114.out] at ho21 | (simp only [Int.reduceToNat] at ho21; rw [← Ny114.out] at ho21)); have n_ := y5 (Kd.Bk ho21 (Di (w := w) (g := g) (row := none) (zK))) (Af.below (zI) hb) (zb BK101.out hb) (Av.trans (zK) (Av.of_below hb g none) (.inl rfl)) (Ab (zB) hb); clear HI0 BK101 HK HB; obtain ⟨HO116, HI0, BK101, HK, HB⟩ := n_; clear hb ho21; obtain ⟨Ao22, co22, eo22⟩ := Kd.Bb HO116.out; subst eo22) | (refine gK 52 ?_; refine gL 18 Tryz.func52 #[.pointer (some ⟨g, 0, none⟩), .slice Ao22 y114.length co22] ?_; (with_reducible refine (Co.calls g s0_0 t103 t104 _ _ y114 t117 t118 t119 w0 _ ?side1 ?side2 ?side3 ?side4 ?side5 A15.out).mono ?_); (case side1 => exact zI); (case side2 => exact zB); (case side3 => exact zC (Kd.Ae HO116.out).2.2); (case side4 => exact (Kd.Ae HO116.out).2.1); (case side5 => exact Gx (Af.Gd HI0.out HO116.out (by decide))); rintro e w23 ⟨rfl, hi, hb, hk⟩; refine ⟨_, rfl, ?_⟩; have n_ := y5 (zW BK101.out hk NB101_0.out) (Kd.Ai (Kd.Cz (Af.apart (show Af w0 _ g s0_0 t103 t104 from zI) (zR HO116.out) (by decide)) hk (fun _ h => h.2)) (fun _ h => h.1)) (Av.trans (zK) hk (.inl rfl)) (hb) (hi); clear BK101 HO116 HK HB HI0; obtain ⟨BK101, HO116, HK, HB, HI0⟩ := n_; (try clear hi hb hk)) | (refine gK 29 ?_; refine gL 19 Tryz.func29 #[.pointer (some ⟨g, 0, none⟩), .int .i64 t117] ?_; (with_reducible refine (Bf.calls g s0_0 t118 t119 t117 t120 t121 t122 w0 _ ?side1 ?side2 A16.out).mono ?_); (case side1 => exact zI); (case side2 => exact zB); rintro e w24 ⟨rfl, hi, hb, hk⟩; refine ⟨_, rfl, ?_⟩; have n_ := y5 (zW BK101.out hk NB101_0.out) (Kd.Ai (Kd.Cz (Af.apart (show Af w0 _ g s0_0 t118 t119 from zI) (zR HO116.out) (by decide)) hk (fun _ h => h.2)) (fun _ h => h.1)) (Av.trans (zK) hk (.inl rfl)) (hb) (hi); clear BK101 HO116 HK HB HI0; obtain ⟨BK101, HO116, HK, HB, HI0⟩ := n_; (try clear hi hb hk)) | (refine gK 70 ?_; refine gL 21 Tryz.func70 #[.pointer (some ⟨g, 0, none⟩), .int .i64 (wrap64 (1 + t120))] ?_; (with_reducible refine (Bx.calls k g s0_0 t121 t122 (wrap64 (1 + t120)) t123 t126 t127 w0 _ ?side1 ?side2 A17.out).mono ?_); (case side1 => exact zI); (case side2 => exact zB); rintro e w25 ⟨v124, rfl, ho0, hi, hb, hk⟩; refine ⟨_, rfl, ?_⟩; have n_ := y6 (zW BK101.out hk NB101_0.out) (Kd.Ai (Kd.Ez (Kd.No (Af.apart (show Af w0 _ g s0_0 t121 t122 from zI) (zR HO116.out) (by decide)) hk) (Kd.Bs ho0)) (fun _ h_ => h_.1)) (Kd.Bk (Kd.Bt ho0 (Kd.Cx (zR HO116.out))) (Di (w := w) (g := g) (row := none) (zK))) (Av.trans (zK) hk (.inl rfl)) (hb) (hi); clear BK101 HO116 HK HB HI0; obtain ⟨BK101, HO116, HO125, HK, HB, HI0⟩ := n_; (try clear ho0 hi hb hk); obtain ⟨Ao26, co26, eo26⟩ := Kd.Bb HO125.out; subst eo26; have hnb27 := NB101_0.out; have hnc27 := NB0_101.out; obtain ⟨hcz28_0, hfz28_0⟩ := zw BK101.out))
 refine bodyPost_ret (results_cell_row rfl _ _ gb101 26 #[.slice Ao26 t123.length co26] (0, 0) _ rfl (by (with_reducible repeat (first | refine Am ?_ _ | refine Ag ?_ | refine Ak ?_ _)); refine Cl (cs := #[.slice none 0 0]) ?_ 0 _ rfl; (with_reducible repeat (first | refine Am ?_ _ | refine Ag ?_ | refine Ak ?_ _)); exact BK101.out) Tryz.underlying26 rfl zk) rfl ?_
 exact ⟨_, zE, by refine zR ?_; exact Kd.Ai (Kd.Dv (p := ⟨gb101, 0, none⟩) (Kd.Cj HO125.out BK101.out (by decide)) (fun _ hk => hk.2) (.slice Ao26 t123.length co26)) (fun _ hk => trivial), zI, zB, zK⟩
def El.f (s0_0 : List Int) (s0_1 : Int) (s0_2 : Int) (a1 : Int) : Option (Int × Int × Int) := (Bf.f s0_0 s0_1 s0_2 14).bind fun bt101 => (if bt101.1 = 0 then ((Co.f s0_0 bt101.2.1 bt101.2.2 (([(-1), wrap64 (a1 + 1), 1099511627776, (-4611686018427387904)] : List Int))).bind fun bt107 => (some (bt107.1, bt107.2.1, bt107.2.2))) else ((Bf.f s0_0 bt101.2.1 bt101.2.2 (wrap64 (a1 + 1))).bind fun bt110 => (some (bt110.1, bt110.2.1, bt110.2.2))))
theorem El.calls (g : Nat) (s0_0 : List Int) (s0_1 : Int) (s0_2 : Int) (a1 : Int) (r1 : Int) (r2 : Int) (r3 : Int) (w0 w : World) (hI : Af w0 w g s0_0 s0_1 s0_2) (hB : Below w0.heap.size w0 w) (h : El.f s0_0 s0_1 s0_2 a1 = some (r1, r2, r3)) :
    Calls Tryz.prog 27 #[.pointer (some ⟨g, 0, none⟩), .int .i64 a1] w fun e w' => e = .returned (.int .i64 r1) ∧ Af w0 w' g s0_0 r2 r3 ∧ Below w0.heap.size w0 w' ∧ Av w w' g none := by
 have HI0 := Aa.mk hI
 have HK := Aa.mk (Av.refl w g none)
 have HL := Aa.mk hB.size
 clear hI
 have HW0 := Aa.mk hB.size
 have HB := Aa.mk hB
 clear hB
 have H := h
 clear h
 unfold El.f at H
 obtain ⟨⟨t101, t102, t103⟩, A3, H⟩ := zO H
 try dsimp only at H
 by_cases c4 : t101 = 0
 ·
  rw [if_pos c4] at H
  have c4b0 : (t101 == 0) = true := beq_iff_eq.mpr c4
  have c4b1 : (t101 != 0) = false := bne_eq_false_iff_eq.mpr c4
  clear c4
  obtain ⟨y104, hy104⟩ : ∃ y_ : List Int, y_ = (([(-1), wrap64 (a1 + 1), 1099511627776, (-4611686018427387904)] : List Int)) := ⟨_, rfl⟩
  replace H : ((Co.f s0_0 t102 t103 y104).bind fun bt107 => (some (bt107.1, bt107.2.1, bt107.2.2))) = some (r1, r2, r3) := zH hy104
  have Ny104 := Aa.mk hy104
  clear hy104
  obtain ⟨⟨t107, t108, t109⟩, A5, H⟩ := zO H
  try dsimp only at H
  simp only [Option.some.injEq, Prod.mk.injEq] at H
  obtain ⟨rfl, rfl, rfl⟩ := H
  go_enter Tryz.func27, Tryz.ntmps27
  go_wp2_with (first | (refine gK 29 ?_; refine gL 6 Tryz.func29 #[.pointer (some ⟨g, 0, none⟩), .int .i64 14] ?_; (with_reducible refine (Bf.calls g s0_0 s0_1 s0_2 14 t101 t102 t103 w0 _ ?side1 ?side2 A3.out).mono ?_); (case side1 => exact zI); (case side2 => exact zB); rintro e w6 ⟨rfl, hi, hb, hk⟩; refine ⟨_, rfl, ?_⟩; have n_ := y3 (Av.trans (zK) hk (.inl rfl)) (hb) (hi); clear HK HB HI0; obtain ⟨HK, HB, HI0⟩ := n_; (try clear hi hb hk)) | ((with_reducible refine Ay (N := 11) rfl ?_); refine Kd.Kv (Kd.int .i64) _ 2 ?hg (N := 11) ?hd (xs := ([(-1), wrap64 (a1 + 1), 1099511627776, (-4611686018427387904)] : List Int)) (inner := [.int .i64 (-1), .int .i64 (wrap64 (a1 + 1)), .int .i64 1099511627776, .int .i64 (-4611686018427387904)]) (ok := fun _ => True) (okp := fun _ => True) ?hr ?hp (fun _ hk => hk) trivial (Below.refl _ _) (Nat.le_refl _) (by simp) ?_; (case hd => rfl); (case hg => rfl); (case hr => first | (go_simp; done) | (go_simp; rfl)); (case hp => exact (Dk.one (show Kd.M (Kd.int .i64) _ _ _ (-1) [.int .i64 (-1)] from rfl) (Dk.one (show Kd.M (Kd.int .i64) _ _ _ (wrap64 (a1 + 1)) [.int .i64 (wrap64 (a1 + 1))] from rfl) (Dk.one (show Kd.M (Kd.int .i64) _ _ _ 1099511627776 [.int .i64 1099511627776] from rfl) (Dk.one (show Kd.M (Kd.int .i64) _ _ _ (-4611686018427387904) [.int .i64 (-4611686018427387904)] from rfl) (Dk.none _ _)))))); intro v105 w7 ho8 hb hg_ hnew_; clear hg_ hnew_; (first | rw [← Ny104.out] at ho8 | (simp only [Int.reduceToNat] at ho8; rw [← Ny104.out] at ho8)); have n_ := y4 (Kd.Bk ho8 (Di (w := w) (g := g) (row := none) (zK))) (Af.below (zI) hb) (Av.trans (zK) (Av.of_below hb g none) (.inl rfl)) (Ab (zB) hb); clear HI0 HK HB; obtain ⟨HO106, HI0, HK, HB⟩ := n_; clear hb ho8; obtain ⟨Ao9, co9, eo9⟩ := Kd.Bb HO106.out; subst eo9) | (refine gK 52 ?_; refine gL 12 Tryz.func52 #[.pointer (some ⟨g, 0, none⟩), .slice Ao9 y104.length co9] ?_; (with_reducible refine (Co.calls g s0_0 t102 t103 _ _ y104 t107 t108 t109 w0 _ ?side1 ?side2 ?side3 ?side4 ?side5 A5.out).mono ?_); (case side1 => exact zI); (case side2 => exact zB); (case side3 => exact zC (Kd.Ae HO106.out).2.2); (case side4 => exact (Kd.Ae HO106.out).2.1); (case side5 => exact Gx (Af.Gd HI0.out HO106.out (by decide))); rintro e w10 ⟨rfl, hi, hb, hk⟩; refine ⟨_, rfl, ?_⟩; have n_ := y4 (Kd.Ai (Kd.Cz (Af.apart (show Af w0 _ g s0_0 t102 t103 from zI) (zR HO106.out) (by decide)) hk (fun _ h => h.2)) (fun _ h => h.1)) (Av.trans (zK) hk (.inl rfl)) (hb) (hi); clear HO106 HK HB HI0; obtain ⟨HO106, HK, HB, HI0⟩ := n_; (try clear hi hb hk)))
  go_ret
  exact ⟨zE, zI, zB, zK⟩
 rw [if_neg c4] at H
 have c4b0 : (t101 == 0) = false := beq_eq_false_iff_ne.mpr c4
 have c4b1 : (t101 != 0) = true := bne_iff_ne.mpr c4
 obtain ⟨⟨t110, t111, t112⟩, A11, H⟩ := zO H
 try dsimp only at H
 simp only [Option.some.injEq, Prod.mk.injEq] at H
 obtain ⟨rfl, rfl, rfl⟩ := H
 go_enter Tryz.func27, Tryz.ntmps27
 go_wp2_with (first | (refine gK 29 ?_; refine gL 6 Tryz.func29 #[.pointer (some ⟨g, 0, none⟩), .int .i64 14] ?_; (with_reducible refine (Bf.calls g s0_0 s0_1 s0_2 14 t101 t102 t103 w0 _ ?side1 ?side2 A3.out).mono ?_); (case side1 => exact zI); (case side2 => exact zB); rintro e w12 ⟨rfl, hi, hb, hk⟩; refine ⟨_, rfl, ?_⟩; have n_ := y3 (Av.trans (zK) hk (.inl rfl)) (hb) (hi); clear HK HB HI0; obtain ⟨HK, HB, HI0⟩ := n_; (try clear hi hb hk)) | (refine gK 29 ?_; refine gL 16 Tryz.func29 #[.pointer (some ⟨g, 0, none⟩), .int .i64 (wrap64 (a1 + 1))] ?_; (with_reducible refine (Bf.calls g s0_0 t102 t103 (wrap64 (a1 + 1)) t110 t111 t112 w0 _ ?side1 ?side2 A11.out).mono ?_); (case side1 => exact zI); (case side2 => exact zB); rintro e w13 ⟨rfl, hi, hb, hk⟩; refine ⟨_, rfl, ?_⟩; have n_ := y3 (Av.trans (zK) hk (.inl rfl)) (hb) (hi); clear HK HB HI0; obtain ⟨HK, HB, HI0⟩ := n_; (try clear hi hb hk)))
 go_ret
 exact ⟨zE, zI, zB, zK⟩
def Dt.f (l0_0 : List Int) : Option (Int) := some (l0_0.length : Int)
theorem Dt.calls (A0_0 : Option Addr) (c0_0 : Nat) (l0_0 : List Int) (r : Int) (w : World) (hr0_0 : Kd.C (Kd.int .i64) w A0_0 l0_0.length l0_0) (hc0_0 : l0_0.length ≤ c0_0) (h : Dt.f l0_0 = some r) :
    Calls Tryz.prog 28 #[.agg #[.slice A0_0 l0_0.length c0_0]] w fun e w' => e = .returned (.int .i64 r) ∧ Below w.heap.size w w' := by
 have hu26 := Tryz.underlying26
 have HR0_0 := Aa.mk hr0_0
 have HC0_0 := Aa.mk hc0_0
 clear hr0_0 hc0_0
 have HB := Aa.mk (Below.refl w.heap.size w)
 have H := h
 clear h
 unfold Dt.f at H
 obtain rfl := Option.some.inj H
 go_enter Tryz.func28, Tryz.ntmps28
 go_wp2_with (first | ((with_reducible refine Ay (N := 1) rfl ?_); refine Be zr (N := 1) zr (cs := #[.slice A0_0 l0_0.length c0_0]) (t := 26) zg ?_; intro gb101 hg w2 hbox hb; have n_ := y4 (Ab (zB) hb) (hbox) ((zS hg : w.heap.size ≤ gb101)) ((zS hg : w.heap.size ≤ gb101)); clear HB; obtain ⟨HB, BK101, GW101, GE101⟩ := n_; clear hb hbox hg; obtain ⟨hcz3_0, hfz3_0⟩ := zw BK101.out))
 go_ret
 exact ⟨zE, zB⟩
def Fc.f (l0 : List Int) : Option (List Int) := (some (([] : List Int) : List Int)).bind fun y101 => (if y101.length + l0.length < 17592186044416 then (some (y101 ++ l0)) else (none))
theorem Fc.calls (A0 : Option Addr) (c0 : Nat) (l0 : List Int) (r : List Int) (w : World) (hr0 : Kd.C (Kd.int .i64) w A0 l0.length l0) (hc0 : l0.length ≤ c0) (h : Fc.f l0 = some r) :
    Calls Tryz.prog 37 #[.slice A0 l0.length c0] w fun e w' => ∃ v0_ : Value, e = .returned (v0_) ∧ Kd.R (Kd.int .i64) 2 w' w.heap.size (fun _ => True) v0_ r ∧ Below w.heap.size w w' := by
 have HR0 := Aa.mk hr0
 have HC0 := Aa.mk hc0
 clear hr0 hc0
 have HB := Aa.mk (Below.refl w.heap.size w)
 have H := h
 clear h
 unfold Fc.f at H
 obtain ⟨y101, hy101, H⟩ := zY H
 try dsimp only at H
 have Ny101 := Aa.mk hy101
 clear hy101
 by_cases c2 : y101.length + l0.length < 17592186044416
 case neg => rw [if_neg c2] at H; exact absurd H (by simp)
 rw [if_pos c2] at H
 have LMc2 := Aa.mk c2
 clear c2
 obtain ⟨y104, hy104⟩ : ∃ y_ : List Int, y_ = (y101 ++ l0) := ⟨_, rfl⟩
 replace H : (some y104) = some r := zH hy104
 have Ny104 := Aa.mk hy104
 clear hy104
 obtain rfl := Option.some.inj H
 go_enter Tryz.func37, Tryz.ntmps37
 go_wp2_with (first | ((with_reducible refine Ay (N := 3) rfl ?_); refine Kd.Kv (Kd.int .i64) _ 2 ?hg (N := 3) ?hd (xs := ([] : List Int)) (inner := []) (ok := fun _ => True) (okp := fun _ => True) ?hr ?hp (fun _ hk => hk) trivial (Below.refl _ _) (Nat.le_refl _) (by simp) ?_; (case hd => rfl); (case hg => rfl); (case hr => first | (go_simp; done) | (go_simp; rfl)); (case hp => exact (Dk.none _ _)); intro v102 w3 ho4 hb hg_ hnew_; clear hg_ hnew_; (first | rw [← Ny101.out] at ho4 | (simp only [Int.reduceToNat] at ho4; rw [← Ny101.out] at ho4)); have n_ := y2 (Kd.Bk ho4 (An (zB))) (Ab (zB) hb); clear HB; obtain ⟨HO103, HB⟩ := n_; clear hb ho4) | ((with_reducible refine Dp (b := .append) (xs := #[.tmp 3, .tmp 4]) rfl ?_); at_builtin; refine Kd.Ln (Kd.int .i64) (w0 := w) w.heap.size rfl (.tmp 3) (.tmp 4) 24 2 (.int .i64 0) 8 rfl Tryz.underlying24 Gb rfl (by decide) (by omega) v102 y101 l0 _ _ _ (fun _ => True) (fun _ => False) rfl rfl ?aO ?aR (fun _ _ h => h) (fun _ h => h.elim) ?aF ?aB ?aS ?aL ?_; (case aR => repeat (first | exact (Kd.Bh HR0.out HB.out) | (with_reducible refine Kd.Fb ?_ _) | (with_reducible refine Kd.Fa ?_ _) | (with_reducible refine Kd.Fv ?_))); (case aB => exact (zB)); (case aF => exact (fun _ _ => trivial)); (case aO => exact (zR HO103.out)); (case aS => exact (An (zB))); (case aL => have := LMc2.out; omega); intro v105 w5 ho hb hg hat; rw [← Ny104.out] at ho; have n_ := y2 (hb) (ho); clear HB HO103; obtain ⟨HB, HO106⟩ := n_; clear ho hb hg hat))
 go_ret
 exact ⟨_, zE, zR HO106.out, zB⟩
def Bm.l0 : Nat → List Int → Int → Int → List Int → Option (List Int × Int × Int)
 | 0, _, _, _, _ => none
 | k + 1, x1000, x1001, x1002, x107000 => if (x107000.length : Int) ≤ 8 then (if x107000.length < 17592186044416 then (Bm.l0 k x1000 x1001 x1002 (x107000 ++ [9])) else (none)) else (some (x107000, x1001, x1002))
def Bm.f (k : Nat) (s0_0 : List Int) (s0_1 : Int) (s0_2 : Int) (l1_0 : List Int) : Option (List Int × Int × Int) := (Fc.f l1_0).bind fun t103 => ((Bf.f s0_0 s0_1 s0_2 50).bind fun bt107 => (if bt107.1 = 0 then (some (([] : List Int), bt107.2.1, bt107.2.2)) else (if bt107.1 = 1 then ((Dt.f l1_0).bind fun t110 => ((Bf.f s0_0 bt107.2.1 bt107.2.2 t110).bind fun bt111 => ((Co.f s0_0 bt111.2.1 bt111.2.2 (([0, 41, (-1), 1099511627776] : List Int))).bind fun bt117 => (if 0 ≤ bt111.1 then (if bt111.1 < (t103.length : Int) then (some ((t103.set (bt111.1 : Int).toNat bt117.1), bt117.2.1, bt117.2.2)) else (none)) else (none))))) else (if bt107.1 = 2 then (Bm.l0 k s0_0 bt107.2.1 bt107.2.2 t103) else (some (l1_0, bt107.2.1, bt107.2.2))))))
theorem Bm.mono_l : ∀ k, (∀ y0 y1 y2 y3, LeO (Bm.l0 k y0 y1 y2 y3) (Bm.l0 (k + 1) y0 y1 y2 y3))
 | 0 => fun _ _ _ _ r h => by simp [Bm.l0] at h
 | k + 1 => by
  have ih0 := Bm.mono_l k
  ·
   intro y0 y1 y2 y3
   unfold Bm.l0
   repeat' first | (with_reducible first | exact ih0 _ _ _ _ | exact LeO.refl _ | exact LeO.none _ | refine LeO.ite ?_ ?_ | refine LeO.bind ?_ (fun _ => ?_)) | exact ih0 _ _ _ _ | exact LeO.none _ | refine LeO.ite ?_ ?_ | refine LeO.bind ?_ (fun _ => ?_)
theorem Bm.mono : ∀ a0 a1 a2 a3 k, LeO (Bm.f k a0 a1 a2 a3) (Bm.f (k + 1) a0 a1 a2 a3) := by
 intro a0 a1 a2 a3 k
 have ih0 := Bm.mono_l k
 unfold Bm.f
 repeat' first | (with_reducible first | exact ih0 _ _ _ _ | exact LeO.refl _ | exact LeO.none _ | refine LeO.ite ?_ ?_ | refine LeO.bind ?_ (fun _ => ?_)) | exact ih0 _ _ _ _ | exact LeO.none _ | refine LeO.ite ?_ ?_ | refine LeO.bind ?_ (fun _ => ?_)
def Bm.T6 : Bool × List (List Nat × List Nat) := (true, [([], []), ([0], [0]), ([], []), ([], []), ([3], [3]), ([2, 4, 4], [2, 4]), ([], []), ([], []), ([6, 7, 5], [6, 7]), ([1, 5, 0, 1, 2, 3, 4, 5, 6, 7, 8], [1, 5]), ([9, 8, 8, 0, 1, 2, 3, 4, 5, 6, 7, 8], [8, 9])])
def Bm.B6 : List Nat := [0, 1, 0, 0, 8, 28, 0, 0, 252, 511, 1023]
theorem Bm.tab6 : rtab .any (Lz Tryz.f30 6) = Bm.T6 := by kernel_rfl
theorem Bm.bits6 : Gh Bm.T6.2 Bm.B6 = true := by kernel_rfl
theorem Bm.calls (k : Nat) (g : Nat) (s0_0 : List Int) (s0_1 : Int) (s0_2 : Int) (P1_0_ : Nat → Prop) (u9000_ : Value) (l1_0 : List Int) (r1 : List Int) (r2 : Int) (r3 : Int) (w0 w : World) (hI : Af w0 w g s0_0 s0_1 s0_2) (hB : Below w0.heap.size w0 w) (ho1_0 : Kd.R (Kd.int .i64) 2 w w0.heap.size P1_0_ u9000_ l1_0) (h : Bm.f k s0_0 s0_1 s0_2 l1_0 = some (r1, r2, r3)) :
    Calls Tryz.prog 30 #[.pointer (some ⟨g, 0, none⟩), .agg #[u9000_]] w fun e w' => ∃ v0_ : Value, e = .returned (.agg #[v0_]) ∧ Kd.R (Kd.int .i64) 2 w' w0.heap.size (fun k_ => (P1_0_ k_ ∨ w.heap.size ≤ k_)) v0_ r1 ∧ Af w0 w' g s0_0 r2 r3 ∧ Below w0.heap.size w0 w' ∧ Dn w w' (fun k_ => (P1_0_ k_) ∨ k_ = g) := by
 have hu26 := Tryz.underlying26
 have HO1_0 := Aa.mk (show Kd.R (Kd.int .i64) 2 w w0.heap.size (fun k_ => (P1_0_ k_ ∨ w.heap.size ≤ k_)) u9000_ l1_0 from Kd.Ai ho1_0 (fun k_ hk => (.inl hk)))
 have HI0 := Aa.mk hI
 have HL := Aa.mk hB.size
 clear hI
 have HK := Aa.mk (Dn.refl w (fun k_ => (P1_0_ k_) ∨ k_ = g))
 have HW0 := Aa.mk hB.size
 have HB := Aa.mk hB
 clear hB
 have H := h
 clear h
 unfold Bm.f at H
 obtain ⟨t103, A3, H⟩ := zO H
 try dsimp only at H
 obtain ⟨⟨t107, t108, t109⟩, A4, H⟩ := zO H
 try dsimp only at H
 by_cases c5 : t107 = 0
 ·
  rw [if_pos c5] at H
  have c5b0 : (t107 == 0) = true := beq_iff_eq.mpr c5
  have c5b1 : (t107 != 0) = false := bne_eq_false_iff_eq.mpr c5
  clear c5
  simp only [Option.some.injEq, Prod.mk.injEq] at H
  obtain ⟨rfl, rfl, rfl⟩ := H
  obtain ⟨Ao6, co6, eo6⟩ := Kd.Bb HO1_0.out
  subst eo6
  go_enter Tryz.func30, Tryz.ntmps30
  go_wp2_with (first | ((with_reducible refine Ay (N := 3) rfl ?_); refine Be zr (N := 3) zr (cs := #[.slice Ao6 l1_0.length co6]) (t := 26) zg ?_; intro gb101 hg w7 hbox hb; have n_ := y9 (Kd.Ap (zR HO1_0.out) hb) (Af.below (zI) hb) (Dn.below (S := (fun k_ => (P1_0_ k_) ∨ k_ = g)) (zJ) hb) (Ab (zB) hb) (hbox) ((by rw [hg]; exact (by first | exact HK.out.1 | exact (show Dn w _ (fun k_ => (P1_0_ k_) ∨ k_ = g) from zJ).1) : w.heap.size ≤ gb101)) ((zS hg : w0.heap.size ≤ gb101)) ((by rw [hg]; exact Nat.ne_of_lt (Af.lt (show Af w0 _ g s0_0 s0_1 s0_2 from zI)) : g ≠ gb101)) ((by rw [hg]; exact Nat.ne_of_gt (Af.lt (show Af w0 _ g s0_0 s0_1 s0_2 from zI)) : gb101 ≠ g)); clear HO1_0 HI0 HK HB; obtain ⟨HO1_0, HI0, HK, HB, BK101, GW101, GE101, NB0_101, NB101_0⟩ := n_; clear hb hbox hg) | ((with_reducible refine Ay (N := 4) rfl ?_); refine Be zr (N := 4) zr (cs := #[.slice none 0 0]) (t := 26) zg ?_; intro gb102 hg w8 hbox hb; have n_ := y12 (Kd.Ap (zR HO1_0.out) hb) (Af.below (zI) hb) (zb BK101.out hb) (Dn.below (S := (fun k_ => (P1_0_ k_) ∨ k_ = g)) (zJ) hb) (Ab (zB) hb) (hbox) ((by rw [hg]; exact (by first | exact HK.out.1 | exact (show Dn w _ (fun k_ => (P1_0_ k_) ∨ k_ = g) from zJ).1) : w.heap.size ≤ gb102)) ((zS hg : w0.heap.size ≤ gb102)) ((zL hg BK101.out : gb101 ≠ gb102)) ((zM hg BK101.out : gb102 ≠ gb101)) ((by rw [hg]; exact Nat.ne_of_lt (Af.lt (show Af w0 _ g s0_0 s0_1 s0_2 from zI)) : g ≠ gb102)) ((by rw [hg]; exact Nat.ne_of_gt (Af.lt (show Af w0 _ g s0_0 s0_1 s0_2 from zI)) : gb102 ≠ g)); clear HO1_0 HI0 BK101 HK HB; obtain ⟨HO1_0, HI0, BK101, HK, HB, BK102, GW102, GE102, NB101_102, NB102_101, NB0_102, NB102_0⟩ := n_; clear hb hbox hg; have hnb9 := NB101_102.out; have hnc9 := NB102_101.out; have hnb10 := NB101_0.out; have hnc10 := NB0_101.out; obtain ⟨hcz11_0, hfz11_0⟩ := zw BK101.out) | (refine gK 37 ?_; refine gL 8 Tryz.func37 #[.slice Ao6 l1_0.length co6] ?_; (with_reducible refine (Fc.calls _ _ l1_0 t103 _ ?side1 ?side2 A3.out).mono ?_); (case side1 => exact zC (Kd.Ae HO1_0.out).2.2); (case side2 => exact (Kd.Ae HO1_0.out).2.1); rintro e w12 ⟨v104, rfl, ho0, hb⟩; refine ⟨_, rfl, ?_⟩; have n_ := y7 (Kd.Bu (zR HO1_0.out) (Kd.Bs ho0) hb) (Kd.Bk (Kd.Bt (Kd.Rh (M := fun k_ => (P1_0_ k_ ∨ w.heap.size ≤ k_)) ho0 (by first | exact HK.out.1 | exact (show Dn w _ (fun k_ => (P1_0_ k_) ∨ k_ = g) from zJ).1) (fun k_ h_ => .inr h_)) (Kd.Cx (zR HO1_0.out))) (An (zB))) (Af.below (zI) hb) (zb BK101.out hb) (zb BK102.out hb) (Dn.below (S := (fun k_ => (P1_0_ k_) ∨ k_ = g)) (zJ) hb) (Ab (zB) hb); clear HO1_0 HI0 BK101 BK102 HK HB; obtain ⟨HO1_0, HO105, HI0, BK101, BK102, HK, HB⟩ := n_; (try clear ho0 hb); obtain ⟨Ao13, co13, eo13⟩ := Kd.Bb HO105.out; subst eo13) | ((with_reducible refine Ay (N := 5) rfl ?_); refine Be zr (N := 5) zr (cs := #[.slice none 0 0]) (t := 26) zg ?_; intro gb106 hg w14 hbox hb; have n_ := y16 (Kd.Ap (zR HO1_0.out) hb) (Kd.Ap (zR HO105.out) hb) (Af.below (zI) hb) (zb BK101.out hb) (zb BK102.out hb) (Dn.below (S := (fun k_ => (P1_0_ k_) ∨ k_ = g)) (zJ) hb) (Ab (zB) hb) (hbox) ((by rw [hg]; exact (by first | exact HK.out.1 | exact (show Dn w _ (fun k_ => (P1_0_ k_) ∨ k_ = g) from zJ).1) : w.heap.size ≤ gb106)) ((zS hg : w0.heap.size ≤ gb106)) ((zL hg BK101.out : gb101 ≠ gb106)) ((zM hg BK101.out : gb106 ≠ gb101)) ((zL hg BK102.out : gb102 ≠ gb106)) ((zM hg BK102.out : gb106 ≠ gb102)) ((by rw [hg]; exact Nat.ne_of_lt (Af.lt (show Af w0 _ g s0_0 s0_1 s0_2 from zI)) : g ≠ gb106)) ((by rw [hg]; exact Nat.ne_of_gt (Af.lt (show Af w0 _ g s0_0 s0_1 s0_2 from zI)) : gb106 ≠ g)); clear HO1_0 HO105 HI0 BK101 BK102 HK HB; obtain ⟨HO1_0, HO105, HI0, BK101, BK102, HK, HB, BK106, GW106, GE106, NB101_106, NB106_101, NB102_106, NB106_102, NB0_106, NB106_0⟩ := n_; clear hb hbox hg; have hnb15 := NB106_101.out; have hnc15 := NB101_106.out; have hnb16 := NB106_102.out; have hnc16 := NB102_106.out; have hnb17 := NB106_0.out; have hnc17 := NB0_106.out; obtain ⟨hcz18_0, hfz18_0⟩ := zw BK106.out) | (refine gK 29 ?_; refine gL 11 Tryz.func29 #[.pointer (some ⟨g, 0, none⟩), .int .i64 50] ?_; (with_reducible refine (Bf.calls g s0_0 s0_1 s0_2 50 t107 t108 t109 w0 _ ?side1 ?side2 A4.out).mono ?_); (case side1 => exact zI); (case side2 => exact zB); rintro e w19 ⟨rfl, hi, hb, hk⟩; refine ⟨_, rfl, ?_⟩; have n_ := y8 (Kd.Ai (Kd.Cz (Af.apart (show Af w0 _ g s0_0 s0_1 s0_2 from zI) (zV HO1_0.out BK106.out) (by decide)) hk (fun _ h => h.2)) (fun _ h => h.1)) (Av.blk hk (g' := gb101) (o := .cells #[.slice Ao6 l1_0.length co6] 26 (0, 0)) (by refine zG ?_; refine Ce ?_ NB101_106.out _; refine zG ?_; exact BK101.out) NB101_0.out (by simp)) (Av.blk hk (g' := gb102) (o := .cells #[.slice none 0 0] 26 (0, 0)) (by refine zG ?_; refine Ce ?_ NB102_106.out _; refine zG ?_; exact BK102.out) NB102_0.out (by simp)) (Kd.Ai (Kd.Cz (Af.apart (show Af w0 _ g s0_0 s0_1 s0_2 from zI) (zV HO105.out BK106.out) (by decide)) hk (fun _ h => h.2)) (fun _ h => h.1)) (Av.blk hk (g' := gb106) (o := .cells #[.slice Ao13 t103.length co13] 26 (0, 0)) (by (with_reducible repeat (first | refine Am ?_ _ | refine Ag ?_ | refine Ak ?_ _)); refine Cl (cs := #[.slice none 0 0]) ?_ 0 _ rfl; (with_reducible repeat (first | refine Am ?_ _ | refine Ag ?_ | refine Ak ?_ _)); exact BK106.out) NB106_0.out (by simp)) (Dn.of_keep (S := (fun k_ => (P1_0_ k_) ∨ k_ = g)) (zJ) hk (.inl (.inr rfl))) (hb) (hi); clear HO1_0 BK101 BK102 HO105 BK106 HK HB HI0; obtain ⟨HO1_0, BK101, BK102, HO105, BK106, HK, HB, HI0⟩ := n_; (try clear hi hb hk); have hnb20 := NB102_0.out; have hnc20 := NB0_102.out; obtain ⟨hcz21_0, hfz21_0⟩ := zw BK102.out))
  refine bodyPost_ret (results_cell_row rfl _ _ gb102 26 #[.slice none 0 0] (0, 0) _ rfl (by (with_reducible repeat (first | refine Am ?_ _ | refine Ag ?_ | refine Ak ?_ _)); refine Cl (cs := #[.slice none 0 0]) ?_ 0 _ rfl; (with_reducible repeat (first | refine Am ?_ _ | refine Ag ?_ | refine Ak ?_ _)); exact BK102.out) Tryz.underlying26 rfl zk) rfl ?_
  exact ⟨_, zE, zN, zI, zB, zJ⟩
 rw [if_neg c5] at H
 have c5b0 : (t107 == 0) = false := beq_eq_false_iff_ne.mpr c5
 have c5b1 : (t107 != 0) = true := bne_iff_ne.mpr c5
 by_cases c22 : t107 = 1
 case neg =>
  rw [if_neg c22] at H
  have c22b0 : (t107 == 1) = false := beq_eq_false_iff_ne.mpr c22
  have c22b1 : (t107 != 1) = true := bne_iff_ne.mpr c22
  by_cases c56 : t107 = 2
  case neg =>
   rw [if_neg c56] at H
   have c56b0 : (t107 == 2) = false := beq_eq_false_iff_ne.mpr c56
   have c56b1 : (t107 != 2) = true := bne_iff_ne.mpr c56
   simp only [Option.some.injEq, Prod.mk.injEq] at H
   obtain ⟨rfl, rfl, rfl⟩ := H
   obtain ⟨Ao89, co89, eo89⟩ := Kd.Bb HO1_0.out
   subst eo89
   go_enter Tryz.func30, Tryz.ntmps30
   go_wp2_with (first | ((with_reducible refine Ay (N := 3) rfl ?_); refine Be zr (N := 3) zr (cs := #[.slice Ao89 l1_0.length co89]) (t := 26) zg ?_; intro gb101 hg w90 hbox hb; have n_ := y9 (Kd.Ap (zR HO1_0.out) hb) (Af.below (zI) hb) (Dn.below (S := (fun k_ => (P1_0_ k_) ∨ k_ = g)) (zJ) hb) (Ab (zB) hb) (hbox) ((by rw [hg]; exact (by first | exact HK.out.1 | exact (show Dn w _ (fun k_ => (P1_0_ k_) ∨ k_ = g) from zJ).1) : w.heap.size ≤ gb101)) ((zS hg : w0.heap.size ≤ gb101)) ((by rw [hg]; exact Nat.ne_of_lt (Af.lt (show Af w0 _ g s0_0 s0_1 s0_2 from zI)) : g ≠ gb101)) ((by rw [hg]; exact Nat.ne_of_gt (Af.lt (show Af w0 _ g s0_0 s0_1 s0_2 from zI)) : gb101 ≠ g)); clear HO1_0 HI0 HK HB; obtain ⟨HO1_0, HI0, HK, HB, BK101, GW101, GE101, NB0_101, NB101_0⟩ := n_; clear hb hbox hg) | ((with_reducible refine Ay (N := 4) rfl ?_); refine Be zr (N := 4) zr (cs := #[.slice none 0 0]) (t := 26) zg ?_; intro gb102 hg w91 hbox hb; have n_ := y12 (Kd.Ap (zR HO1_0.out) hb) (Af.below (zI) hb) (zb BK101.out hb) (Dn.below (S := (fun k_ => (P1_0_ k_) ∨ k_ = g)) (zJ) hb) (Ab (zB) hb) (hbox) ((by rw [hg]; exact (by first | exact HK.out.1 | exact (show Dn w _ (fun k_ => (P1_0_ k_) ∨ k_ = g) from zJ).1) : w.heap.size ≤ gb102)) ((zS hg : w0.heap.size ≤ gb102)) ((zL hg BK101.out : gb101 ≠ gb102)) ((zM hg BK101.out : gb102 ≠ gb101)) ((by rw [hg]; exact Nat.ne_of_lt (Af.lt (show Af w0 _ g s0_0 s0_1 s0_2 from zI)) : g ≠ gb102)) ((by rw [hg]; exact Nat.ne_of_gt (Af.lt (show Af w0 _ g s0_0 s0_1 s0_2 from zI)) : gb102 ≠ g)); clear HO1_0 HI0 BK101 HK HB; obtain ⟨HO1_0, HI0, BK101, HK, HB, BK102, GW102, GE102, NB101_102, NB102_101, NB0_102, NB102_0⟩ := n_; clear hb hbox hg; have hnb92 := NB101_102.out; have hnc92 := NB102_101.out; have hnb93 := NB101_0.out; have hnc93 := NB0_101.out; obtain ⟨hcz94_0, hfz94_0⟩ := zw BK101.out) | (refine gK 37 ?_; refine gL 8 Tryz.func37 #[.slice Ao89 l1_0.length co89] ?_; (with_reducible refine (Fc.calls _ _ l1_0 t103 _ ?side1 ?side2 A3.out).mono ?_); (case side1 => exact zC (Kd.Ae HO1_0.out).2.2); (case side2 => exact (Kd.Ae HO1_0.out).2.1); rintro e w95 ⟨v104, rfl, ho0, hb⟩; refine ⟨_, rfl, ?_⟩; have n_ := y7 (Kd.Bu (zR HO1_0.out) (Kd.Bs ho0) hb) (Kd.Bk (Kd.Bt (Kd.Rh (M := fun k_ => (P1_0_ k_ ∨ w.heap.size ≤ k_)) ho0 (by first | exact HK.out.1 | exact (show Dn w _ (fun k_ => (P1_0_ k_) ∨ k_ = g) from zJ).1) (fun k_ h_ => .inr h_)) (Kd.Cx (zR HO1_0.out))) (An (zB))) (Af.below (zI) hb) (zb BK101.out hb) (zb BK102.out hb) (Dn.below (S := (fun k_ => (P1_0_ k_) ∨ k_ = g)) (zJ) hb) (Ab (zB) hb); clear HO1_0 HI0 BK101 BK102 HK HB; obtain ⟨HO1_0, HO105, HI0, BK101, BK102, HK, HB⟩ := n_; (try clear ho0 hb); obtain ⟨Ao96, co96, eo96⟩ := Kd.Bb HO105.out; subst eo96) | ((with_reducible refine Ay (N := 5) rfl ?_); refine Be zr (N := 5) zr (cs := #[.slice none 0 0]) (t := 26) zg ?_; intro gb106 hg w97 hbox hb; have n_ := y16 (Kd.Ap (zR HO1_0.out) hb) (Kd.Ap (zR HO105.out) hb) (Af.below (zI) hb) (zb BK101.out hb) (zb BK102.out hb) (Dn.below (S := (fun k_ => (P1_0_ k_) ∨ k_ = g)) (zJ) hb) (Ab (zB) hb) (hbox) ((by rw [hg]; exact (by first | exact HK.out.1 | exact (show Dn w _ (fun k_ => (P1_0_ k_) ∨ k_ = g) from zJ).1) : w.heap.size ≤ gb106)) ((zS hg : w0.heap.size ≤ gb106)) ((zL hg BK101.out : gb101 ≠ gb106)) ((zM hg BK101.out : gb106 ≠ gb101)) ((zL hg BK102.out : gb102 ≠ gb106)) ((zM hg BK102.out : gb106 ≠ gb102)) ((by rw [hg]; exact Nat.ne_of_lt (Af.lt (show Af w0 _ g s0_0 s0_1 s0_2 from zI)) : g ≠ gb106)) ((by rw [hg]; exact Nat.ne_of_gt (Af.lt (show Af w0 _ g s0_0 s0_1 s0_2 from zI)) : gb106 ≠ g)); clear HO1_0 HO105 HI0 BK101 BK102 HK HB; obtain ⟨HO1_0, HO105, HI0, BK101, BK102, HK, HB, BK106, GW106, GE106, NB101_106, NB106_101, NB102_106, NB106_102, NB0_106, NB106_0⟩ := n_; clear hb hbox hg; have hnb98 := NB106_101.out; have hnc98 := NB101_106.out; have hnb99 := NB106_102.out; have hnc99 := NB102_106.out; have hnb100 := NB106_0.out; have hnc100 := NB0_106.out; obtain ⟨hcz101_0, hfz101_0⟩ := zw BK106.out) | (refine gK 29 ?_; refine gL 11 Tryz.func29 #[.pointer (some ⟨g, 0, none⟩), .int .i64 50] ?_; (with_reducible refine (Bf.calls g s0_0 s0_1 s0_2 50 t107 t108 t109 w0 _ ?side1 ?side2 A4.out).mono ?_); (case side1 => exact zI); (case side2 => exact zB); rintro e w102 ⟨rfl, hi, hb, hk⟩; refine ⟨_, rfl, ?_⟩; have n_ := y8 (Kd.Ai (Kd.Cz (Af.apart (show Af w0 _ g s0_0 s0_1 s0_2 from zI) (zV HO1_0.out BK106.out) (by decide)) hk (fun _ h => h.2)) (fun _ h => h.1)) (Av.blk hk (g' := gb101) (o := .cells #[.slice Ao89 l1_0.length co89] 26 (0, 0)) (by refine zG ?_; refine Ce ?_ NB101_106.out _; refine zG ?_; exact BK101.out) NB101_0.out (by simp)) (Av.blk hk (g' := gb102) (o := .cells #[.slice none 0 0] 26 (0, 0)) (by refine zG ?_; refine Ce ?_ NB102_106.out _; refine zG ?_; exact BK102.out) NB102_0.out (by simp)) (Kd.Ai (Kd.Cz (Af.apart (show Af w0 _ g s0_0 s0_1 s0_2 from zI) (zV HO105.out BK106.out) (by decide)) hk (fun _ h => h.2)) (fun _ h => h.1)) (Av.blk hk (g' := gb106) (o := .cells #[.slice Ao96 t103.length co96] 26 (0, 0)) (by (with_reducible repeat (first | refine Am ?_ _ | refine Ag ?_ | refine Ak ?_ _)); refine Cl (cs := #[.slice none 0 0]) ?_ 0 _ rfl; (with_reducible repeat (first | refine Am ?_ _ | refine Ag ?_ | refine Ak ?_ _)); exact BK106.out) NB106_0.out (by simp)) (Dn.of_keep (S := (fun k_ => (P1_0_ k_) ∨ k_ = g)) (zJ) hk (.inl (.inr rfl))) (hb) (hi); clear HO1_0 BK101 BK102 HO105 BK106 HK HB HI0; obtain ⟨HO1_0, BK101, BK102, HO105, BK106, HK, HB, HI0⟩ := n_; (try clear hi hb hk); obtain ⟨hcz103_0, hfz103_0⟩ := zw BK101.out; have hnb104 := NB102_0.out; have hnc104 := NB0_102.out; obtain ⟨hcz105_0, hfz105_0⟩ := zw BK102.out))
   refine bodyPost_ret (results_cell_row rfl _ _ gb102 26 #[.slice Ao89 l1_0.length co89] (0, 0) _ rfl (by (with_reducible repeat (first | refine Am ?_ _ | refine Ag ?_ | refine Ak ?_ _)); refine Cl (cs := #[.slice none 0 0]) ?_ 0 _ rfl; (with_reducible repeat (first | refine Am ?_ _ | refine Ag ?_ | refine Ak ?_ _)); exact BK102.out) Tryz.underlying26 rfl zk) rfl ?_
   exact ⟨_, zE, by refine zR ?_; exact Kd.Ai (Kd.Dv (p := ⟨gb102, 0, none⟩) (Kd.Cj HO1_0.out BK102.out (by decide)) (fun _ hk => hk.2) (.slice Ao89 l1_0.length co89)) (fun _ hk => hk.1.1), zI, zB, zJ⟩
  rw [if_pos c56] at H
  have c56b0 : (t107 == 2) = true := beq_iff_eq.mpr c56
  have c56b1 : (t107 != 2) = false := bne_eq_false_iff_eq.mpr c56
  clear c56
  have H' := Aa.mk H
  clear H
  obtain ⟨Ao57, co57, eo57⟩ := Kd.Bb HO1_0.out
  subst eo57
  go_enter Tryz.func30, Tryz.ntmps30
  go_wp2_with (first | ((with_reducible refine Ay (N := 3) rfl ?_); refine Be zr (N := 3) zr (cs := #[.slice Ao57 l1_0.length co57]) (t := 26) zg ?_; intro gb101 hg w58 hbox hb; have n_ := y9 (Kd.Ap (zR HO1_0.out) hb) (Af.below (zI) hb) (Dn.below (S := (fun k_ => (P1_0_ k_) ∨ k_ = g)) (zJ) hb) (Ab (zB) hb) (hbox) ((by rw [hg]; exact (by first | exact HK.out.1 | exact (show Dn w _ (fun k_ => (P1_0_ k_) ∨ k_ = g) from zJ).1) : w.heap.size ≤ gb101)) ((zS hg : w0.heap.size ≤ gb101)) ((by rw [hg]; exact Nat.ne_of_lt (Af.lt (show Af w0 _ g s0_0 s0_1 s0_2 from zI)) : g ≠ gb101)) ((by rw [hg]; exact Nat.ne_of_gt (Af.lt (show Af w0 _ g s0_0 s0_1 s0_2 from zI)) : gb101 ≠ g)); clear HO1_0 HI0 HK HB; obtain ⟨HO1_0, HI0, HK, HB, BK101, GW101, GE101, NB0_101, NB101_0⟩ := n_; clear hb hbox hg) | ((with_reducible refine Ay (N := 4) rfl ?_); refine Be zr (N := 4) zr (cs := #[.slice none 0 0]) (t := 26) zg ?_; intro gb102 hg w59 hbox hb; have n_ := y12 (Kd.Ap (zR HO1_0.out) hb) (Af.below (zI) hb) (zb BK101.out hb) (Dn.below (S := (fun k_ => (P1_0_ k_) ∨ k_ = g)) (zJ) hb) (Ab (zB) hb) (hbox) ((by rw [hg]; exact (by first | exact HK.out.1 | exact (show Dn w _ (fun k_ => (P1_0_ k_) ∨ k_ = g) from zJ).1) : w.heap.size ≤ gb102)) ((zS hg : w0.heap.size ≤ gb102)) ((zL hg BK101.out : gb101 ≠ gb102)) ((zM hg BK101.out : gb102 ≠ gb101)) ((by rw [hg]; exact Nat.ne_of_lt (Af.lt (show Af w0 _ g s0_0 s0_1 s0_2 from zI)) : g ≠ gb102)) ((by rw [hg]; exact Nat.ne_of_gt (Af.lt (show Af w0 _ g s0_0 s0_1 s0_2 from zI)) : gb102 ≠ g)); clear HO1_0 HI0 BK101 HK HB; obtain ⟨HO1_0, HI0, BK101, HK, HB, BK102, GW102, GE102, NB101_102, NB102_101, NB0_102, NB102_0⟩ := n_; clear hb hbox hg; have hnb60 := NB101_102.out; have hnc60 := NB102_101.out; have hnb61 := NB101_0.out; have hnc61 := NB0_101.out; obtain ⟨hcz62_0, hfz62_0⟩ := zw BK101.out) | (refine gK 37 ?_; refine gL 8 Tryz.func37 #[.slice Ao57 l1_0.length co57] ?_; (with_reducible refine (Fc.calls _ _ l1_0 t103 _ ?side1 ?side2 A3.out).mono ?_); (case side1 => exact zC (Kd.Ae HO1_0.out).2.2); (case side2 => exact (Kd.Ae HO1_0.out).2.1); rintro e w63 ⟨v104, rfl, ho0, hb⟩; refine ⟨_, rfl, ?_⟩; have n_ := y7 (Kd.Bu (zR HO1_0.out) (Kd.Bs ho0) hb) (Kd.Bk (Kd.Bt (Kd.Rh (M := fun k_ => (P1_0_ k_ ∨ w.heap.size ≤ k_)) ho0 (by first | exact HK.out.1 | exact (show Dn w _ (fun k_ => (P1_0_ k_) ∨ k_ = g) from zJ).1) (fun k_ h_ => .inr h_)) (Kd.Cx (zR HO1_0.out))) (An (zB))) (Af.below (zI) hb) (zb BK101.out hb) (zb BK102.out hb) (Dn.below (S := (fun k_ => (P1_0_ k_) ∨ k_ = g)) (zJ) hb) (Ab (zB) hb); clear HO1_0 HI0 BK101 BK102 HK HB; obtain ⟨HO1_0, HO105, HI0, BK101, BK102, HK, HB⟩ := n_; (try clear ho0 hb); obtain ⟨Ao64, co64, eo64⟩ := Kd.Bb HO105.out; subst eo64) | ((with_reducible refine Ay (N := 5) rfl ?_); refine Be zr (N := 5) zr (cs := #[.slice none 0 0]) (t := 26) zg ?_; intro gb106 hg w65 hbox hb; have n_ := y16 (Kd.Ap (zR HO1_0.out) hb) (Kd.Ap (zR HO105.out) hb) (Af.below (zI) hb) (zb BK101.out hb) (zb BK102.out hb) (Dn.below (S := (fun k_ => (P1_0_ k_) ∨ k_ = g)) (zJ) hb) (Ab (zB) hb) (hbox) ((by rw [hg]; exact (by first | exact HK.out.1 | exact (show Dn w _ (fun k_ => (P1_0_ k_) ∨ k_ = g) from zJ).1) : w.heap.size ≤ gb106)) ((zS hg : w0.heap.size ≤ gb106)) ((zL hg BK101.out : gb101 ≠ gb106)) ((zM hg BK101.out : gb106 ≠ gb101)) ((zL hg BK102.out : gb102 ≠ gb106)) ((zM hg BK102.out : gb106 ≠ gb102)) ((by rw [hg]; exact Nat.ne_of_lt (Af.lt (show Af w0 _ g s0_0 s0_1 s0_2 from zI)) : g ≠ gb106)) ((by rw [hg]; exact Nat.ne_of_gt (Af.lt (show Af w0 _ g s0_0 s0_1 s0_2 from zI)) : gb106 ≠ g)); clear HO1_0 HO105 HI0 BK101 BK102 HK HB; obtain ⟨HO1_0, HO105, HI0, BK101, BK102, HK, HB, BK106, GW106, GE106, NB101_106, NB106_101, NB102_106, NB106_102, NB0_106, NB106_0⟩ := n_; clear hb hbox hg; have hnb66 := NB106_101.out; have hnc66 := NB101_106.out; have hnb67 := NB106_102.out; have hnc67 := NB102_106.out; have hnb68 := NB106_0.out; have hnc68 := NB0_106.out; obtain ⟨hcz69_0, hfz69_0⟩ := zw BK106.out) | (refine gK 29 ?_; refine gL 11 Tryz.func29 #[.pointer (some ⟨g, 0, none⟩), .int .i64 50] ?_; (with_reducible refine (Bf.calls g s0_0 s0_1 s0_2 50 t107 t108 t109 w0 _ ?side1 ?side2 A4.out).mono ?_); (case side1 => exact zI); (case side2 => exact zB); rintro e w70 ⟨rfl, hi, hb, hk⟩; refine ⟨_, rfl, ?_⟩; have n_ := y8 (Kd.Ai (Kd.Cz (Af.apart (show Af w0 _ g s0_0 s0_1 s0_2 from zI) (zV HO1_0.out BK106.out) (by decide)) hk (fun _ h => h.2)) (fun _ h => h.1)) (Av.blk hk (g' := gb101) (o := .cells #[.slice Ao57 l1_0.length co57] 26 (0, 0)) (by refine zG ?_; refine Ce ?_ NB101_106.out _; refine zG ?_; exact BK101.out) NB101_0.out (by simp)) (Av.blk hk (g' := gb102) (o := .cells #[.slice none 0 0] 26 (0, 0)) (by refine zG ?_; refine Ce ?_ NB102_106.out _; refine zG ?_; exact BK102.out) NB102_0.out (by simp)) (Kd.Ai (Kd.Cz (Af.apart (show Af w0 _ g s0_0 s0_1 s0_2 from zI) (zV HO105.out BK106.out) (by decide)) hk (fun _ h => h.2)) (fun _ h => h.1)) (Av.blk hk (g' := gb106) (o := .cells #[.slice Ao64 t103.length co64] 26 (0, 0)) (by (with_reducible repeat (first | refine Am ?_ _ | refine Ag ?_ | refine Ak ?_ _)); refine Cl (cs := #[.slice none 0 0]) ?_ 0 _ rfl; (with_reducible repeat (first | refine Am ?_ _ | refine Ag ?_ | refine Ak ?_ _)); exact BK106.out) NB106_0.out (by simp)) (Dn.of_keep (S := (fun k_ => (P1_0_ k_) ∨ k_ = g)) (zJ) hk (.inl (.inr rfl))) (hb) (hi); clear HO1_0 BK101 BK102 HO105 BK106 HK HB HI0; obtain ⟨HO1_0, BK101, BK102, HO105, BK106, HK, HB, HI0⟩ := n_; (try clear hi hb hk)))
  go_loopg [] k (fun kq w' => ∃ (x107000_1 : List Int) (u107000 : Value), Aa (Bm.l0 kq s0_0 t108 t109 x107000_1 = some (r1, r2, r3)) ∧ Aa (kq ≤ k) ∧ Aa (Kd.R (Kd.int .i64) 2 w' w0.heap.size (fun k_ => (P1_0_ k_ ∨ w.heap.size ≤ k_) ∧ some k_ ≠ (u107000 : Value).ownBlock) (.slice Ao57 l1_0.length co57) l1_0) ∧ Aa (Kd.R (Kd.int .i64) 2 w' w0.heap.size (fun k_ => (P1_0_ k_ ∨ w.heap.size ≤ k_) ∧ some k_ ≠ ((.slice Ao57 l1_0.length co57) : Value).ownBlock) u107000 x107000_1) ∧ Aa (w'.heap[gb101]? = some (.cells #[(.slice Ao57 l1_0.length co57)] 26 (0, 0))) ∧ Aa (w'.heap[gb102]? = some (.cells #[(.slice none 0 0)] 26 (0, 0))) ∧ Aa (w'.heap[gb106]? = some (.cells #[u107000] 26 (0, 0))) ∧ Aa (Af w0 w' g s0_0 t108 t109) ∧ Aa (Dn w w' (fun k_ => (P1_0_ k_) ∨ k_ = g)) ∧ Aa (Below w0.heap.size w0 w'))
  case atStart => exact ⟨(t103), (.slice Ao64 t103.length co64), H', ⟨Nat.le_refl _⟩, ⟨zR HO1_0.out⟩, ⟨by refine zR ?_; exact Kd.Ai HO105.out (fun _ hk => ⟨hk.1.1, hk.2⟩)⟩, ⟨zG BK101.out⟩, ⟨zG BK102.out⟩, ⟨zG BK106.out⟩, ⟨zI⟩, ⟨zJ⟩, ⟨zB⟩⟩
  clear H'
  try clear c5
  try clear c22
  try clear c22b0
  try clear c22b1
  try clear c56
  try clear c56b0
  try clear c56b1
  try clear hcz62_0
  try clear hcz69_0
  try clear hfz62_0
  try clear hfz69_0
  obtain ⟨x107000_1, u107000, HA, HK1, HO_102000, HO_107000, BK101, BK102, BK106, HI0, HK, HB⟩ := hrel
  cases gk with
  | zero => exact absurd HA.out (by simp [Bm.l0])
  | succ k1 =>
   have H := HA.out
   clear HA
   simp only [Bm.l0] at H
   by_cases c71 : (x107000_1.length : Int) ≤ 8
   ·
    rw [if_pos c71] at H
    have c71b0 := decide_eq_true c71
    have c71b1 : decide (x107000_1.length ≤ 8) = true := decide_eq_true (by omega)
    clear c71
    by_cases c72 : x107000_1.length < 17592186044416
    case neg => rw [if_neg c72] at H; exact absurd H (by simp)
    rw [if_pos c72] at H
    have LMc72 := Aa.mk c72
    clear c72
    obtain ⟨y121, hy121⟩ : ∃ y_ : List Int, y_ = (x107000_1 ++ [9]) := ⟨_, rfl⟩
    replace H : (Bm.l0 k1 s0_0 t108 t109 y121) = some (r1, r2, r3) := zH hy121
    have Ny121 := Aa.mk hy121
    clear hy121
    have H' := Aa.mk H
    clear H
    have hnb73 := NB106_101.out
    have hnc73 := NB101_106.out
    have hnb74 := NB106_102.out
    have hnc74 := NB102_106.out
    have hnb75 := NB106_0.out
    have hnc75 := NB0_106.out
    obtain ⟨hcz76_0, hfz76_0⟩ := zw BK106.out
    obtain ⟨Ao77, co77, eo77⟩ := Kd.Bb HO_107000.out
    subst eo77
    go_wp2_with (first | ((with_reducible refine Dp (b := .append) (xs := #[.tmp 35, .tmp 36]) rfl ?_); at_builtin; refine Kd.Gk (Kd.int .i64) (w0 := w0) w0.heap.size rfl (.tmp 35) (.tmp 36) 24 2 (.int .i64 0) 8 rfl Tryz.underlying24 Gb rfl (by decide) (by omega) (.slice Ao77 x107000_1.length co77) x107000_1 9 [.int .i64 9] (fun k_ => (P1_0_ k_ ∨ w.heap.size ≤ k_) ∧ some k_ ≠ (.slice Ao57 l1_0.length co57 : Value).ownBlock) (fun _ => False) rfl rfl ?aP (fun _ hk => hk.elim) ?aF ?aO ?aB ?aS ?aL ?_; (case aP => exact rfl); (case aB => exact (zB)); (case aF => exact (fun k_ hk => ⟨(.inr (Nat.le_trans (by first | exact HK.out.1 | exact (show Dn w _ (fun k_ => (P1_0_ k_) ∨ k_ = g) from zJ).1) hk)), Kd.fresh' (Kd.Cx (zR HO_102000.out)) k_ hk⟩)); (case aO => exact (zR HO_107000.out)); (case aS => exact (An (zB))); (case aL => have := LMc72.out; omega); intro v122 w78 ho hb hg hat; rw [← Ny121.out] at ho; have n_ := y8 (Kd.Cp (ok := (fun k_ => (P1_0_ k_ ∨ w.heap.size ≤ k_))) (zR HO_102000.out) hg hat) (Cm (g := gb101) (o := .cells #[.slice Ao57 l1_0.length co57] 26 (0, 0)) (zG BK101.out) hg (Kd.Em HO_107000.out BK101.out (by decide))) (Cm (g := gb102) (o := .cells #[.slice none 0 0] 26 (0, 0)) (zG BK102.out) hg (Kd.Em HO_107000.out BK102.out (by decide))) (Cm (g := gb106) (o := .cells #[.slice Ao77 x107000_1.length co77] 26 (0, 0)) (zG BK106.out) hg (Kd.Em HO_107000.out BK106.out (by decide))) (Af.grown (zI) hg (Af.Gd HI0.out HO_107000.out (by decide))) (hb) (Dn.of_grown (S := (fun k_ => (P1_0_ k_) ∨ k_ = g)) hg (zJ) (fun k_ e_ => Or.imp_left Or.inl ((HO_107000.out.1 k_ e_).1))) (ho); clear HO_102000 BK101 BK102 BK106 HI0 HB HK HO_107000; obtain ⟨HO_102000, BK101, BK102, BK106, HI0, HB, HK, HO123⟩ := n_; clear ho hb hg hat; obtain ⟨Ao79, co79, eo79⟩ := Kd.Bb HO123.out; subst eo79; obtain ⟨hcz80_0, hfz80_0⟩ := zw BK106.out))
    go_roundg k1
    case measure => have := HK1.out; omega
    case rel => exact ⟨(y121), (.slice Ao79 y121.length co79), H', ⟨by have := HK1.out; omega⟩, ⟨by refine zR ?_; exact Kd.Ai (Kd.Dv (p := ⟨gb106, 0, none⟩) (Kd.Cj HO_102000.out BK106.out (by decide)) (fun _ hk => hk.2) (.slice Ao79 y121.length co79)) (fun _ hk => ⟨hk.1.1, hk.1.2⟩)⟩, ⟨by refine zR ?_; exact Kd.Ai (Kd.Dv (p := ⟨gb106, 0, none⟩) (Kd.Cj HO123.out BK106.out (by decide)) (fun _ hk => hk.2) (.slice Ao79 y121.length co79)) (fun _ hk => ⟨hk.1.1, hk.1.2⟩)⟩, ⟨by refine zG ?_; refine Ce ?_ NB101_106.out _; refine zG ?_; exact BK101.out⟩, ⟨by refine zG ?_; refine Ce ?_ NB102_106.out _; refine zG ?_; exact BK102.out⟩, ⟨by (with_reducible repeat (first | refine Am ?_ _ | refine Ag ?_ | refine Ak ?_ _)); refine Cl (cs := #[.slice Ao77 x107000_1.length co77]) ?_ 0 _ rfl; (with_reducible repeat (first | refine Am ?_ _ | refine Ag ?_ | refine Ak ?_ _)); exact BK106.out⟩, ⟨zI⟩, ⟨zJ⟩, ⟨zB⟩⟩
   rw [if_neg c71] at H
   have c71b0 := decide_eq_false c71
   have c71b1 : decide (x107000_1.length ≤ 8) = false := decide_eq_false (by omega)
   clear c71
   simp only [Option.some.injEq, Prod.mk.injEq] at H
   obtain ⟨rfl, rfl, rfl⟩ := H
   have hnb81 := NB106_101.out
   have hnc81 := NB101_106.out
   have hnb82 := NB106_102.out
   have hnc82 := NB102_106.out
   have hnb83 := NB106_0.out
   have hnc83 := NB0_106.out
   obtain ⟨hcz84_0, hfz84_0⟩ := zw BK106.out
   obtain ⟨Ao85, co85, eo85⟩ := Kd.Bb HO_107000.out
   subst eo85
   have hnb86 := NB102_101.out
   have hnc86 := NB101_102.out
   have hnb87 := NB102_0.out
   have hnc87 := NB0_102.out
   obtain ⟨hcz88_0, hfz88_0⟩ := zw BK102.out
   go_wp2
   refine bodyPost_ret (results_cell_row rfl _ _ gb102 26 #[.slice Ao85 x107000_1.length co85] (0, 0) _ rfl (by (with_reducible repeat (first | refine Am ?_ _ | refine Ag ?_ | refine Ak ?_ _)); refine Cl (cs := #[.slice none 0 0]) ?_ 0 _ rfl; (with_reducible repeat (first | refine Am ?_ _ | refine Ag ?_ | refine Ak ?_ _)); exact BK102.out) Tryz.underlying26 rfl zk) rfl ?_
   exact ⟨_, zE, by refine zR ?_; exact Kd.Ai (Kd.Dv (p := ⟨gb102, 0, none⟩) (Kd.Cj HO_107000.out BK102.out (by decide)) (fun _ hk => hk.2) (.slice Ao85 x107000_1.length co85)) (fun _ hk => hk.1.1), zI, zB, zJ⟩
 rw [if_pos c22] at H
 have c22b0 : (t107 == 1) = true := beq_iff_eq.mpr c22
 have c22b1 : (t107 != 1) = false := bne_eq_false_iff_eq.mpr c22
 clear c22
 obtain ⟨t110, A23, H⟩ := zO H
 try dsimp only at H
 obtain ⟨⟨t111, t112, t113⟩, A24, H⟩ := zO H
 try dsimp only at H
 obtain ⟨y114, hy114⟩ : ∃ y_ : List Int, y_ = (([0, 41, (-1), 1099511627776] : List Int)) := ⟨_, rfl⟩
 replace H : ((Co.f s0_0 t112 t113 y114).bind fun bt117 => (if 0 ≤ t111 then (if t111 < (t103.length : Int) then (some ((t103.set (t111 : Int).toNat bt117.1), bt117.2.1, bt117.2.2)) else (none)) else (none))) = some (r1, r2, r3) := zH hy114
 have Ny114 := Aa.mk hy114
 clear hy114
 obtain ⟨⟨t117, t118, t119⟩, A25, H⟩ := zO H
 try dsimp only at H
 by_cases c26 : 0 ≤ t111
 case neg => rw [if_neg c26] at H; exact absurd H (by simp)
 rw [if_pos c26] at H
 have c26b0 := decide_eq_true c26
 clear c26
 by_cases c27 : t111 < (t103.length : Int)
 case neg => rw [if_neg c27] at H; exact absurd H (by simp)
 rw [if_pos c27] at H
 have c27b0 := decide_eq_true c27
 clear c27
 obtain ⟨y120, hy120⟩ : ∃ y_ : List Int, y_ = (t103.set (t111 : Int).toNat t117) := ⟨_, rfl⟩
 replace H : (some (y120, t118, t119)) = some (r1, r2, r3) := zH hy120
 have Ny120 := Aa.mk hy120
 clear hy120
 simp only [Option.some.injEq, Prod.mk.injEq] at H
 obtain ⟨rfl, rfl, rfl⟩ := H
 obtain ⟨Ao29, co29, eo29⟩ := Kd.Bb HO1_0.out
 subst eo29
 go_enter Tryz.func30, Tryz.ntmps30
 try go_wp2_with (first | ((with_reducible refine Ay (N := 3) rfl ?_); refine Be zr (N := 3) zr (cs := #[.slice Ao29 l1_0.length co29]) (t := 26) zg ?_; intro gb101 hg w30 hbox hb; have n_ := y9 (Kd.Ap (zR HO1_0.out) hb) (Af.below (zI) hb) (Dn.below (S := (fun k_ => (P1_0_ k_) ∨ k_ = g)) (zJ) hb) (Ab (zB) hb) (hbox) ((by rw [hg]; exact (by first | exact HK.out.1 | exact (show Dn w _ (fun k_ => (P1_0_ k_) ∨ k_ = g) from zJ).1) : w.heap.size ≤ gb101)) ((zS hg : w0.heap.size ≤ gb101)) ((by rw [hg]; exact Nat.ne_of_lt (Af.lt (show Af w0 _ g s0_0 s0_1 s0_2 from zI)) : g ≠ gb101)) ((by rw [hg]; exact Nat.ne_of_gt (Af.lt (show Af w0 _ g s0_0 s0_1 s0_2 from zI)) : gb101 ≠ g)); clear HO1_0 HI0 HK HB; obtain ⟨HO1_0, HI0, HK, HB, BK101, GW101, GE101, NB0_101, NB101_0⟩ := n_; clear hb hbox hg) | ((with_reducible refine Ay (N := 4) rfl ?_); refine Be zr (N := 4) zr (cs := #[.slice none 0 0]) (t := 26) zg ?_; intro gb102 hg w31 hbox hb; have n_ := y12 (Kd.Ap (zR HO1_0.out) hb) (Af.below (zI) hb) (zb BK101.out hb) (Dn.below (S := (fun k_ => (P1_0_ k_) ∨ k_ = g)) (zJ) hb) (Ab (zB) hb) (hbox) ((by rw [hg]; exact (by first | exact HK.out.1 | exact (show Dn w _ (fun k_ => (P1_0_ k_) ∨ k_ = g) from zJ).1) : w.heap.size ≤ gb102)) ((zS hg : w0.heap.size ≤ gb102)) ((zL hg BK101.out : gb101 ≠ gb102)) ((zM hg BK101.out : gb102 ≠ gb101)) ((by rw [hg]; exact Nat.ne_of_lt (Af.lt (show Af w0 _ g s0_0 s0_1 s0_2 from zI)) : g ≠ gb102)) ((by rw [hg]; exact Nat.ne_of_gt (Af.lt (show Af w0 _ g s0_0 s0_1 s0_2 from zI)) : gb102 ≠ g)); clear HO1_0 HI0 BK101 HK HB; obtain ⟨HO1_0, HI0, BK101, HK, HB, BK102, GW102, GE102, NB101_102, NB102_101, NB0_102, NB102_0⟩ := n_; clear hb hbox hg; have hnb32 := NB101_102.out; have hnc32 := NB102_101.out; have hnb33 := NB101_0.out; have hnc33 := NB0_101.out; obtain ⟨hcz34_0, hfz34_0⟩ := zw BK101.out) | (refine gK 37 ?_; refine gL 8 Tryz.func37 #[.slice Ao29 l1_0.length co29] ?_; (with_reducible refine (Fc.calls _ _ l1_0 t103 _ ?side1 ?side2 A3.out).mono ?_); (case side1 => exact zC (Kd.Ae HO1_0.out).2.2); (case side2 => exact (Kd.Ae HO1_0.out).2.1); rintro e w35 ⟨v104, rfl, ho0, hb⟩; refine ⟨_, rfl, ?_⟩; have n_ := y7 (Kd.Bu (zR HO1_0.out) (Kd.Bs ho0) hb) (Kd.Bk (Kd.Bt (Kd.Rh (M := fun k_ => (P1_0_ k_ ∨ w.heap.size ≤ k_)) ho0 (by first | exact HK.out.1 | exact (show Dn w _ (fun k_ => (P1_0_ k_) ∨ k_ = g) from zJ).1) (fun k_ h_ => .inr h_)) (Kd.Cx (zR HO1_0.out))) (An (zB))) (Af.below (zI) hb) (zb BK101.out hb) (zb BK102.out hb) (Dn.below (S := (fun k_ => (P1_0_ k_) ∨ k_ = g)) (zJ) hb) (Ab (zB) hb); clear HO1_0 HI0 BK101 BK102 HK HB; obtain ⟨HO1_0, HO105, HI0, BK101, BK102, HK, HB⟩ := n_; (try clear ho0 hb); obtain ⟨Ao36, co36, eo36⟩ := Kd.Bb HO105.out; subst eo36) | ((with_reducible refine Ay (N := 5) rfl ?_); refine Be zr (N := 5) zr (cs := #[.slice none 0 0]) (t := 26) zg ?_; intro gb106 hg w37 hbox hb; have n_ := y16 (Kd.Ap (zR HO1_0.out) hb) (Kd.Ap (zR HO105.out) hb) (Af.below (zI) hb) (zb BK101.out hb) (zb BK102.out hb) (Dn.below (S := (fun k_ => (P1_0_ k_) ∨ k_ = g)) (zJ) hb) (Ab (zB) hb) (hbox) ((by rw [hg]; exact (by first | exact HK.out.1 | exact (show Dn w _ (fun k_ => (P1_0_ k_) ∨ k_ = g) from zJ).1) : w.heap.size ≤ gb106)) ((zS hg : w0.heap.size ≤ gb106)) ((zL hg BK101.out : gb101 ≠ gb106)) ((zM hg BK101.out : gb106 ≠ gb101)) ((zL hg BK102.out : gb102 ≠ gb106)) ((zM hg BK102.out : gb106 ≠ gb102)) ((by rw [hg]; exact Nat.ne_of_lt (Af.lt (show Af w0 _ g s0_0 s0_1 s0_2 from zI)) : g ≠ gb106)) ((by rw [hg]; exact Nat.ne_of_gt (Af.lt (show Af w0 _ g s0_0 s0_1 s0_2 from zI)) : gb106 ≠ g)); clear HO1_0 HO105 HI0 BK101 BK102 HK HB; obtain ⟨HO1_0, HO105, HI0, BK101, BK102, HK, HB, BK106, GW106, GE106, NB101_106, NB106_101, NB102_106, NB106_102, NB0_106, NB106_0⟩ := n_; clear hb hbox hg; have hnb38 := NB106_101.out; have hnc38 := NB101_106.out; have hnb39 := NB106_102.out; have hnc39 := NB102_106.out; have hnb40 := NB106_0.out; have hnc40 := NB0_106.out; obtain ⟨hcz41_0, hfz41_0⟩ := zw BK106.out) | (refine gK 29 ?_; refine gL 11 Tryz.func29 #[.pointer (some ⟨g, 0, none⟩), .int .i64 50] ?_; (with_reducible refine (Bf.calls g s0_0 s0_1 s0_2 50 t107 t108 t109 w0 _ ?side1 ?side2 A4.out).mono ?_); (case side1 => exact zI); (case side2 => exact zB); rintro e w42 ⟨rfl, hi, hb, hk⟩; refine ⟨_, rfl, ?_⟩; have n_ := y8 (Kd.Ai (Kd.Cz (Af.apart (show Af w0 _ g s0_0 s0_1 s0_2 from zI) (zV HO1_0.out BK106.out) (by decide)) hk (fun _ h => h.2)) (fun _ h => h.1)) (Av.blk hk (g' := gb101) (o := .cells #[.slice Ao29 l1_0.length co29] 26 (0, 0)) (by refine zG ?_; refine Ce ?_ NB101_106.out _; refine zG ?_; exact BK101.out) NB101_0.out (by simp)) (Av.blk hk (g' := gb102) (o := .cells #[.slice none 0 0] 26 (0, 0)) (by refine zG ?_; refine Ce ?_ NB102_106.out _; refine zG ?_; exact BK102.out) NB102_0.out (by simp)) (Kd.Ai (Kd.Cz (Af.apart (show Af w0 _ g s0_0 s0_1 s0_2 from zI) (zV HO105.out BK106.out) (by decide)) hk (fun _ h => h.2)) (fun _ h => h.1)) (Av.blk hk (g' := gb106) (o := .cells #[.slice Ao36 t103.length co36] 26 (0, 0)) (by (with_reducible repeat (first | refine Am ?_ _ | refine Ag ?_ | refine Ak ?_ _)); refine Cl (cs := #[.slice none 0 0]) ?_ 0 _ rfl; (with_reducible repeat (first | refine Am ?_ _ | refine Ag ?_ | refine Ak ?_ _)); exact BK106.out) NB106_0.out (by simp)) (Dn.of_keep (S := (fun k_ => (P1_0_ k_) ∨ k_ = g)) (zJ) hk (.inl (.inr rfl))) (hb) (hi); clear HO1_0 BK101 BK102 HO105 BK106 HK HB HI0; obtain ⟨HO1_0, BK101, BK102, HO105, BK106, HK, HB, HI0⟩ := n_; (try clear hi hb hk)))
 have n_ := y8 (Kd.Ep HO1_0.out) (Kd.Ep HO105.out) (Ag BK101.out) (Ag BK102.out) (Ag BK106.out) (Af.drew HI0.out) (Dn.drew HK.out) (Bz HB.out)
 clear HO1_0 HO105 BK101 BK102 BK106 HI0 HK HB
 obtain ⟨HO1_0, HO105, BK101, BK102, BK106, HI0, HK, HB⟩ := n_
 refine Fg (n := 11) (S := fun w' => w'.cell? ⟨gb106, 0, none⟩ = some (.slice Ao36 t103.length co36) ∧ w'.cell? ⟨gb101, 0, none⟩ = some (.slice Ao29 l1_0.length co29)) (ds := [10]) #[false,false,false,false,false,false,false,false,false,false,false] zk rfl rfl ⟨(Au BK106.out 0).trans rfl, (Au BK101.out 0).trans rfl⟩ (fun hHeld => ?_); refine Eh Bm.tab6 Bm.bits6 (fun HT_ HW_ => ?_)
 generalize w42.drew = w43 at HO1_0 HO105 BK101 BK102 BK106 HI0 HK HB hHeld ⊢
 refine pT 0 17 HT_ ?_
 refine pT 2 19 HT_ ?_
 refine pT 6 23 HT_ ?_
 refine tT 1 18 HT_ HW_ hHeld ?_
 refine tT 3 20 HT_ HW_ hHeld ?_
 refine q3f (σ := Value) 3 #[true,true,true,true,true,true,true,true,false,false,false] (fun s_ => [(21, .int .i64 t110), (22, .int .i64 t111), (24, s_)]) (fun s_ w' => (w'.cell? ⟨gb106, 0, none⟩ = some (.slice Ao36 t103.length co36) ∧ w'.cell? ⟨gb101, 0, none⟩ = some (.slice Ao29 l1_0.length co29)) ∧ (Kd.R (Kd.int .i64) 2 w' w0.heap.size (fun k_ => (P1_0_ k_ ∨ w.heap.size ≤ k_) ∧ some k_ ≠ (s_ : Value).ownBlock ∧ some k_ ≠ (.slice Ao29 l1_0.length co29 : Value).ownBlock) (.slice Ao36 t103.length co36) t103) ∧ (Kd.R (Kd.int .i64) 2 w' w0.heap.size (fun k_ => (P1_0_ k_ ∨ w.heap.size ≤ k_) ∧ some k_ ≠ (.slice Ao36 t103.length co36 : Value).ownBlock ∧ some k_ ≠ (.slice Ao29 l1_0.length co29 : Value).ownBlock) s_ y114) ∧ (Kd.R (Kd.int .i64) 2 w' w0.heap.size (fun k_ => (P1_0_ k_ ∨ w.heap.size ≤ k_) ∧ some k_ ≠ (.slice Ao36 t103.length co36 : Value).ownBlock ∧ some k_ ≠ (s_ : Value).ownBlock) (.slice Ao29 l1_0.length co29) l1_0) ∧ (w'.heap[gb101]? = some (.cells #[.slice Ao29 l1_0.length co29] 26 (0, 0))) ∧ (w'.heap[gb102]? = some (.cells #[.slice none 0 0] 26 (0, 0))) ∧ (w'.heap[gb106]? = some (.cells #[.slice Ao36 t103.length co36] 26 (0, 0))) ∧ (Af w0 w' g s0_0 t112 t113) ∧ (Dn w w' (fun k_ => (P1_0_ k_) ∨ k_ = g)) ∧ (Below w0.heap.size w0 w')) ?_ ?_
 rotate_left
 ·
  intro hCont
  refine q2U (i := 4) (j := 7) (Ni := some 21) (Nj := some 24) #[true,true,true,true,true,false,true,false,false,false,false] #[true,true,true,true,false,false,true,true,false,false,false] rfl rfl rfl rfl (Ww HT_.out zk) (by decide) (by decide) (fun K hK => ?_) (fun K hK => ?_)
  ·
   skip
   refine Ff Tryz.func28 zk rfl #[.agg #[.slice Ao29 l1_0.length co29]] (by rfl) rfl rfl zA ?_
   with_reducible refine (Dt.calls _ _ l1_0 t110 _ ?side1 ?side2 A23.out).mono ?_
   (case side1 => exact zC (Kd.Ae HO1_0.out).2.2)
   (case side2 => exact (Kd.Ae HO1_0.out).2.1)
   rintro e w44 ⟨rfl, hb⟩
   refine ⟨_, rfl, ?_⟩
   have n_ := y8 (Kd.Ap (zR HO1_0.out) hb) (Kd.Ap (zR HO105.out) hb) (Af.below (zI) hb) (zb BK101.out hb) (zb BK102.out hb) (zb BK106.out hb) (Dn.below (S := (fun k_ => (P1_0_ k_) ∨ k_ = g)) (zJ) hb) (Ab (zB) hb)
   clear HO1_0 HO105 HI0 BK101 BK102 BK106 HK HB
   obtain ⟨HO1_0, HO105, HI0, BK101, BK102, BK106, HK, HB⟩ := n_
   try clear hb
   refine hK.out _ _ ⟨(Au BK106.out 0).trans rfl, (Au BK101.out 0).trans rfl⟩ (fun hHeld => ?_)
   clear hK K
   refine nT 21 ?_
   refine q2U (i := 5) (j := 7) (Ni := some 22) (Nj := some 24) #[true,true,true,true,true,true,true,false,false,false,false] #[true,true,true,true,true,false,true,true,false,false,false] rfl rfl rfl rfl (Ww HT_.out zk) (by decide) (by decide) (fun K hK => ?_) (fun K hK => ?_)
   ·
    skip
    refine Ff Tryz.func29 zk rfl #[.pointer (some ⟨g, 0, none⟩), .int .i64 t110] (by rfl) rfl rfl zA ?_
    with_reducible refine (Bf.calls g s0_0 t108 t109 t110 t111 t112 t113 w0 _ ?side1 ?side2 A24.out).mono ?_
    (case side1 => exact zI)
    (case side2 => exact zB)
    rintro e w45 ⟨rfl, hi, hb, hk⟩
    refine ⟨_, rfl, ?_⟩
    have n_ := y8 (Kd.Ai (Kd.Cz (Af.apart (show Af w0 _ g s0_0 t108 t109 from zI) (zR HO1_0.out) (by decide)) hk (fun _ h => h.2)) (fun _ h => h.1)) (zW BK101.out hk NB101_0.out) (zW BK102.out hk NB102_0.out) (Kd.Ai (Kd.Cz (Af.apart (show Af w0 _ g s0_0 t108 t109 from zI) (zR HO105.out) (by decide)) hk (fun _ h => h.2)) (fun _ h => h.1)) (zW BK106.out hk NB106_0.out) (Dn.of_keep (S := (fun k_ => (P1_0_ k_) ∨ k_ = g)) (zJ) hk (.inl (.inr rfl))) (hb) (hi)
    clear HO1_0 BK101 BK102 HO105 BK106 HK HB HI0
    obtain ⟨HO1_0, BK101, BK102, HO105, BK106, HK, HB, HI0⟩ := n_
    try clear hi hb hk
    refine hK.out _ _ ⟨(Au BK106.out 0).trans rfl, (Au BK101.out 0).trans rfl⟩ (fun hHeld => ?_)
    clear hK K
    refine nT 22 ?_
    refine Fk (i := 7) (N := some 24) #[true,true,true,true,true,true,true,true,false,false,false] rfl rfl (Db HT_.out zk) (by decide) (fun K hK => ?_)
    refine Kd.Lu (Kd.int .i64) _ 2 ?hg (N := 24) ?hd (xs := ([0, 41, (-1), 1099511627776] : List Int)) (inner := [.int .i64 0, .int .i64 41, .int .i64 (-1), .int .i64 1099511627776]) (ok := fun _ => True) (okp := fun _ => True) ?hr ?hp (fun _ hk => hk) trivial (Below.refl _ _) (Nat.le_refl _) (by simp) ?_; (case hd => rfl); (case hg => rfl); (case hr => first | (go_simp; done) | (go_simp; rfl)); (case hp => exact (Dk.one (show Kd.M (Kd.int .i64) _ _ _ 0 [.int .i64 0] from rfl) (Dk.one (show Kd.M (Kd.int .i64) _ _ _ 41 [.int .i64 41] from rfl) (Dk.one (show Kd.M (Kd.int .i64) _ _ _ (-1) [.int .i64 (-1)] from rfl) (Dk.one (show Kd.M (Kd.int .i64) _ _ _ 1099511627776 [.int .i64 1099511627776] from rfl) (Dk.none _ _))))))
    intro v115 w46 ho47 hb hg_ hnew_
    clear hg_ hnew_
    (first | rw [← Ny114.out] at ho47 | (simp only [Int.reduceToNat] at ho47; rw [← Ny114.out] at ho47))
    have n_ := y9 (Kd.Bu (zR HO1_0.out) (Kd.Bs ho47) hb) (Kd.Bu (zR HO105.out) (Kd.Bs ho47) hb) (Kd.Bk (Kd.Bt (Kd.Bt (Kd.Rh (M := fun k_ => (P1_0_ k_ ∨ w.heap.size ≤ k_)) ho47 (by first | exact HK.out.1 | exact (show Dn w _ (fun k_ => (P1_0_ k_) ∨ k_ = g) from zJ).1) (fun k_ h_ => .inr h_)) (Kd.Cx (zR HO1_0.out))) (Kd.Cx (zR HO105.out))) (An (zB))) (Af.below (zI) hb) (zb BK101.out hb) (zb BK102.out hb) (zb BK106.out hb) (Dn.below (S := (fun k_ => (P1_0_ k_) ∨ k_ = g)) (zJ) hb) (Ab (zB) hb)
    clear HO1_0 HO105 HI0 BK101 BK102 BK106 HK HB
    obtain ⟨HO1_0, HO105, HO116, HI0, BK101, BK102, BK106, HK, HB⟩ := n_
    clear hb ho47
    refine hK.out _ _ ⟨(Au BK106.out 0).trans rfl, (Au BK101.out 0).trans rfl⟩ (fun hHeld => ?_)
    clear hK K
    refine nT 24 ?_
    exact Re (by simp only [Nn, Act.put, List.setIfInBounds_toArray, List.set_cons_zero, List.set_cons_succ]) (hCont (v115) _ ⟨hHeld, (by refine zR ?_; exact Kd.Ai HO105.out (fun _ hk => ⟨hk.1.1.1, ⟨hk.2, hk.1.2⟩⟩)), (by refine zR ?_; exact Kd.Ai HO116.out (fun _ hk => ⟨hk.1.1.1, ⟨hk.2, hk.1.2⟩⟩)), (by refine zR ?_; exact Kd.Ai HO1_0.out (fun _ hk => ⟨hk.1.1, ⟨hk.1.2, hk.2⟩⟩)), (zG BK101.out), (zG BK102.out), (zG BK106.out), (zI), (zJ), (zB)⟩)
   skip
   refine Kd.Lu (Kd.int .i64) _ 2 ?hg (N := 24) ?hd (xs := ([0, 41, (-1), 1099511627776] : List Int)) (inner := [.int .i64 0, .int .i64 41, .int .i64 (-1), .int .i64 1099511627776]) (ok := fun _ => True) (okp := fun _ => True) ?hr ?hp (fun _ hk => hk) trivial (Below.refl _ _) (Nat.le_refl _) (by simp) ?_; (case hd => rfl); (case hg => rfl); (case hr => first | (go_simp; done) | (go_simp; rfl)); (case hp => exact (Dk.one (show Kd.M (Kd.int .i64) _ _ _ 0 [.int .i64 0] from rfl) (Dk.one (show Kd.M (Kd.int .i64) _ _ _ 41 [.int .i64 41] from rfl) (Dk.one (show Kd.M (Kd.int .i64) _ _ _ (-1) [.int .i64 (-1)] from rfl) (Dk.one (show Kd.M (Kd.int .i64) _ _ _ 1099511627776 [.int .i64 1099511627776] from rfl) (Dk.none _ _))))))
   intro v115 w45 ho46 hb hg_ hnew_
   clear hg_ hnew_
   (first | rw [← Ny114.out] at ho46 | (simp only [Int.reduceToNat] at ho46; rw [← Ny114.out] at ho46))
   have n_ := y9 (Kd.Bu (zR HO1_0.out) (Kd.Bs ho46) hb) (Kd.Bu (zR HO105.out) (Kd.Bs ho46) hb) (Kd.Bk (Kd.Bt (Kd.Bt (Kd.Rh (M := fun k_ => (P1_0_ k_ ∨ w.heap.size ≤ k_)) ho46 (by first | exact HK.out.1 | exact (show Dn w _ (fun k_ => (P1_0_ k_) ∨ k_ = g) from zJ).1) (fun k_ h_ => .inr h_)) (Kd.Cx (zR HO1_0.out))) (Kd.Cx (zR HO105.out))) (An (zB))) (Af.below (zI) hb) (zb BK101.out hb) (zb BK102.out hb) (zb BK106.out hb) (Dn.below (S := (fun k_ => (P1_0_ k_) ∨ k_ = g)) (zJ) hb) (Ab (zB) hb)
   clear HO1_0 HO105 HI0 BK101 BK102 BK106 HK HB
   obtain ⟨HO1_0, HO105, HO116, HI0, BK101, BK102, BK106, HK, HB⟩ := n_
   clear hb ho46
   refine hK.out _ _ ⟨(Au BK106.out 0).trans rfl, (Au BK101.out 0).trans rfl⟩ (fun hHeld => ?_)
   clear hK K
   refine nT 24 ?_
   refine Fk (i := 5) (N := some 22) #[true,true,true,true,true,true,true,true,false,false,false] rfl rfl (Db HT_.out zk) (by decide) (fun K hK => ?_)
   refine Ff Tryz.func29 zk rfl #[.pointer (some ⟨g, 0, none⟩), .int .i64 t110] (by rfl) rfl rfl zA ?_
   with_reducible refine (Bf.calls g s0_0 t108 t109 t110 t111 t112 t113 w0 _ ?side1 ?side2 A24.out).mono ?_
   (case side1 => exact zI)
   (case side2 => exact zB)
   rintro e w47 ⟨rfl, hi, hb, hk⟩
   refine ⟨_, rfl, ?_⟩
   have n_ := y9 (Kd.Ai (Kd.Cz (Af.apart (show Af w0 _ g s0_0 t108 t109 from zI) (zR HO1_0.out) (by decide)) hk (fun _ h => h.2)) (fun _ h => h.1)) (zW BK101.out hk NB101_0.out) (zW BK102.out hk NB102_0.out) (Kd.Ai (Kd.Cz (Af.apart (show Af w0 _ g s0_0 t108 t109 from zI) (zR HO105.out) (by decide)) hk (fun _ h => h.2)) (fun _ h => h.1)) (zW BK106.out hk NB106_0.out) (Kd.Ai (Kd.Cz (Af.apart (show Af w0 _ g s0_0 t108 t109 from zI) (zR HO116.out) (by decide)) hk (fun _ h => h.2)) (fun _ h => h.1)) (Dn.of_keep (S := (fun k_ => (P1_0_ k_) ∨ k_ = g)) (zJ) hk (.inl (.inr rfl))) (hb) (hi)
   clear HO1_0 BK101 BK102 HO105 BK106 HO116 HK HB HI0
   obtain ⟨HO1_0, BK101, BK102, HO105, BK106, HO116, HK, HB, HI0⟩ := n_
   try clear hi hb hk
   refine hK.out _ _ ⟨(Au BK106.out 0).trans rfl, (Au BK101.out 0).trans rfl⟩ (fun hHeld => ?_)
   clear hK K
   refine nT 22 ?_
   exact Re (by simp only [Nn, Act.put, List.setIfInBounds_toArray, List.set_cons_zero, List.set_cons_succ]) (hCont (v115) _ ⟨hHeld, (by refine zR ?_; exact Kd.Ai HO105.out (fun _ hk => ⟨hk.1.1.1, ⟨hk.2, hk.1.2⟩⟩)), (by refine zR ?_; exact Kd.Ai HO116.out (fun _ hk => ⟨hk.1.1.1, ⟨hk.2, hk.1.2⟩⟩)), (by refine zR ?_; exact Kd.Ai HO1_0.out (fun _ hk => ⟨hk.1.1, ⟨hk.1.2, hk.2⟩⟩)), (zG BK101.out), (zG BK102.out), (zG BK106.out), (zI), (zJ), (zB)⟩)
  skip
  refine Kd.Lu (Kd.int .i64) _ 2 ?hg (N := 24) ?hd (xs := ([0, 41, (-1), 1099511627776] : List Int)) (inner := [.int .i64 0, .int .i64 41, .int .i64 (-1), .int .i64 1099511627776]) (ok := fun _ => True) (okp := fun _ => True) ?hr ?hp (fun _ hk => hk) trivial (Below.refl _ _) (Nat.le_refl _) (by simp) ?_; (case hd => rfl); (case hg => rfl); (case hr => first | (go_simp; done) | (go_simp; rfl)); (case hp => exact (Dk.one (show Kd.M (Kd.int .i64) _ _ _ 0 [.int .i64 0] from rfl) (Dk.one (show Kd.M (Kd.int .i64) _ _ _ 41 [.int .i64 41] from rfl) (Dk.one (show Kd.M (Kd.int .i64) _ _ _ (-1) [.int .i64 (-1)] from rfl) (Dk.one (show Kd.M (Kd.int .i64) _ _ _ 1099511627776 [.int .i64 1099511627776] from rfl) (Dk.none _ _))))))
  intro v115 w44 ho45 hb hg_ hnew_
  clear hg_ hnew_
  (first | rw [← Ny114.out] at ho45 | (simp only [Int.reduceToNat] at ho45; rw [← Ny114.out] at ho45))
  have n_ := y9 (Kd.Bu (zR HO1_0.out) (Kd.Bs ho45) hb) (Kd.Bu (zR HO105.out) (Kd.Bs ho45) hb) (Kd.Bk (Kd.Bt (Kd.Bt (Kd.Rh (M := fun k_ => (P1_0_ k_ ∨ w.heap.size ≤ k_)) ho45 (by first | exact HK.out.1 | exact (show Dn w _ (fun k_ => (P1_0_ k_) ∨ k_ = g) from zJ).1) (fun k_ h_ => .inr h_)) (Kd.Cx (zR HO1_0.out))) (Kd.Cx (zR HO105.out))) (An (zB))) (Af.below (zI) hb) (zb BK101.out hb) (zb BK102.out hb) (zb BK106.out hb) (Dn.below (S := (fun k_ => (P1_0_ k_) ∨ k_ = g)) (zJ) hb) (Ab (zB) hb)
  clear HO1_0 HO105 HI0 BK101 BK102 BK106 HK HB
  obtain ⟨HO1_0, HO105, HO116, HI0, BK101, BK102, BK106, HK, HB⟩ := n_
  clear hb ho45
  refine hK.out _ _ ⟨(Au BK106.out 0).trans rfl, (Au BK101.out 0).trans rfl⟩ (fun hHeld => ?_)
  clear hK K
  refine nT 24 ?_
  refine Fk (i := 4) (N := some 21) #[true,true,true,true,true,false,true,true,false,false,false] rfl rfl (Db HT_.out zk) (by decide) (fun K hK => ?_)
  refine Ff Tryz.func28 zk rfl #[.agg #[.slice Ao29 l1_0.length co29]] (by rfl) rfl rfl zA ?_
  with_reducible refine (Dt.calls _ _ l1_0 t110 _ ?side1 ?side2 A23.out).mono ?_
  (case side1 => exact zC (Kd.Ae HO1_0.out).2.2)
  (case side2 => exact (Kd.Ae HO1_0.out).2.1)
  rintro e w46 ⟨rfl, hb⟩
  refine ⟨_, rfl, ?_⟩
  have n_ := y9 (Kd.Ap (zR HO1_0.out) hb) (Kd.Ap (zR HO105.out) hb) (Kd.Ap (zR HO116.out) hb) (Af.below (zI) hb) (zb BK101.out hb) (zb BK102.out hb) (zb BK106.out hb) (Dn.below (S := (fun k_ => (P1_0_ k_) ∨ k_ = g)) (zJ) hb) (Ab (zB) hb)
  clear HO1_0 HO105 HO116 HI0 BK101 BK102 BK106 HK HB
  obtain ⟨HO1_0, HO105, HO116, HI0, BK101, BK102, BK106, HK, HB⟩ := n_
  try clear hb
  refine hK.out _ _ ⟨(Au BK106.out 0).trans rfl, (Au BK101.out 0).trans rfl⟩ (fun hHeld => ?_)
  clear hK K
  refine nT 21 ?_
  refine Fk (i := 5) (N := some 22) #[true,true,true,true,true,true,true,true,false,false,false] rfl rfl (Db HT_.out zk) (by decide) (fun K hK => ?_)
  refine Ff Tryz.func29 zk rfl #[.pointer (some ⟨g, 0, none⟩), .int .i64 t110] (by rfl) rfl rfl zA ?_
  with_reducible refine (Bf.calls g s0_0 t108 t109 t110 t111 t112 t113 w0 _ ?side1 ?side2 A24.out).mono ?_
  (case side1 => exact zI)
  (case side2 => exact zB)
  rintro e w47 ⟨rfl, hi, hb, hk⟩
  refine ⟨_, rfl, ?_⟩
  have n_ := y9 (Kd.Ai (Kd.Cz (Af.apart (show Af w0 _ g s0_0 t108 t109 from zI) (zR HO1_0.out) (by decide)) hk (fun _ h => h.2)) (fun _ h => h.1)) (zW BK101.out hk NB101_0.out) (zW BK102.out hk NB102_0.out) (Kd.Ai (Kd.Cz (Af.apart (show Af w0 _ g s0_0 t108 t109 from zI) (zR HO105.out) (by decide)) hk (fun _ h => h.2)) (fun _ h => h.1)) (zW BK106.out hk NB106_0.out) (Kd.Ai (Kd.Cz (Af.apart (show Af w0 _ g s0_0 t108 t109 from zI) (zR HO116.out) (by decide)) hk (fun _ h => h.2)) (fun _ h => h.1)) (Dn.of_keep (S := (fun k_ => (P1_0_ k_) ∨ k_ = g)) (zJ) hk (.inl (.inr rfl))) (hb) (hi)
  clear HO1_0 BK101 BK102 HO105 BK106 HO116 HK HB HI0
  obtain ⟨HO1_0, BK101, BK102, HO105, BK106, HO116, HK, HB, HI0⟩ := n_
  try clear hi hb hk
  refine hK.out _ _ ⟨(Au BK106.out 0).trans rfl, (Au BK101.out 0).trans rfl⟩ (fun hHeld => ?_)
  clear hK K
  refine nT 22 ?_
  exact Re (by simp only [Nn, Act.put, List.setIfInBounds_toArray, List.set_cons_zero, List.set_cons_succ]) (hCont (v115) _ ⟨hHeld, (by refine zR ?_; exact Kd.Ai HO105.out (fun _ hk => ⟨hk.1.1.1, ⟨hk.2, hk.1.2⟩⟩)), (by refine zR ?_; exact Kd.Ai HO116.out (fun _ hk => ⟨hk.1.1.1, ⟨hk.2, hk.1.2⟩⟩)), (by refine zR ?_; exact Kd.Ai HO1_0.out (fun _ hk => ⟨hk.1.1, ⟨hk.1.2, hk.2⟩⟩)), (zG BK101.out), (zG BK102.out), (zG BK106.out), (zI), (zJ), (zB)⟩)
 rintro v115 w48 ⟨hS_, h0_, h1_, h2_, h3_, h4_, h5_, h6_, h7_, h8_⟩
 have n0_ : Aa (Kd.R (Kd.int .i64) 2 w48 w0.heap.size (fun k_ => (P1_0_ k_ ∨ w.heap.size ≤ k_) ∧ some k_ ≠ (v115 : Value).ownBlock ∧ some k_ ≠ (.slice Ao29 l1_0.length co29 : Value).ownBlock) (.slice Ao36 t103.length co36) t103) := ⟨h0_⟩
 have n1_ : Aa (Kd.R (Kd.int .i64) 2 w48 w0.heap.size (fun k_ => (P1_0_ k_ ∨ w.heap.size ≤ k_) ∧ some k_ ≠ (.slice Ao36 t103.length co36 : Value).ownBlock ∧ some k_ ≠ (.slice Ao29 l1_0.length co29 : Value).ownBlock) v115 y114) := ⟨h1_⟩
 have n2_ : Aa (Kd.R (Kd.int .i64) 2 w48 w0.heap.size (fun k_ => (P1_0_ k_ ∨ w.heap.size ≤ k_) ∧ some k_ ≠ (.slice Ao36 t103.length co36 : Value).ownBlock ∧ some k_ ≠ (v115 : Value).ownBlock) (.slice Ao29 l1_0.length co29) l1_0) := ⟨h2_⟩
 have n3_ : Aa (w48.heap[gb101]? = some (.cells #[.slice Ao29 l1_0.length co29] 26 (0, 0))) := ⟨h3_⟩
 have n4_ : Aa (w48.heap[gb102]? = some (.cells #[.slice none 0 0] 26 (0, 0))) := ⟨h4_⟩
 have n5_ : Aa (w48.heap[gb106]? = some (.cells #[.slice Ao36 t103.length co36] 26 (0, 0))) := ⟨h5_⟩
 have n6_ : Aa (Af w0 w48 g s0_0 t112 t113) := ⟨h6_⟩
 have n7_ : Aa (Dn w w48 (fun k_ => (P1_0_ k_) ∨ k_ = g)) := ⟨h7_⟩
 have n8_ : Aa (Below w0.heap.size w0 w48) := ⟨h8_⟩
 clear HO1_0
 clear HO105
 clear BK101
 clear BK102
 clear BK106
 clear HI0
 clear HK
 clear HB
 clear h0_ h1_ h2_ h3_ h4_ h5_ h6_ h7_ h8_
 have HO105 := n0_
 have HO116 := n1_
 have HO1_0 := n2_
 have BK101 := n3_
 have BK102 := n4_
 have BK106 := n5_
 have HI0 := n6_
 have HK := n7_
 have HB := n8_
 clear n0_ n1_ n2_ n3_ n4_ n5_ n6_ n7_ n8_
 have hHeld : w48.cell? ⟨gb106, 0, none⟩ = some (.slice Ao36 t103.length co36) ∧ w48.cell? ⟨gb101, 0, none⟩ = some (.slice Ao29 l1_0.length co29) := hS_
 obtain ⟨Ao49, co49, eo49⟩ := Kd.Bb HO116.out
 (first | subst eo49 | (injection eo49 with f1_ f2_ f3_; have f4_ := f1_.symm; have f5_ := f3_.symm; clear f1_ f2_ f3_; subst f4_; subst f5_))
 refine Re (a' := ?_) ?_ ?_
 rotate_left
 ·
  simp only [Nn, Act.put, List.setIfInBounds_toArray, List.set_cons_zero, List.set_cons_succ]
  rfl
 refine Fk (i := 8) (N := some 25) #[true,true,true,true,true,true,true,true,true,false,false] rfl rfl (Db HT_.out zk) (by decide) (fun K hK => ?_)
 refine Ff Tryz.func52 zk rfl #[.pointer (some ⟨g, 0, none⟩), .slice Ao49 y114.length co49] (by rfl) rfl rfl zA ?_
 with_reducible refine (Co.calls g s0_0 t112 t113 _ _ y114 t117 t118 t119 w0 _ ?side1 ?side2 ?side3 ?side4 ?side5 A25.out).mono ?_
 (case side1 => exact zI)
 (case side2 => exact zB)
 (case side3 => exact zC (Kd.Ae HO116.out).2.2)
 (case side4 => exact (Kd.Ae HO116.out).2.1)
 (case side5 => exact Gx (Af.Gd HI0.out HO116.out (by decide)))
 rintro e w50 ⟨rfl, hi, hb, hk⟩
 refine ⟨_, rfl, ?_⟩
 have n_ := y9 (Kd.Ai (Kd.Cz (Af.apart (show Af w0 _ g s0_0 t112 t113 from zI) (zR HO1_0.out) (by decide)) hk (fun _ h => h.2)) (fun _ h => h.1)) (zW BK101.out hk NB101_0.out) (zW BK102.out hk NB102_0.out) (Kd.Ai (Kd.Cz (Af.apart (show Af w0 _ g s0_0 t112 t113 from zI) (zR HO105.out) (by decide)) hk (fun _ h => h.2)) (fun _ h => h.1)) (zW BK106.out hk NB106_0.out) (Kd.Ai (Kd.Cz (Af.apart (show Af w0 _ g s0_0 t112 t113 from zI) (zR HO116.out) (by decide)) hk (fun _ h => h.2)) (fun _ h => h.1)) (Dn.of_keep (S := (fun k_ => (P1_0_ k_) ∨ k_ = g)) (zJ) hk (.inl (.inr rfl))) (hb) (hi)
 clear HO1_0 BK101 BK102 HO105 BK106 HO116 HK HB HI0
 obtain ⟨HO1_0, BK101, BK102, HO105, BK106, HO116, HK, HB, HI0⟩ := n_
 try clear hi hb hk
 have p28 : 0 ≤ (t111 : Int) := zD
 have q28 : (t111 : Int) < ((t103.length : Int) : Int) := zD
 obtain ⟨go28, co28, eo28, gb28, gl28, cl28, HG28⟩ := Kd.Lk HO105.out (by omega)
 (first | cases eo28 | (injection eo28 with ea_ en_ ec_; (first | subst ea_ | (injection ea_ with ea_; subst ea_)); subst ec_; clear en_))
 have GB28 := Aa.mk gb28
 have GG28 := Aa.mk HG28
 clear gb28 gl28 HG28
 have HMgo28 := Aa.mk (show (P1_0_ go28 ∨ w.heap.size ≤ go28) from (HO105.out.1 _ rfl).1)
 obtain ⟨hx28_0, hf28_0⟩ := Kd.Fx 0 HO105.out (t111 : Int) p28 q28
 replace p28 := eq_true p28
 replace q28 := eq_true q28
 have HN0_go28 := Aa.mk (show g ≠ go28 from by have h_ := Af.Gd HI0.out HO105.out (by decide); intro e_; exact h_ (by rw [e_]; rfl))
 have HP51 := Kd.Pm HO105.out (t111 : Int) t117
 rw [← Ny120.out] at HP51
 have HQ51 := Aa.mk HP51
 clear HP51
 refine hK.out _ _ ⟨(Au BK106.out 0).trans rfl, (Au BK101.out 0).trans rfl⟩ (fun hHeld => ?_)
 clear hK K
 refine nT 25 ?_
 refine pT 9 26 HT_ ?_
 refine Ms (i := 10) (N := none) #[true,true,true,true,true,true,true,true,true,true,true] rfl rfl (Db HT_.out zk) (by decide) (fun K hK => ?_)
 refine Lo (w1 := ?_) (by rfl) rfl ?_ ?_
 rotate_left
 ·
  go_simp
  rfl
 refine hK.out _ _ ?_
 clear hK K
 refine Gf (Fo HT_.out zk) ?_
 have n0_ : Aa (Kd.R (Kd.int .i64) 2 (w50.setCell ⟨go28, (t111 : Int).toNat, none⟩ (.int .i64 t117)) w0.heap.size (fun k_ => (P1_0_ k_ ∨ w.heap.size ≤ k_) ∧ some k_ ≠ (.slice (some ⟨go28, 0, none⟩) t103.length co36 : Value).ownBlock ∧ some k_ ≠ (.slice Ao49 y114.length co49 : Value).ownBlock) (.slice Ao29 l1_0.length co29) l1_0) := ⟨by refine zR ?_; exact Kd.Ai (Kd.Dv (p := ⟨go28, (t111 : Int).toNat, none⟩) (Kd.Ai HO1_0.out (fun k_ hk => (⟨hk, fun e_ => hk.2.1 (by rw [e_]; rfl)⟩ : _ ∧ k_ ≠ go28))) (fun _ hk => hk.2) (.int .i64 t117)) (fun _ hk => ⟨hk.1.1, ⟨hk.1.2.1, hk.1.2.2⟩⟩)⟩
 have n1_ : Aa (Kd.R (Kd.int .i64) 2 (w50.setCell ⟨go28, (t111 : Int).toNat, none⟩ (.int .i64 t117)) w0.heap.size (fun k_ => (P1_0_ k_ ∨ w.heap.size ≤ k_) ∧ some k_ ≠ (.slice Ao29 l1_0.length co29 : Value).ownBlock ∧ some k_ ≠ (.slice Ao49 y114.length co49 : Value).ownBlock) (.slice (some ⟨go28, 0, none⟩) t103.length co36) y120) := ⟨by refine zR ?_; exact Kd.Ai HQ51.out (fun _ hk => ⟨hk.1, ⟨hk.2.2, hk.2.1⟩⟩)⟩
 have n2_ : Aa (Kd.R (Kd.int .i64) 2 (w50.setCell ⟨go28, (t111 : Int).toNat, none⟩ (.int .i64 t117)) w0.heap.size (fun k_ => (P1_0_ k_ ∨ w.heap.size ≤ k_) ∧ some k_ ≠ (.slice Ao29 l1_0.length co29 : Value).ownBlock ∧ some k_ ≠ (.slice (some ⟨go28, 0, none⟩) t103.length co36 : Value).ownBlock) (.slice Ao49 y114.length co49) y114) := ⟨by refine zR ?_; exact Kd.Ai (Kd.Dv (p := ⟨go28, (t111 : Int).toNat, none⟩) (Kd.Ai HO116.out (fun k_ hk => (⟨hk, fun e_ => hk.2.1 (by rw [e_]; rfl)⟩ : _ ∧ k_ ≠ go28))) (fun _ hk => hk.2) (.int .i64 t117)) (fun _ hk => ⟨hk.1.1, ⟨hk.1.2.2, hk.1.2.1⟩⟩)⟩
 have n3_ : Aa ((w50.setCell ⟨go28, (t111 : Int).toNat, none⟩ (.int .i64 t117)).heap[gb101]? = some (.cells #[.slice Ao29 l1_0.length co29] 26 (0, 0))) := ⟨by refine zG ?_; refine Ce ?_ (by have h_ := Kd.Em HO105.out BK101.out (by decide); intro e_; exact h_ (by rw [e_]; rfl)) _; refine zG ?_; exact BK101.out⟩
 have n4_ : Aa ((w50.setCell ⟨go28, (t111 : Int).toNat, none⟩ (.int .i64 t117)).heap[gb102]? = some (.cells #[.slice none 0 0] 26 (0, 0))) := ⟨by refine zG ?_; refine Ce ?_ (by have h_ := Kd.Em HO105.out BK102.out (by decide); intro e_; exact h_ (by rw [e_]; rfl)) _; refine zG ?_; exact BK102.out⟩
 have n5_ : Aa ((w50.setCell ⟨go28, (t111 : Int).toNat, none⟩ (.int .i64 t117)).heap[gb106]? = some (.cells #[.slice (some ⟨go28, 0, none⟩) t103.length co36] 26 (0, 0))) := ⟨by refine zG ?_; refine Ce ?_ (by have h_ := Kd.Em HO105.out BK106.out (by decide); intro e_; exact h_ (by rw [e_]; rfl)) _; refine zG ?_; exact BK106.out⟩
 have n6_ : Aa (Af w0 (w50.setCell ⟨go28, (t111 : Int).toNat, none⟩ (.int .i64 t117)) g s0_0 t118 t119) := ⟨zI⟩
 have n7_ : Aa (Dn w (w50.setCell ⟨go28, (t111 : Int).toNat, none⟩ (.int .i64 t117)) (fun k_ => (P1_0_ k_) ∨ k_ = g)) := ⟨by repeat (first | (with_reducible first | exact HK.out | apply Dn.alloc | apply Dn.drewN | apply Dn.drew | refine Dn.setCell ?_ (Or.imp_left Or.inl HMgo28.out) _ | refine Dn.setCell ?_ (.inl (.inr rfl)) _ | refine Dn.setCell ?_ (.inr GW101.out) _ | refine Dn.setCell ?_ (.inr GW102.out) _ | refine Dn.setCell ?_ (.inr GW106.out) _) | exact HK.out)⟩
 have n8_ : Aa (Below w0.heap.size w0 (w50.setCell ⟨go28, (t111 : Int).toNat, none⟩ (.int .i64 t117))) := ⟨zB⟩
 (try clear HO1_0)
 (try clear HO105)
 (try clear HO116)
 (try clear BK101)
 (try clear BK102)
 (try clear BK106)
 (try clear HI0)
 (try clear HK)
 (try clear HB)
 generalize (w50.setCell ⟨go28, (t111 : Int).toNat, none⟩ (.int .i64 t117)) = w52 at n0_ n1_ n2_ n3_ n4_ n5_ n6_ n7_ n8_ ⊢
 have HO1_0 := n0_
 have HO105 := n1_
 have HO116 := n2_
 have BK101 := n3_
 have BK102 := n4_
 have BK106 := n5_
 have HI0 := n6_
 have HK := n7_
 have HB := n8_
 clear n0_ n1_ n2_ n3_ n4_ n5_ n6_ n7_ n8_
 obtain ⟨hcz53_0, hfz53_0⟩ := zw BK106.out
 have hnb54 := NB102_0.out
 have hnc54 := NB0_102.out
 obtain ⟨hcz55_0, hfz55_0⟩ := zw BK102.out
 try go_wp2
 refine bodyPost_ret (results_cell_row rfl _ _ gb102 26 #[.slice (some ⟨go28, 0, none⟩) t103.length co36] (0, 0) _ rfl (by (with_reducible repeat (first | refine Am ?_ _ | refine Ag ?_ | refine Ak ?_ _)); refine Cl (cs := #[.slice none 0 0]) ?_ 0 _ rfl; (with_reducible repeat (first | refine Am ?_ _ | refine Ag ?_ | refine Ak ?_ _)); exact BK102.out) Tryz.underlying26 rfl zk) rfl ?_
 exact ⟨_, zE, by refine zR ?_; exact Kd.Ai (Kd.Dv (p := ⟨gb102, 0, none⟩) (Kd.Cj HO105.out BK102.out (by decide)) (fun _ hk => hk.2) (.slice (some ⟨go28, 0, none⟩) t103.length co36)) (fun _ hk => hk.1.1), zI, zB, zJ⟩
def Cg.f (k : Nat) (l0 : List Int) : Option (List Int × Int × Int) := (Bj.f k l0).bind fun bt102 => ((Du.f k bt102.1 bt102.2.1 bt102.2.2).bind fun bt106 => ((Dt.f bt106.1).bind fun t112 => ((El.f bt102.1 bt106.2.1 bt106.2.2 (wrap64 (t112 - 1))).bind fun bt113 => ((Dt.f bt106.1).bind fun t116 => ((El.f bt102.1 bt113.2.1 bt113.2.2 (wrap64 (t116 - 1))).bind fun bt117 => (if bt113.1 > bt117.1 then ((Bf.f bt102.1 bt117.2.1 bt117.2.2 4).bind fun bt120 => (if bt120.1 > 0 then ((Bm.f k bt102.1 bt120.2.1 bt120.2.2 bt106.1).bind fun bt123 => (some (bt123.1, bt117.1, bt113.1))) else ((Bm.f k bt102.1 bt120.2.1 bt120.2.2 bt106.1).bind fun bt128 => (some (bt128.1, bt113.1, bt117.1))))) else ((Bm.f k bt102.1 bt117.2.1 bt117.2.2 bt106.1).bind fun bt133 => (some (bt133.1, bt113.1, bt117.1)))))))))
theorem Cg.mono : ∀ a0 k, LeO (Cg.f k a0) (Cg.f (k + 1) a0) := by
 intro a0 k
 unfold Cg.f
 repeat' first | (with_reducible first | exact Bm.mono _ _ _ _ _ | exact Du.mono _ _ _ _ | exact Bj.mono _ _ | exact LeO.refl _ | exact LeO.none _ | refine LeO.ite ?_ ?_ | refine LeO.bind ?_ (fun _ => ?_)) | exact Bm.mono _ _ _ _ _ | exact Du.mono _ _ _ _ | exact Bj.mono _ _ | exact LeO.none _ | refine LeO.ite ?_ ?_ | refine LeO.bind ?_ (fun _ => ?_)
def Cg.T3 : Bool × List (List Nat × List Nat) := (true, [([], []), ([], []), ([1], [1]), ([2], [2]), ([0, 3, 2], [0, 3]), ([], []), ([], []), ([6, 4], [6]), ([7], [7]), ([5, 8, 7], [5, 8]), ([4, 9, 0, 1, 2, 3, 4], [4]), ([9, 10, 0, 1, 2, 3, 4, 5, 6, 7, 8, 9, 10], [9])])
def Cg.B3 : List Nat := [0, 0, 2, 6, 15, 0, 0, 95, 223, 511, 1023, 2047]
theorem Cg.tab3 : rtab .any (Lz Tryz.f5 3) = Cg.T3 := by kernel_rfl
theorem Cg.bits3 : Gh Cg.T3.2 Cg.B3 = true := by kernel_rfl
theorem Cg.calls (k : Nat) (A0 : Option Addr) (c0 : Nat) (l0 : List Int) (r1 : List Int) (r2 : Int) (r3 : Int) (w : World) (hr0 : Kd.C (Kd.int .u8) w A0 l0.length l0) (hc0 : l0.length ≤ c0) (h : Cg.f k l0 = some (r1, r2, r3)) :
    Calls Tryz.prog 5 #[.slice A0 l0.length c0] w fun e w' => ∃ v0_ : Value, e = .returned (.tuple #[.agg #[v0_], .int .i64 r2, .int .i64 r3]) ∧ Kd.R (Kd.int .i64) 2 w' w.heap.size (fun _ => True) v0_ r1 ∧ Below w.heap.size w w' := by
 have hu26 := Tryz.underlying26
 have HR0 := Aa.mk hr0
 have HC0 := Aa.mk hc0
 clear hr0 hc0
 have HB := Aa.mk (Below.refl w.heap.size w)
 have H := h
 clear h
 unfold Cg.f at H
 obtain ⟨⟨t102, t103, t104⟩, A2, H⟩ := zO H
 try dsimp only at H
 obtain ⟨⟨t106, t109, t110⟩, A3, H⟩ := zO H
 try dsimp only at H
 obtain ⟨t112, A4, H⟩ := zO H
 try dsimp only at H
 obtain ⟨⟨t113, t114, t115⟩, A5, H⟩ := zO H
 try dsimp only at H
 obtain ⟨t116, A6, H⟩ := zO H
 try dsimp only at H
 obtain ⟨⟨t117, t118, t119⟩, A7, H⟩ := zO H
 try dsimp only at H
 by_cases c8 : t113 > t117
 case neg =>
  rw [if_neg c8] at H
  have c8b0 := decide_eq_false c8
  clear c8
  obtain ⟨⟨t133, t136, t137⟩, A53, H⟩ := zO H
  try dsimp only at H
  simp only [Option.some.injEq, Prod.mk.injEq] at H
  obtain ⟨rfl, rfl, rfl⟩ := H
  go_enter Tryz.func5, Tryz.ntmps5
  try go_wp2_with (first | ((with_reducible refine Ay (N := 2) rfl ?_); refine Be zr (N := 2) zr (cs := #[.slice none 0 0]) (t := 26) zg ?_; intro gb101 hg w54 hbox hb; have n_ := y4 (Ab (zB) hb) (hbox) ((zS hg : w.heap.size ≤ gb101)) ((zS hg : w.heap.size ≤ gb101)); clear HB; obtain ⟨HB, BK101, GW101, GE101⟩ := n_; clear hb hbox hg) | (refine gK 25 ?_; refine gL 11 Tryz.func25 #[.slice A0 l0.length c0] ?_; (with_reducible refine (Bj.calls k _ _ l0 t102 t103 t104 w _ ?side1 HR0.out HC0.out A2.out).mono ?_); (case side1 => exact zB); rintro e w55 ⟨g105, rfl, hi, hb, hb2⟩; refine ⟨_, rfl, ?_⟩; have n_ := y5 (zb BK101.out hb2) (hb) (hi) (Af.ne_blk hi (zb BK101.out hb2) (by decide)) (Ne.symm (Af.ne_blk hi (zb BK101.out hb2) (by decide))); clear BK101 HB; obtain ⟨BK101, HB, HI105, NB105_101, NB101_105⟩ := n_; (try clear hi hb hb2)) | (refine gK 26 ?_; refine gL 13 Tryz.func26 #[.pointer (some ⟨g105, 0, none⟩)] ?_; (with_reducible refine (Du.calls k g105 t102 t103 t104 t106 t109 t110 w _ ?side1 ?side2 A3.out).mono ?_); (case side1 => exact zX HI105.out); (case side2 => exact zB); rintro e w56 ⟨v107, rfl, ho0, hi, hb, hk⟩; refine ⟨_, rfl, ?_⟩; have n_ := y4 (zW BK101.out hk NB101_105.out) (Kd.Bk ho0 (An (zB))) (hb) (hi); clear BK101 HB HI105; obtain ⟨BK101, HO108, HB, HI105⟩ := n_; (try clear ho0 hi hb hk)) | ((with_reducible refine Ay (N := 6) rfl ?_); refine Be zr (N := 6) zr (cs := #[.slice none 0 0]) (t := 26) zg ?_; intro gb111 hg w57 hbox hb; have n_ := y11 (Kd.Ap (zR HO108.out) hb) (zb BK101.out hb) (Af.below (zX HI105.out) hb) (Ab (zB) hb) (hbox) ((zS hg : w.heap.size ≤ gb111)) ((zS hg : w.heap.size ≤ gb111)) ((zL hg BK101.out : gb101 ≠ gb111)) ((zM hg BK101.out : gb111 ≠ gb101)) ((by rw [hg]; exact Nat.ne_of_lt (Af.lt (show Af w _ g105 t102 t109 t110 from zX HI105.out)) : g105 ≠ gb111)) ((by rw [hg]; exact Nat.ne_of_gt (Af.lt (show Af w _ g105 t102 t109 t110 from zX HI105.out)) : gb111 ≠ g105)); clear HO108 BK101 HI105 HB; obtain ⟨HO108, BK101, HI105, HB, BK111, GW111, GE111, NB101_111, NB111_101, NB105_111, NB111_105⟩ := n_; clear hb hbox hg; obtain ⟨Ao58, co58, eo58⟩ := Kd.Bb HO108.out; subst eo58; have hnb59 := NB111_101.out; have hnc59 := NB101_111.out; have hnb60 := NB111_105.out; have hnc60 := NB105_111.out; obtain ⟨hcz61_0, hfz61_0⟩ := zw BK111.out))
  have n0_ : Aa (Kd.R (Kd.int .i64) 2 (w57.setCell ⟨gb111, 0, none⟩ (.slice Ao58 t106.length co58)) w.heap.size (fun _ => True) (.slice Ao58 t106.length co58) t106) := ⟨by refine zR ?_; exact Kd.Ai (Kd.Dv (p := ⟨gb111, 0, none⟩) (Kd.Cj HO108.out BK111.out (by decide)) (fun _ hk => hk.2) (.slice Ao58 t106.length co58)) (fun _ hk => trivial)⟩
  have n1_ : Aa ((w57.setCell ⟨gb111, 0, none⟩ (.slice Ao58 t106.length co58)).heap[gb101]? = some (.cells #[.slice none 0 0] 26 (0, 0))) := ⟨by refine zG ?_; refine Ce ?_ NB101_111.out _; refine zG ?_; exact BK101.out⟩
  have n2_ : Aa ((w57.setCell ⟨gb111, 0, none⟩ (.slice Ao58 t106.length co58)).heap[gb111]? = some (.cells #[.slice Ao58 t106.length co58] 26 (0, 0))) := ⟨by (with_reducible repeat (first | refine Am ?_ _ | refine Ag ?_ | refine Ak ?_ _)); refine Cl (cs := #[.slice none 0 0]) ?_ 0 _ rfl; (with_reducible repeat (first | refine Am ?_ _ | refine Ag ?_ | refine Ak ?_ _)); exact BK111.out⟩
  have n3_ : Aa (Af w (w57.setCell ⟨gb111, 0, none⟩ (.slice Ao58 t106.length co58)) g105 t102 t109 t110) := ⟨zX HI105.out⟩
  have n4_ : Aa (Below w.heap.size w (w57.setCell ⟨gb111, 0, none⟩ (.slice Ao58 t106.length co58))) := ⟨zB⟩
  (try clear HO108)
  (try clear BK101)
  (try clear BK111)
  (try clear HI105)
  (try clear HB)
  generalize (w57.setCell ⟨gb111, 0, none⟩ (.slice Ao58 t106.length co58)) = w62 at n0_ n1_ n2_ n3_ n4_ ⊢
  have HO108 := n0_
  have BK101 := n1_
  have BK111 := n2_
  have HI105 := n3_
  have HB := n4_
  clear n0_ n1_ n2_ n3_ n4_
  have n_ := y5 (Kd.Ep HO108.out) (Ag BK101.out) (Ag BK111.out) (Af.drew HI105.out) (Bz HB.out)
  clear HO108 BK101 BK111 HI105 HB
  obtain ⟨HO108, BK101, BK111, HI105, HB⟩ := n_
  refine Fg (n := 12) (S := fun w' => w'.cell? ⟨gb111, 0, none⟩ = some (.slice Ao58 t106.length co58)) (ds := []) #[false,false,false,false,false,false,false,false,false,false,false,false] zk rfl rfl ((Au BK111.out 0).trans rfl) (fun hHeld => ?_); refine Eh Cg.tab3 Cg.bits3 (fun HT_ HW_ => ?_)
  generalize w62.drew = w63 at HO108 BK101 BK111 HI105 HB hHeld ⊢
  refine pT 0 14 HT_ ?_
  refine pT 5 19 HT_ ?_
  refine tT 1 15 HT_ HW_ hHeld ?_
  refine tT 6 20 HT_ HW_ hHeld ?_
  refine Fk (i := 2) (N := some 16) #[true,true,true,false,false,true,true,false,false,false,false,false] rfl rfl (Db HT_.out zk) (by decide) (fun K hK => ?_)
  refine Ff Tryz.func28 zk rfl #[.agg #[.slice Ao58 t106.length co58]] (by rfl) rfl rfl zA ?_
  with_reducible refine (Dt.calls _ _ t106 t112 _ ?side1 ?side2 A4.out).mono ?_
  (case side1 => exact zC (Kd.Ae HO108.out).2.2)
  (case side2 => exact (Kd.Ae HO108.out).2.1)
  rintro e w64 ⟨rfl, hb⟩
  refine ⟨_, rfl, ?_⟩
  have n_ := y5 (Kd.Ap (zR HO108.out) hb) (zb BK101.out hb) (Af.below (zX HI105.out) hb) (zb BK111.out hb) (Ab (zB) hb)
  clear HO108 BK101 HI105 BK111 HB
  obtain ⟨HO108, BK101, HI105, BK111, HB⟩ := n_
  try clear hb
  refine hK.out _ _ ((Au BK111.out 0).trans rfl) (fun hHeld => ?_)
  clear hK K
  refine nT 16 ?_
  refine pT 3 17 HT_ ?_
  refine Fk (i := 4) (N := some 18) #[true,true,true,true,true,true,true,false,false,false,false,false] rfl rfl (Db HT_.out zk) (by decide) (fun K hK => ?_)
  refine Ff Tryz.func27 zk rfl #[.pointer (some ⟨g105, 0, none⟩), .int .i64 (wrap64 (t112 - 1))] (by rfl) rfl rfl zA ?_
  with_reducible refine (El.calls g105 t102 t109 t110 (wrap64 (t112 - 1)) t113 t114 t115 w _ ?side1 ?side2 A5.out).mono ?_
  (case side1 => exact zX HI105.out)
  (case side2 => exact zB)
  rintro e w65 ⟨rfl, hi, hb, hk⟩
  refine ⟨_, rfl, ?_⟩
  have n_ := y5 (zW BK101.out hk NB101_105.out) (Kd.Ai (Kd.Cz (Af.apart (show Af w _ g105 t102 t109 t110 from zX HI105.out) (zR HO108.out) (by decide)) hk (fun _ h => h.2)) (fun _ h => h.1)) (zW BK111.out hk NB111_105.out) (hb) (hi)
  clear BK101 HO108 BK111 HB HI105
  obtain ⟨BK101, HO108, BK111, HB, HI105⟩ := n_
  try clear hi hb hk
  refine hK.out _ _ ((Au BK111.out 0).trans rfl) (fun hHeld => ?_)
  clear hK K
  refine nT 18 ?_
  refine Fk (i := 7) (N := some 21) #[true,true,true,true,true,true,true,true,false,false,false,false] rfl rfl (Db HT_.out zk) (by decide) (fun K hK => ?_)
  refine Ff Tryz.func28 zk rfl #[.agg #[.slice Ao58 t106.length co58]] (by rfl) rfl rfl zA ?_
  with_reducible refine (Dt.calls _ _ t106 t116 _ ?side1 ?side2 A6.out).mono ?_
  (case side1 => exact zC (Kd.Ae HO108.out).2.2)
  (case side2 => exact (Kd.Ae HO108.out).2.1)
  rintro e w66 ⟨rfl, hb⟩
  refine ⟨_, rfl, ?_⟩
  have n_ := y5 (Kd.Ap (zR HO108.out) hb) (zb BK101.out hb) (Af.below (zX HI105.out) hb) (zb BK111.out hb) (Ab (zB) hb)
  clear HO108 BK101 HI105 BK111 HB
  obtain ⟨HO108, BK101, HI105, BK111, HB⟩ := n_
  try clear hb
  refine hK.out _ _ ((Au BK111.out 0).trans rfl) (fun hHeld => ?_)
  clear hK K
  refine nT 21 ?_
  refine pT 8 22 HT_ ?_
  refine Fk (i := 9) (N := some 23) #[true,true,true,true,true,true,true,true,true,true,false,false] rfl rfl (Db HT_.out zk) (by decide) (fun K hK => ?_)
  refine Ff Tryz.func27 zk rfl #[.pointer (some ⟨g105, 0, none⟩), .int .i64 (wrap64 (t116 - 1))] (by rfl) rfl rfl zA ?_
  with_reducible refine (El.calls g105 t102 t114 t115 (wrap64 (t116 - 1)) t117 t118 t119 w _ ?side1 ?side2 A7.out).mono ?_
  (case side1 => exact zX HI105.out)
  (case side2 => exact zB)
  rintro e w67 ⟨rfl, hi, hb, hk⟩
  refine ⟨_, rfl, ?_⟩
  have n_ := y5 (zW BK101.out hk NB101_105.out) (Kd.Ai (Kd.Cz (Af.apart (show Af w _ g105 t102 t114 t115 from zX HI105.out) (zR HO108.out) (by decide)) hk (fun _ h => h.2)) (fun _ h => h.1)) (zW BK111.out hk NB111_105.out) (hb) (hi)
  clear BK101 HO108 BK111 HB HI105
  obtain ⟨BK101, HO108, BK111, HB, HI105⟩ := n_
  try clear hi hb hk
  refine hK.out _ _ ((Au BK111.out 0).trans rfl) (fun hHeld => ?_)
  clear hK K
  refine nT 23 ?_
  refine pT 10 7 HT_ ?_
  refine pT 11 8 HT_ ?_
  refine Gf (Fo HT_.out zk) ?_
  obtain ⟨hcz68_0, hfz68_0⟩ := zw BK111.out
  try go_wp2_with (first | (refine gK 30 ?_; refine gL 37 Tryz.func30 #[.pointer (some ⟨g105, 0, none⟩), .agg #[.slice Ao58 t106.length co58]] ?_; (with_reducible refine (Bm.calls k g105 t102 t118 t119 (fun k_ => some k_ = (.slice Ao58 t106.length co58 : Value).ownBlock) (.slice Ao58 t106.length co58) t106 t133 t136 t137 w _ ?side1 ?side2 ?side3 A53.out).mono ?_); (case side1 => exact zX HI105.out); (case side2 => exact zB); (case side3 => exact Kd.Ml rfl HO108.out); rintro e w69 ⟨v134, rfl, ho0, hi, hb, hkp⟩; refine ⟨_, rfl, ?_⟩; have n_ := y5 (Eu (zG BK101.out) hkp (fun hs_ => Or.elim hs_ (fun hs_ => (fun e_ => (Kd.Em HO108.out BK101.out (by decide)) e_) hs_) (fun e_ => NB101_105.out e_))) (hi) (Eu (zG BK111.out) hkp (fun hs_ => Or.elim hs_ (fun hs_ => (fun e_ => (Kd.Em HO108.out BK111.out (by decide)) e_) hs_) (fun e_ => NB111_105.out e_))) (Kd.Ai (ok' := fun k_ => True) ho0 (fun k_ hk_ => trivial)) (hb); clear BK101 HI105 BK111 HB HO108; obtain ⟨BK101, HI105, BK111, HO135, HB⟩ := n_; (try clear hb); (try clear hkp); (try clear ho0); obtain ⟨Ao70, co70, eo70⟩ := Kd.Bb HO135.out; subst eo70; have hnb71 := NB101_105.out; have hnc71 := NB105_101.out; obtain ⟨hcz72_0, hfz72_0⟩ := zw BK101.out))
  refine bodyPost_ret (Mn rfl _ _ gb101 26 #[.slice Ao70 t133.length co70] (0, 0) _ rfl (by (with_reducible repeat (first | refine Am ?_ _ | refine Ag ?_ | refine Ak ?_ _)); refine Cl (cs := #[.slice none 0 0]) ?_ 0 _ rfl; (with_reducible repeat (first | refine Am ?_ _ | refine Ag ?_ | refine Ak ?_ _)); exact BK101.out) Tryz.underlying26 rfl zk) rfl ?_
  exact ⟨_, zE, by refine zR ?_; exact Kd.Ai (Kd.Dv (p := ⟨gb101, 0, none⟩) (Kd.Cj HO135.out BK101.out (by decide)) (fun _ hk => hk.2) (.slice Ao70 t133.length co70)) (fun _ hk => trivial), zB⟩
 rw [if_pos c8] at H
 have c8b0 := decide_eq_true c8
 clear c8
 obtain ⟨⟨t120, t121, t122⟩, A9, H⟩ := zO H
 try dsimp only at H
 by_cases c10 : t120 > 0
 ·
  rw [if_pos c10] at H
  have c10b0 := decide_eq_true c10
  clear c10
  obtain ⟨⟨t123, t126, t127⟩, A11, H⟩ := zO H
  try dsimp only at H
  simp only [Option.some.injEq, Prod.mk.injEq] at H
  obtain ⟨rfl, rfl, rfl⟩ := H
  go_enter Tryz.func5, Tryz.ntmps5
  try go_wp2_with (first | ((with_reducible refine Ay (N := 2) rfl ?_); refine Be zr (N := 2) zr (cs := #[.slice none 0 0]) (t := 26) zg ?_; intro gb101 hg w12 hbox hb; have n_ := y4 (Ab (zB) hb) (hbox) ((zS hg : w.heap.size ≤ gb101)) ((zS hg : w.heap.size ≤ gb101)); clear HB; obtain ⟨HB, BK101, GW101, GE101⟩ := n_; clear hb hbox hg) | (refine gK 25 ?_; refine gL 11 Tryz.func25 #[.slice A0 l0.length c0] ?_; (with_reducible refine (Bj.calls k _ _ l0 t102 t103 t104 w _ ?side1 HR0.out HC0.out A2.out).mono ?_); (case side1 => exact zB); rintro e w13 ⟨g105, rfl, hi, hb, hb2⟩; refine ⟨_, rfl, ?_⟩; have n_ := y5 (zb BK101.out hb2) (hb) (hi) (Af.ne_blk hi (zb BK101.out hb2) (by decide)) (Ne.symm (Af.ne_blk hi (zb BK101.out hb2) (by decide))); clear BK101 HB; obtain ⟨BK101, HB, HI105, NB105_101, NB101_105⟩ := n_; (try clear hi hb hb2)) | (refine gK 26 ?_; refine gL 13 Tryz.func26 #[.pointer (some ⟨g105, 0, none⟩)] ?_; (with_reducible refine (Du.calls k g105 t102 t103 t104 t106 t109 t110 w _ ?side1 ?side2 A3.out).mono ?_); (case side1 => exact zX HI105.out); (case side2 => exact zB); rintro e w14 ⟨v107, rfl, ho0, hi, hb, hk⟩; refine ⟨_, rfl, ?_⟩; have n_ := y4 (zW BK101.out hk NB101_105.out) (Kd.Bk ho0 (An (zB))) (hb) (hi); clear BK101 HB HI105; obtain ⟨BK101, HO108, HB, HI105⟩ := n_; (try clear ho0 hi hb hk)) | ((with_reducible refine Ay (N := 6) rfl ?_); refine Be zr (N := 6) zr (cs := #[.slice none 0 0]) (t := 26) zg ?_; intro gb111 hg w15 hbox hb; have n_ := y11 (Kd.Ap (zR HO108.out) hb) (zb BK101.out hb) (Af.below (zX HI105.out) hb) (Ab (zB) hb) (hbox) ((zS hg : w.heap.size ≤ gb111)) ((zS hg : w.heap.size ≤ gb111)) ((zL hg BK101.out : gb101 ≠ gb111)) ((zM hg BK101.out : gb111 ≠ gb101)) ((by rw [hg]; exact Nat.ne_of_lt (Af.lt (show Af w _ g105 t102 t109 t110 from zX HI105.out)) : g105 ≠ gb111)) ((by rw [hg]; exact Nat.ne_of_gt (Af.lt (show Af w _ g105 t102 t109 t110 from zX HI105.out)) : gb111 ≠ g105)); clear HO108 BK101 HI105 HB; obtain ⟨HO108, BK101, HI105, HB, BK111, GW111, GE111, NB101_111, NB111_101, NB105_111, NB111_105⟩ := n_; clear hb hbox hg; obtain ⟨Ao16, co16, eo16⟩ := Kd.Bb HO108.out; subst eo16; have hnb17 := NB111_101.out; have hnc17 := NB101_111.out; have hnb18 := NB111_105.out; have hnc18 := NB105_111.out; obtain ⟨hcz19_0, hfz19_0⟩ := zw BK111.out))
  have n0_ : Aa (Kd.R (Kd.int .i64) 2 (w15.setCell ⟨gb111, 0, none⟩ (.slice Ao16 t106.length co16)) w.heap.size (fun _ => True) (.slice Ao16 t106.length co16) t106) := ⟨by refine zR ?_; exact Kd.Ai (Kd.Dv (p := ⟨gb111, 0, none⟩) (Kd.Cj HO108.out BK111.out (by decide)) (fun _ hk => hk.2) (.slice Ao16 t106.length co16)) (fun _ hk => trivial)⟩
  have n1_ : Aa ((w15.setCell ⟨gb111, 0, none⟩ (.slice Ao16 t106.length co16)).heap[gb101]? = some (.cells #[.slice none 0 0] 26 (0, 0))) := ⟨by refine zG ?_; refine Ce ?_ NB101_111.out _; refine zG ?_; exact BK101.out⟩
  have n2_ : Aa ((w15.setCell ⟨gb111, 0, none⟩ (.slice Ao16 t106.length co16)).heap[gb111]? = some (.cells #[.slice Ao16 t106.length co16] 26 (0, 0))) := ⟨by (with_reducible repeat (first | refine Am ?_ _ | refine Ag ?_ | refine Ak ?_ _)); refine Cl (cs := #[.slice none 0 0]) ?_ 0 _ rfl; (with_reducible repeat (first | refine Am ?_ _ | refine Ag ?_ | refine Ak ?_ _)); exact BK111.out⟩
  have n3_ : Aa (Af w (w15.setCell ⟨gb111, 0, none⟩ (.slice Ao16 t106.length co16)) g105 t102 t109 t110) := ⟨zX HI105.out⟩
  have n4_ : Aa (Below w.heap.size w (w15.setCell ⟨gb111, 0, none⟩ (.slice Ao16 t106.length co16))) := ⟨zB⟩
  (try clear HO108)
  (try clear BK101)
  (try clear BK111)
  (try clear HI105)
  (try clear HB)
  generalize (w15.setCell ⟨gb111, 0, none⟩ (.slice Ao16 t106.length co16)) = w20 at n0_ n1_ n2_ n3_ n4_ ⊢
  have HO108 := n0_
  have BK101 := n1_
  have BK111 := n2_
  have HI105 := n3_
  have HB := n4_
  clear n0_ n1_ n2_ n3_ n4_
  have n_ := y5 (Kd.Ep HO108.out) (Ag BK101.out) (Ag BK111.out) (Af.drew HI105.out) (Bz HB.out)
  clear HO108 BK101 BK111 HI105 HB
  obtain ⟨HO108, BK101, BK111, HI105, HB⟩ := n_
  refine Fg (n := 12) (S := fun w' => w'.cell? ⟨gb111, 0, none⟩ = some (.slice Ao16 t106.length co16)) (ds := []) #[false,false,false,false,false,false,false,false,false,false,false,false] zk rfl rfl ((Au BK111.out 0).trans rfl) (fun hHeld => ?_); refine Eh Cg.tab3 Cg.bits3 (fun HT_ HW_ => ?_)
  generalize w20.drew = w21 at HO108 BK101 BK111 HI105 HB hHeld ⊢
  refine pT 0 14 HT_ ?_
  refine pT 5 19 HT_ ?_
  refine tT 1 15 HT_ HW_ hHeld ?_
  refine tT 6 20 HT_ HW_ hHeld ?_
  refine Fk (i := 2) (N := some 16) #[true,true,true,false,false,true,true,false,false,false,false,false] rfl rfl (Db HT_.out zk) (by decide) (fun K hK => ?_)
  refine Ff Tryz.func28 zk rfl #[.agg #[.slice Ao16 t106.length co16]] (by rfl) rfl rfl zA ?_
  with_reducible refine (Dt.calls _ _ t106 t112 _ ?side1 ?side2 A4.out).mono ?_
  (case side1 => exact zC (Kd.Ae HO108.out).2.2)
  (case side2 => exact (Kd.Ae HO108.out).2.1)
  rintro e w22 ⟨rfl, hb⟩
  refine ⟨_, rfl, ?_⟩
  have n_ := y5 (Kd.Ap (zR HO108.out) hb) (zb BK101.out hb) (Af.below (zX HI105.out) hb) (zb BK111.out hb) (Ab (zB) hb)
  clear HO108 BK101 HI105 BK111 HB
  obtain ⟨HO108, BK101, HI105, BK111, HB⟩ := n_
  try clear hb
  refine hK.out _ _ ((Au BK111.out 0).trans rfl) (fun hHeld => ?_)
  clear hK K
  refine nT 16 ?_
  refine pT 3 17 HT_ ?_
  refine Fk (i := 4) (N := some 18) #[true,true,true,true,true,true,true,false,false,false,false,false] rfl rfl (Db HT_.out zk) (by decide) (fun K hK => ?_)
  refine Ff Tryz.func27 zk rfl #[.pointer (some ⟨g105, 0, none⟩), .int .i64 (wrap64 (t112 - 1))] (by rfl) rfl rfl zA ?_
  with_reducible refine (El.calls g105 t102 t109 t110 (wrap64 (t112 - 1)) t113 t114 t115 w _ ?side1 ?side2 A5.out).mono ?_
  (case side1 => exact zX HI105.out)
  (case side2 => exact zB)
  rintro e w23 ⟨rfl, hi, hb, hk⟩
  refine ⟨_, rfl, ?_⟩
  have n_ := y5 (zW BK101.out hk NB101_105.out) (Kd.Ai (Kd.Cz (Af.apart (show Af w _ g105 t102 t109 t110 from zX HI105.out) (zR HO108.out) (by decide)) hk (fun _ h => h.2)) (fun _ h => h.1)) (zW BK111.out hk NB111_105.out) (hb) (hi)
  clear BK101 HO108 BK111 HB HI105
  obtain ⟨BK101, HO108, BK111, HB, HI105⟩ := n_
  try clear hi hb hk
  refine hK.out _ _ ((Au BK111.out 0).trans rfl) (fun hHeld => ?_)
  clear hK K
  refine nT 18 ?_
  refine Fk (i := 7) (N := some 21) #[true,true,true,true,true,true,true,true,false,false,false,false] rfl rfl (Db HT_.out zk) (by decide) (fun K hK => ?_)
  refine Ff Tryz.func28 zk rfl #[.agg #[.slice Ao16 t106.length co16]] (by rfl) rfl rfl zA ?_
  with_reducible refine (Dt.calls _ _ t106 t116 _ ?side1 ?side2 A6.out).mono ?_
  (case side1 => exact zC (Kd.Ae HO108.out).2.2)
  (case side2 => exact (Kd.Ae HO108.out).2.1)
  rintro e w24 ⟨rfl, hb⟩
  refine ⟨_, rfl, ?_⟩
  have n_ := y5 (Kd.Ap (zR HO108.out) hb) (zb BK101.out hb) (Af.below (zX HI105.out) hb) (zb BK111.out hb) (Ab (zB) hb)
  clear HO108 BK101 HI105 BK111 HB
  obtain ⟨HO108, BK101, HI105, BK111, HB⟩ := n_
  try clear hb
  refine hK.out _ _ ((Au BK111.out 0).trans rfl) (fun hHeld => ?_)
  clear hK K
  refine nT 21 ?_
  refine pT 8 22 HT_ ?_
  refine Fk (i := 9) (N := some 23) #[true,true,true,true,true,true,true,true,true,true,false,false] rfl rfl (Db HT_.out zk) (by decide) (fun K hK => ?_)
  refine Ff Tryz.func27 zk rfl #[.pointer (some ⟨g105, 0, none⟩), .int .i64 (wrap64 (t116 - 1))] (by rfl) rfl rfl zA ?_
  with_reducible refine (El.calls g105 t102 t114 t115 (wrap64 (t116 - 1)) t117 t118 t119 w _ ?side1 ?side2 A7.out).mono ?_
  (case side1 => exact zX HI105.out)
  (case side2 => exact zB)
  rintro e w25 ⟨rfl, hi, hb, hk⟩
  refine ⟨_, rfl, ?_⟩
  have n_ := y5 (zW BK101.out hk NB101_105.out) (Kd.Ai (Kd.Cz (Af.apart (show Af w _ g105 t102 t114 t115 from zX HI105.out) (zR HO108.out) (by decide)) hk (fun _ h => h.2)) (fun _ h => h.1)) (zW BK111.out hk NB111_105.out) (hb) (hi)
  clear BK101 HO108 BK111 HB HI105
  obtain ⟨BK101, HO108, BK111, HB, HI105⟩ := n_
  try clear hi hb hk
  refine hK.out _ _ ((Au BK111.out 0).trans rfl) (fun hHeld => ?_)
  clear hK K
  refine nT 23 ?_
  refine pT 10 7 HT_ ?_
  refine pT 11 8 HT_ ?_
  refine Gf (Fo HT_.out zk) ?_
  try go_wp2_with (first | (go_at_call 29; (with_reducible refine (Bf.calls g105 t102 t118 t119 4 t120 t121 t122 w _ ?side1 ?side2 A9.out).mono ?_); (case side1 => exact zX HI105.out); (case side2 => exact zB); rintro e w26 ⟨rfl, hi, hb, hk⟩; have n_ := y5 (zW BK101.out hk NB101_105.out) (Kd.Ai (Kd.Cz (Af.apart (show Af w _ g105 t102 t118 t119 from zX HI105.out) (zR HO108.out) (by decide)) hk (fun _ h => h.2)) (fun _ h => h.1)) (zW BK111.out hk NB111_105.out) (hb) (hi); clear BK101 HO108 BK111 HB HI105; obtain ⟨BK101, HO108, BK111, HB, HI105⟩ := n_; (try clear hi hb hk); obtain ⟨hcz27_0, hfz27_0⟩ := zw BK111.out) | (refine gK 30 ?_; refine gL 37 Tryz.func30 #[.pointer (some ⟨g105, 0, none⟩), .agg #[.slice Ao16 t106.length co16]] ?_; (with_reducible refine (Bm.calls k g105 t102 t121 t122 (fun k_ => some k_ = (.slice Ao16 t106.length co16 : Value).ownBlock) (.slice Ao16 t106.length co16) t106 t123 t126 t127 w _ ?side1 ?side2 ?side3 A11.out).mono ?_); (case side1 => exact zX HI105.out); (case side2 => exact zB); (case side3 => exact Kd.Ml rfl HO108.out); rintro e w28 ⟨v124, rfl, ho0, hi, hb, hkp⟩; refine ⟨_, rfl, ?_⟩; have n_ := y5 (Eu (zG BK101.out) hkp (fun hs_ => Or.elim hs_ (fun hs_ => (fun e_ => (Kd.Em HO108.out BK101.out (by decide)) e_) hs_) (fun e_ => NB101_105.out e_))) (hi) (Eu (zG BK111.out) hkp (fun hs_ => Or.elim hs_ (fun hs_ => (fun e_ => (Kd.Em HO108.out BK111.out (by decide)) e_) hs_) (fun e_ => NB111_105.out e_))) (Kd.Ai (ok' := fun k_ => True) ho0 (fun k_ hk_ => trivial)) (hb); clear BK101 HI105 BK111 HB HO108; obtain ⟨BK101, HI105, BK111, HO125, HB⟩ := n_; (try clear hb); (try clear hkp); (try clear ho0); obtain ⟨Ao29, co29, eo29⟩ := Kd.Bb HO125.out; subst eo29; have hnb30 := NB101_105.out; have hnc30 := NB105_101.out; obtain ⟨hcz31_0, hfz31_0⟩ := zw BK101.out))
  refine bodyPost_ret (Mn rfl _ _ gb101 26 #[.slice Ao29 t123.length co29] (0, 0) _ rfl (by (with_reducible repeat (first | refine Am ?_ _ | refine Ag ?_ | refine Ak ?_ _)); refine Cl (cs := #[.slice none 0 0]) ?_ 0 _ rfl; (with_reducible repeat (first | refine Am ?_ _ | refine Ag ?_ | refine Ak ?_ _)); exact BK101.out) Tryz.underlying26 rfl zk) rfl ?_
  exact ⟨_, zE, by refine zR ?_; exact Kd.Ai (Kd.Dv (p := ⟨gb101, 0, none⟩) (Kd.Cj HO125.out BK101.out (by decide)) (fun _ hk => hk.2) (.slice Ao29 t123.length co29)) (fun _ hk => trivial), zB⟩
 rw [if_neg c10] at H
 have c10b0 := decide_eq_false c10
 clear c10
 obtain ⟨⟨t128, t131, t132⟩, A32, H⟩ := zO H
 try dsimp only at H
 simp only [Option.some.injEq, Prod.mk.injEq] at H
 obtain ⟨rfl, rfl, rfl⟩ := H
 go_enter Tryz.func5, Tryz.ntmps5
 try go_wp2_with (first | ((with_reducible refine Ay (N := 2) rfl ?_); refine Be zr (N := 2) zr (cs := #[.slice none 0 0]) (t := 26) zg ?_; intro gb101 hg w33 hbox hb; have n_ := y4 (Ab (zB) hb) (hbox) ((zS hg : w.heap.size ≤ gb101)) ((zS hg : w.heap.size ≤ gb101)); clear HB; obtain ⟨HB, BK101, GW101, GE101⟩ := n_; clear hb hbox hg) | (refine gK 25 ?_; refine gL 11 Tryz.func25 #[.slice A0 l0.length c0] ?_; (with_reducible refine (Bj.calls k _ _ l0 t102 t103 t104 w _ ?side1 HR0.out HC0.out A2.out).mono ?_); (case side1 => exact zB); rintro e w34 ⟨g105, rfl, hi, hb, hb2⟩; refine ⟨_, rfl, ?_⟩; have n_ := y5 (zb BK101.out hb2) (hb) (hi) (Af.ne_blk hi (zb BK101.out hb2) (by decide)) (Ne.symm (Af.ne_blk hi (zb BK101.out hb2) (by decide))); clear BK101 HB; obtain ⟨BK101, HB, HI105, NB105_101, NB101_105⟩ := n_; (try clear hi hb hb2)) | (refine gK 26 ?_; refine gL 13 Tryz.func26 #[.pointer (some ⟨g105, 0, none⟩)] ?_; (with_reducible refine (Du.calls k g105 t102 t103 t104 t106 t109 t110 w _ ?side1 ?side2 A3.out).mono ?_); (case side1 => exact zX HI105.out); (case side2 => exact zB); rintro e w35 ⟨v107, rfl, ho0, hi, hb, hk⟩; refine ⟨_, rfl, ?_⟩; have n_ := y4 (zW BK101.out hk NB101_105.out) (Kd.Bk ho0 (An (zB))) (hb) (hi); clear BK101 HB HI105; obtain ⟨BK101, HO108, HB, HI105⟩ := n_; (try clear ho0 hi hb hk)) | ((with_reducible refine Ay (N := 6) rfl ?_); refine Be zr (N := 6) zr (cs := #[.slice none 0 0]) (t := 26) zg ?_; intro gb111 hg w36 hbox hb; have n_ := y11 (Kd.Ap (zR HO108.out) hb) (zb BK101.out hb) (Af.below (zX HI105.out) hb) (Ab (zB) hb) (hbox) ((zS hg : w.heap.size ≤ gb111)) ((zS hg : w.heap.size ≤ gb111)) ((zL hg BK101.out : gb101 ≠ gb111)) ((zM hg BK101.out : gb111 ≠ gb101)) ((by rw [hg]; exact Nat.ne_of_lt (Af.lt (show Af w _ g105 t102 t109 t110 from zX HI105.out)) : g105 ≠ gb111)) ((by rw [hg]; exact Nat.ne_of_gt (Af.lt (show Af w _ g105 t102 t109 t110 from zX HI105.out)) : gb111 ≠ g105)); clear HO108 BK101 HI105 HB; obtain ⟨HO108, BK101, HI105, HB, BK111, GW111, GE111, NB101_111, NB111_101, NB105_111, NB111_105⟩ := n_; clear hb hbox hg; obtain ⟨Ao37, co37, eo37⟩ := Kd.Bb HO108.out; subst eo37; have hnb38 := NB111_101.out; have hnc38 := NB101_111.out; have hnb39 := NB111_105.out; have hnc39 := NB105_111.out; obtain ⟨hcz40_0, hfz40_0⟩ := zw BK111.out))
 have n0_ : Aa (Kd.R (Kd.int .i64) 2 (w36.setCell ⟨gb111, 0, none⟩ (.slice Ao37 t106.length co37)) w.heap.size (fun _ => True) (.slice Ao37 t106.length co37) t106) := ⟨by refine zR ?_; exact Kd.Ai (Kd.Dv (p := ⟨gb111, 0, none⟩) (Kd.Cj HO108.out BK111.out (by decide)) (fun _ hk => hk.2) (.slice Ao37 t106.length co37)) (fun _ hk => trivial)⟩
 have n1_ : Aa ((w36.setCell ⟨gb111, 0, none⟩ (.slice Ao37 t106.length co37)).heap[gb101]? = some (.cells #[.slice none 0 0] 26 (0, 0))) := ⟨by refine zG ?_; refine Ce ?_ NB101_111.out _; refine zG ?_; exact BK101.out⟩
 have n2_ : Aa ((w36.setCell ⟨gb111, 0, none⟩ (.slice Ao37 t106.length co37)).heap[gb111]? = some (.cells #[.slice Ao37 t106.length co37] 26 (0, 0))) := ⟨by (with_reducible repeat (first | refine Am ?_ _ | refine Ag ?_ | refine Ak ?_ _)); refine Cl (cs := #[.slice none 0 0]) ?_ 0 _ rfl; (with_reducible repeat (first | refine Am ?_ _ | refine Ag ?_ | refine Ak ?_ _)); exact BK111.out⟩
 have n3_ : Aa (Af w (w36.setCell ⟨gb111, 0, none⟩ (.slice Ao37 t106.length co37)) g105 t102 t109 t110) := ⟨zX HI105.out⟩
 have n4_ : Aa (Below w.heap.size w (w36.setCell ⟨gb111, 0, none⟩ (.slice Ao37 t106.length co37))) := ⟨zB⟩
 (try clear HO108)
 (try clear BK101)
 (try clear BK111)
 (try clear HI105)
 (try clear HB)
 generalize (w36.setCell ⟨gb111, 0, none⟩ (.slice Ao37 t106.length co37)) = w41 at n0_ n1_ n2_ n3_ n4_ ⊢
 have HO108 := n0_
 have BK101 := n1_
 have BK111 := n2_
 have HI105 := n3_
 have HB := n4_
 clear n0_ n1_ n2_ n3_ n4_
 have n_ := y5 (Kd.Ep HO108.out) (Ag BK101.out) (Ag BK111.out) (Af.drew HI105.out) (Bz HB.out)
 clear HO108 BK101 BK111 HI105 HB
 obtain ⟨HO108, BK101, BK111, HI105, HB⟩ := n_
 refine Fg (n := 12) (S := fun w' => w'.cell? ⟨gb111, 0, none⟩ = some (.slice Ao37 t106.length co37)) (ds := []) #[false,false,false,false,false,false,false,false,false,false,false,false] zk rfl rfl ((Au BK111.out 0).trans rfl) (fun hHeld => ?_); refine Eh Cg.tab3 Cg.bits3 (fun HT_ HW_ => ?_)
 generalize w41.drew = w42 at HO108 BK101 BK111 HI105 HB hHeld ⊢
 refine pT 0 14 HT_ ?_
 refine pT 5 19 HT_ ?_
 refine tT 1 15 HT_ HW_ hHeld ?_
 refine tT 6 20 HT_ HW_ hHeld ?_
 refine Fk (i := 2) (N := some 16) #[true,true,true,false,false,true,true,false,false,false,false,false] rfl rfl (Db HT_.out zk) (by decide) (fun K hK => ?_)
 refine Ff Tryz.func28 zk rfl #[.agg #[.slice Ao37 t106.length co37]] (by rfl) rfl rfl zA ?_
 with_reducible refine (Dt.calls _ _ t106 t112 _ ?side1 ?side2 A4.out).mono ?_
 (case side1 => exact zC (Kd.Ae HO108.out).2.2)
 (case side2 => exact (Kd.Ae HO108.out).2.1)
 rintro e w43 ⟨rfl, hb⟩
 refine ⟨_, rfl, ?_⟩
 have n_ := y5 (Kd.Ap (zR HO108.out) hb) (zb BK101.out hb) (Af.below (zX HI105.out) hb) (zb BK111.out hb) (Ab (zB) hb)
 clear HO108 BK101 HI105 BK111 HB
 obtain ⟨HO108, BK101, HI105, BK111, HB⟩ := n_
 try clear hb
 refine hK.out _ _ ((Au BK111.out 0).trans rfl) (fun hHeld => ?_)
 clear hK K
 refine nT 16 ?_
 refine pT 3 17 HT_ ?_
 refine Fk (i := 4) (N := some 18) #[true,true,true,true,true,true,true,false,false,false,false,false] rfl rfl (Db HT_.out zk) (by decide) (fun K hK => ?_)
 refine Ff Tryz.func27 zk rfl #[.pointer (some ⟨g105, 0, none⟩), .int .i64 (wrap64 (t112 - 1))] (by rfl) rfl rfl zA ?_
 with_reducible refine (El.calls g105 t102 t109 t110 (wrap64 (t112 - 1)) t113 t114 t115 w _ ?side1 ?side2 A5.out).mono ?_
 (case side1 => exact zX HI105.out)
 (case side2 => exact zB)
 rintro e w44 ⟨rfl, hi, hb, hk⟩
 refine ⟨_, rfl, ?_⟩
 have n_ := y5 (zW BK101.out hk NB101_105.out) (Kd.Ai (Kd.Cz (Af.apart (show Af w _ g105 t102 t109 t110 from zX HI105.out) (zR HO108.out) (by decide)) hk (fun _ h => h.2)) (fun _ h => h.1)) (zW BK111.out hk NB111_105.out) (hb) (hi)
 clear BK101 HO108 BK111 HB HI105
 obtain ⟨BK101, HO108, BK111, HB, HI105⟩ := n_
 try clear hi hb hk
 refine hK.out _ _ ((Au BK111.out 0).trans rfl) (fun hHeld => ?_)
 clear hK K
 refine nT 18 ?_
 refine Fk (i := 7) (N := some 21) #[true,true,true,true,true,true,true,true,false,false,false,false] rfl rfl (Db HT_.out zk) (by decide) (fun K hK => ?_)
 refine Ff Tryz.func28 zk rfl #[.agg #[.slice Ao37 t106.length co37]] (by rfl) rfl rfl zA ?_
 with_reducible refine (Dt.calls _ _ t106 t116 _ ?side1 ?side2 A6.out).mono ?_
 (case side1 => exact zC (Kd.Ae HO108.out).2.2)
 (case side2 => exact (Kd.Ae HO108.out).2.1)
 rintro e w45 ⟨rfl, hb⟩
 refine ⟨_, rfl, ?_⟩
 have n_ := y5 (Kd.Ap (zR HO108.out) hb) (zb BK101.out hb) (Af.below (zX HI105.out) hb) (zb BK111.out hb) (Ab (zB) hb)
 clear HO108 BK101 HI105 BK111 HB
 obtain ⟨HO108, BK101, HI105, BK111, HB⟩ := n_
 try clear hb
 refine hK.out _ _ ((Au BK111.out 0).trans rfl) (fun hHeld => ?_)
 clear hK K
 refine nT 21 ?_
 refine pT 8 22 HT_ ?_
 refine Fk (i := 9) (N := some 23) #[true,true,true,true,true,true,true,true,true,true,false,false] rfl rfl (Db HT_.out zk) (by decide) (fun K hK => ?_)
 refine Ff Tryz.func27 zk rfl #[.pointer (some ⟨g105, 0, none⟩), .int .i64 (wrap64 (t116 - 1))] (by rfl) rfl rfl zA ?_
 with_reducible refine (El.calls g105 t102 t114 t115 (wrap64 (t116 - 1)) t117 t118 t119 w _ ?side1 ?side2 A7.out).mono ?_
 (case side1 => exact zX HI105.out)
 (case side2 => exact zB)
 rintro e w46 ⟨rfl, hi, hb, hk⟩
 refine ⟨_, rfl, ?_⟩
 have n_ := y5 (zW BK101.out hk NB101_105.out) (Kd.Ai (Kd.Cz (Af.apart (show Af w _ g105 t102 t114 t115 from zX HI105.out) (zR HO108.out) (by decide)) hk (fun _ h => h.2)) (fun _ h => h.1)) (zW BK111.out hk NB111_105.out) (hb) (hi)
 clear BK101 HO108 BK111 HB HI105
 obtain ⟨BK101, HO108, BK111, HB, HI105⟩ := n_
 try clear hi hb hk
 refine hK.out _ _ ((Au BK111.out 0).trans rfl) (fun hHeld => ?_)
 clear hK K
 refine nT 23 ?_
 refine pT 10 7 HT_ ?_
 refine pT 11 8 HT_ ?_
 refine Gf (Fo HT_.out zk) ?_
 try go_wp2_with (first | (go_at_call 29; (with_reducible refine (Bf.calls g105 t102 t118 t119 4 t120 t121 t122 w _ ?side1 ?side2 A9.out).mono ?_); (case side1 => exact zX HI105.out); (case side2 => exact zB); rintro e w47 ⟨rfl, hi, hb, hk⟩; have n_ := y5 (zW BK101.out hk NB101_105.out) (Kd.Ai (Kd.Cz (Af.apart (show Af w _ g105 t102 t118 t119 from zX HI105.out) (zR HO108.out) (by decide)) hk (fun _ h => h.2)) (fun _ h => h.1)) (zW BK111.out hk NB111_105.out) (hb) (hi); clear BK101 HO108 BK111 HB HI105; obtain ⟨BK101, HO108, BK111, HB, HI105⟩ := n_; (try clear hi hb hk); obtain ⟨hcz48_0, hfz48_0⟩ := zw BK111.out) | (refine gK 30 ?_; refine gL 37 Tryz.func30 #[.pointer (some ⟨g105, 0, none⟩), .agg #[.slice Ao37 t106.length co37]] ?_; (with_reducible refine (Bm.calls k g105 t102 t121 t122 (fun k_ => some k_ = (.slice Ao37 t106.length co37 : Value).ownBlock) (.slice Ao37 t106.length co37) t106 t128 t131 t132 w _ ?side1 ?side2 ?side3 A32.out).mono ?_); (case side1 => exact zX HI105.out); (case side2 => exact zB); (case side3 => exact Kd.Ml rfl HO108.out); rintro e w49 ⟨v129, rfl, ho0, hi, hb, hkp⟩; refine ⟨_, rfl, ?_⟩; have n_ := y5 (Eu (zG BK101.out) hkp (fun hs_ => Or.elim hs_ (fun hs_ => (fun e_ => (Kd.Em HO108.out BK101.out (by decide)) e_) hs_) (fun e_ => NB101_105.out e_))) (hi) (Eu (zG BK111.out) hkp (fun hs_ => Or.elim hs_ (fun hs_ => (fun e_ => (Kd.Em HO108.out BK111.out (by decide)) e_) hs_) (fun e_ => NB111_105.out e_))) (Kd.Ai (ok' := fun k_ => True) ho0 (fun k_ hk_ => trivial)) (hb); clear BK101 HI105 BK111 HB HO108; obtain ⟨BK101, HI105, BK111, HO130, HB⟩ := n_; (try clear hb); (try clear hkp); (try clear ho0); obtain ⟨Ao50, co50, eo50⟩ := Kd.Bb HO130.out; subst eo50; have hnb51 := NB101_105.out; have hnc51 := NB105_101.out; obtain ⟨hcz52_0, hfz52_0⟩ := zw BK101.out))
 refine bodyPost_ret (Mn rfl _ _ gb101 26 #[.slice Ao50 t128.length co50] (0, 0) _ rfl (by (with_reducible repeat (first | refine Am ?_ _ | refine Ag ?_ | refine Ak ?_ _)); refine Cl (cs := #[.slice none 0 0]) ?_ 0 _ rfl; (with_reducible repeat (first | refine Am ?_ _ | refine Ag ?_ | refine Ak ?_ _)); exact BK101.out) Tryz.underlying26 rfl zk) rfl ?_
 exact ⟨_, zE, by refine zR ?_; exact Kd.Ai (Kd.Dv (p := ⟨gb101, 0, none⟩) (Kd.Cj HO130.out BK101.out (by decide)) (fun _ hk => hk.2) (.slice Ao50 t128.length co50)) (fun _ hk => trivial), zB⟩
def Fd.f (l0 : List Int) : Option (List Int) := if l0.length < 17592186044416 then some l0 else none
theorem Fd.calls (A0 : Option Addr) (c0 : Nat) (l0 : List Int) (r : List Int) (w : World) (hr0 : Kd.C (Kd.int .i64) w A0 l0.length l0) (hc0 : l0.length ≤ c0) (h : Fd.f l0 = some r) :
    Calls Tryz.prog 33 #[.slice A0 l0.length c0] w fun e w' => ∃ v0_ : Value, e = .returned (v0_) ∧ Kd.R (Kd.int .i64) 2 w' w.heap.size (fun _ => True) v0_ r ∧ Below w.heap.size w w' := by
  have hnil := fun (W : World) (a : Option Addr) (n c : Nat) => Lib.run_eql_slice_nil (P := Tryz.prog) W 24 2 a n c 0 0 Tryz.underlying24
  unfold Fd.f at h
  by_cases c1 : l0.length < 17592186044416
  · rw [if_pos c1] at h
    obtain rfl := Option.some.inj h
    clear h
    have HR0 := Aa.mk hr0
    have HC0 := Aa.mk hc0
    have LM := Aa.mk c1
    have HB := Aa.mk (Below.refl w.heap.size w)
    cases A0 with
    | none =>
      have h0 : l0 = [] := by
        rcases Nat.eq_zero_or_pos l0.length with h | h
        · exact List.eq_nil_of_length_eq_zero h
        · obtain ⟨ad, e, _⟩ := hr0.2.2 h
          cases e
      subst h0
      clear hr0 hc0 c1
      go_enter Tryz.func33, Tryz.ntmps33
      go_wp2
      go_ret
      exact ⟨_, rfl, Kd.Pa _ _ _ _ _, HB.out⟩
    | some ad =>
      clear hr0 hc0 c1
      go_enter Tryz.func33, Tryz.ntmps33
      go_wp2_with (first | ((with_reducible refine Ay (N := 5) rfl ?_); refine Kd.Kv (Kd.int .i64) _ 2 ?hg (N := 5) ?hd (xs := ([] : List Int)) (inner := []) (ok := fun _ => True) (okp := fun _ => True) ?hr ?hp (fun _ hk => hk) trivial (Below.refl _ _) (Nat.le_refl _) (by simp) ?_; (case hd => rfl); (case hg => rfl); (case hr => first | (go_simp; done) | (go_simp; rfl)); (case hp => exact (Dk.none _ _)); intro v109 w3 ho4 hb hg_ hnew_; clear hg_ hnew_; have n_ := y2 (Kd.Bk ho4 (An (zB))) (Ab (zB) hb); clear HB; obtain ⟨HO110, HB⟩ := n_; clear hb ho4) | ((with_reducible refine Dp (b := .append) (xs := #[.tmp 5, .tmp 6]) rfl ?_); at_builtin; refine Kd.Ln (Kd.int .i64) (w0 := w) w.heap.size rfl (.tmp 5) (.tmp 6) 24 2 (.int .i64 0) 8 rfl Tryz.underlying24 zk rfl (by decide) (by omega) v109 [] l0 _ _ _ (fun _ => True) (fun _ => False) rfl rfl ?aO ?aR (fun _ _ h => h) (fun _ h => h.elim) ?aF ?aB ?aS ?aL ?_; (case aR => repeat (first | exact (Kd.Bh HR0.out HB.out) | (with_reducible refine Kd.Fb ?_ _) | (with_reducible refine Kd.Fa ?_ _) | (with_reducible refine Kd.Fv ?_))); (case aB => exact (zB)); (case aF => exact (fun _ _ => trivial)); (case aO => exact (zR HO110.out)); (case aS => exact (An (zB))); (case aL => have := LM.out; simp only [List.length_nil]; omega); intro v112 w5 ho hb hg hat; rw [List.nil_append] at ho; have n_ := y2 (hb) (ho); clear HB HO110; obtain ⟨HB, HO113⟩ := n_; clear ho hb hg hat))
      go_ret
      exact ⟨_, rfl, zR HO113.out, zB⟩
  · rw [if_neg c1] at h
    exact absurd h (by simp)
end Go.Proofs.YtliepcfgcglcmaaGreat.P
end
section
namespace Go.Proofs
open Go.Shelf
def Tryz.laysSlN45_f34_ren : Go.Shelf.Ren := ⟨fun | 45 => 34 | n => n, fun | 22 => 24 | 23 => 2 | 3 => 3 | 4 => 4 | 0 => 0 | n => n, fun | n => n⟩
theorem Tryz.laysSlN45_f34 : Go.Proofs.SlLaysN.n45 Tryz.prog Tryz.laysSlN45_f34_ren := {
 mixed := by kernel_rfl
 f45 := ⟨Tryz.f34.name, by decide, Tryz.func34.trans (congrArg some (by kernel_rfl))⟩
 t0 := Tryz.underlying0
 a0 := Tryz.isAgg0
 z0 := Tryz.sizeOf0
 v0 := Tryz.zeroValue0
 t3 := Tryz.underlying3
 a3 := Tryz.isAgg3
 z3 := Tryz.sizeOf3
 v3 := Tryz.zeroValue3
 t4 := Tryz.underlying4
 a4 := Tryz.isAgg4
 z4 := Tryz.sizeOf4
 v4 := Tryz.zeroValue4
 t22 := Tryz.underlying24
 a22 := Tryz.isAgg24
 z22 := Tryz.sizeOf24
 v22 := Tryz.zeroValue24
 t23 := Tryz.underlying2
 a23 := Tryz.isAgg2
 z23 := Tryz.sizeOf2
 v23 := Tryz.zeroValue2
 i23 := by kernel_rfl }
open Go.RowKit Go.Lib Go.Sort in
theorem Tryz.slices_Delete_int (blk off cap i j : Nat) (zs : List Int) (w : World) (hH : Holds (Value.int .i64) w blk off zs.toArray) (hcap : zs.length ≤ cap) (hm : cap ≤ 9223372036854775807) (hij : i ≤ j) (hj : j ≤ zs.length) :
    Calls Tryz.prog 34 #[.slice (some ⟨blk, off, none⟩) zs.length cap, .int .i64 i, .int .i64 j] w fun e w' => e = .returned (.slice (some ⟨blk, off, none⟩) (zs.length - (j - i)) cap) ∧ ∃ q, w' = putRow (Value.int .i64) (Sort.ahead w q) blk off (zs.take i ++ zs.drop j ++ List.replicate (j - i) 0).toArray := AnyG.slices_Delete_int Tryz.laysSlN45_f34 blk off cap i j zs w hH hcap hm hij hj
end Go.Proofs
end
section
namespace Go.Proofs.YtliepcfgcglcmaaGreat.P
open Go.RowKit Go.Proofs.YtliepcfgcglcmaaGreatW.PrintWords Go.Proofs.YtliepcfgcglcmaaGreatW.PrintLast Go.Proofs.YtliepcfgcglcmaaGreatW.PrintMore
attribute [local go_sem] Kn Kj Ld Li Kb Ke Kl Km
set_option linter.unusedVariables false
set_option linter.unusedSimpArgs false
def Ee.f (l0 : List Int) (a1 a2 : Int) : Option (List Int) := if 0 ≤ a1 ∧ a1 ≤ a2 ∧ a2 ≤ (l0.length : Int) then some (l0.take a1.toNat ++ l0.drop a2.toNat) else none
theorem Xk {α : Type} [Inhabited α] {enc : α → Value} {W : World} {g q : Nat} {d : Array α} : W.grownBy (Go.Sort.putRow enc (Go.Sort.ahead W q) g 0 d) (some g) :=
 ⟨rfl, rfl, rfl, by simp [Go.Sort.putRow, Go.Sort.mapBlock, Go.Sort.ahead], fun k hk hne => by
  have : g ≠ k := fun e => hne (by rw [e])
  simp [Go.Sort.putRow, Go.Sort.mapBlock, Go.Sort.ahead, Array.getElem?_modify, this]⟩
theorem Ee.own (g cap : Nat) (xs r : List Int) (i j : Int) (base : Nat) (ok : Nat → Prop) (W : World) (hk : Kd.R (Kd.int .i64) 2 W base ok (.slice (some ⟨g, 0, none⟩) xs.length cap) xs) (h : Ee.f xs i j = some r) :
    Calls Tryz.prog 34 #[.slice (some ⟨g, 0, none⟩) xs.length cap, .int .i64 i, .int .i64 j] W fun e w' => e = .returned (.slice (some ⟨g, 0, none⟩) r.length cap) ∧ Kd.R (Kd.int .i64) 2 w' base ok (.slice (some ⟨g, 0, none⟩) r.length cap) r ∧ W.grownBy w' (some g) := by
  unfold Ee.f at h
  split at h
  · next hb =>
    cases h
    obtain ⟨a, rfl⟩ := Int.eq_ofNat_of_zero_le hb.1
    obtain ⟨b, rfl⟩ := Int.eq_ofNat_of_zero_le (show 0 ≤ j by omega)
    have ho := Kd.Qj hk
    obtain ⟨g', cap', e0, _, _, hn, hm, _, hH⟩ := Go.Lib.holds_of_ownsRow (zs := xs) (enc := Value.int .i64) ho (by simp)
    injection e0 with e1 _ e3
    injection e1 with e1
    injection e1 with e1
    subst e1; subst e3
    have hm' : cap ≤ 9223372036854775807 := by unfold maxLen at hm; omega
    refine (Tryz.slices_Delete_int g 0 cap a b xs W hH hn hm' (by omega) (by omega)).mono ?_
    rintro e w' ⟨rfl, q, rfl⟩
    simp only [Int.toNat_natCast]
    have hl : (xs.take a ++ xs.drop b ++ List.replicate (b - a) 0).length = xs.length := by simp; omega
    have hl2 : (xs.take a ++ xs.drop b).length = xs.length - (b - a) := by simp; omega
    have ho2 := Go.Lib.ownsRow_putRow (enc := Value.int .i64) (q := q) (k := xs.length - (b - a)) (ys := xs.take a ++ xs.drop b ++ List.replicate (b - a) 0) ho hl (by omega)
    have ht : (xs.take a ++ xs.drop b ++ List.replicate (b - a) 0).take (xs.length - (b - a)) = xs.take a ++ xs.drop b := by rw [← hl2]; exact List.take_left' rfl
    rw [ht] at ho2
    rw [← hl2] at ho2 ⊢
    exact ⟨rfl, Kd.Ql ho2 hk.1, Xk⟩
  · cases h
def Ey.f (l0_0 : List Int) (a1 : Int) : Option (Bool) := (Eb.f l0_0).bind fun t102 => ((Es.f a1 0 (wrap64 (t102 - 1))).bind fun t103 => (some t103))
theorem Ey.calls (A0_0 : Option Addr) (c0_0 : Nat) (l0_0 : List Int) (a1 : Int) (r : Bool) (w : World) (hr0_0 : Kd.C (Kd.int .i64) w A0_0 l0_0.length l0_0) (hc0_0 : l0_0.length ≤ c0_0) (h : Ey.f l0_0 a1 = some r) :
    Calls Tryz.prog 32 #[.agg #[.slice A0_0 l0_0.length c0_0], .int .i64 a1] w fun e w' => e = .returned (.bool r) ∧ Below w.heap.size w w' := by
 have hu26 := Tryz.underlying26
 have HR0_0 := Aa.mk hr0_0
 have HC0_0 := Aa.mk hc0_0
 clear hr0_0 hc0_0
 have HB := Aa.mk (Below.refl w.heap.size w)
 have H := h
 clear h
 unfold Ey.f at H
 obtain ⟨t102, A3, H⟩ := zO H
 try dsimp only at H
 obtain ⟨t103, A4, H⟩ := zO H
 try dsimp only at H
 obtain rfl := Option.some.inj H
 go_enter Tryz.func32, Tryz.ntmps32
 go_wp2_with (first | ((with_reducible refine Ay (N := 2) rfl ?_); refine Be zr (N := 2) zr (cs := #[.slice A0_0 l0_0.length c0_0]) (t := 26) zg ?_; intro gb101 hg w5 hbox hb; have n_ := y4 (Ab (zB) hb) (hbox) ((zS hg : w.heap.size ≤ gb101)) ((zS hg : w.heap.size ≤ gb101)); clear HB; obtain ⟨HB, BK101, GW101, GE101⟩ := n_; clear hb hbox hg; obtain ⟨hcz6_0, hfz6_0⟩ := zw BK101.out) | (refine gK 60 ?_; refine gL 7 Tryz.func60 #[.agg #[.slice A0_0 l0_0.length c0_0]] ?_; (with_reducible refine (Eb.calls _ _ l0_0 t102 _ ?side1 HC0_0.out A3.out).mono ?_); (case side1 => exact zC (Kd.Bh HR0_0.out HB.out)); rintro e w7 ⟨rfl, hb⟩; refine ⟨_, rfl, ?_⟩; have n_ := y2 (zb BK101.out hb) (Ab (zB) hb); clear BK101 HB; obtain ⟨BK101, HB⟩ := n_; (try clear hb)) | (refine gK 43 ?_; refine gL 9 Tryz.func43 #[.int .i64 a1, .int .i64 0, .int .i64 (wrap64 (t102 - 1))] ?_; (with_reducible refine (Es.calls a1 0 (wrap64 (t102 - 1)) t103 _ A4.out).mono ?_); rintro e w' ⟨rfl, ⟨nd, rfl⟩⟩; refine ⟨_, rfl, ?_⟩))
 go_ret
 exact ⟨zE, zB⟩
mutual
def Bc.j0 : Nat → Int → Int → Int → List Int → Option (List Int × Int)
 | 0, _, _, _, _ => none
 | k + 1, x1, x2, x8, x102000 => if x8 = 0 then (if 0 ≤ x1 then (if x1 < (x102000.length : Int) then (if (rd x102000 x1) = 1 then (Bc.j1 k x1 x2 true x102000) else (if 0 ≤ x2 then (if x2 < (x102000.length : Int) then (Bc.j1 k x1 x2 ((rd x102000 x2) == 1) x102000) else (none)) else (none))) else (none)) else (none)) else (some (([] : List Int), x8))
def Bc.j1 : Nat → Int → Int → Bool → List Int → Option (List Int × Int)
 | 0, _, _, _, _ => none
 | k + 1, x1, x2, x42, x102000 => if x42 = true then (some (([] : List Int), 5)) else ((Fd.f x102000).bind fun t110 => (if 0 ≤ x1 then (if x1 < (t110.length : Int) then (if 0 ≤ x2 then (if x2 < (t110.length : Int) then ((Ee.f (t110.set (x1 : Int).toNat (wrap64 (Int.tdiv (mn (rd t110 x1) (rd t110 x2)) 2))) x2 (wrap64 (x2 + 1))).bind fun t116 => (some (t116, 0))) else (none)) else (none)) else (none)) else (none)))
end
def Bc.f (k : Nat) (l0_0 : List Int) (a1 : Int) (a2 : Int) : Option (List Int × Int) := (Ey.f l0_0 a1).bind fun t103 => (if t103 = true then ((Ey.f l0_0 a2).bind fun t104 => (if t104 = true then ((Dg.f l0_0 (decide (a1 < a2))).bind fun t105 => (Bc.j0 k a1 a2 t105 l0_0)) else ((Dg.f l0_0 false).bind fun t106 => (Bc.j0 k a1 a2 t106 l0_0)))) else ((Dg.f l0_0 false).bind fun t107 => (Bc.j0 k a1 a2 t107 l0_0)))
theorem Bc.mono_l : ∀ k, (∀ y0 y1 y2 y3, LeO (Bc.j0 k y0 y1 y2 y3) (Bc.j0 (k + 1) y0 y1 y2 y3)) ∧ (∀ y0 y1 y2 y3, LeO (Bc.j1 k y0 y1 y2 y3) (Bc.j1 (k + 1) y0 y1 y2 y3))
 | 0 => ⟨fun _ _ _ _ r h => by simp [Bc.j0] at h, fun _ _ _ _ r h => by simp [Bc.j1] at h⟩
 | k + 1 => by
  obtain ⟨ih0, ih1⟩ := Bc.mono_l k
  refine ⟨?_, ?_⟩ <;> intros <;> (first | unfold Bc.j0 | unfold Bc.j1) <;> repeat' first | (with_reducible first | exact ih0 _ _ _ _ | exact ih1 _ _ _ _ | exact LeO.refl _ | exact LeO.none _ | refine LeO.ite ?_ ?_ | refine LeO.bind ?_ (fun _ => ?_)) | exact ih0 _ _ _ _ | exact ih1 _ _ _ _ | exact LeO.none _ | refine LeO.ite ?_ ?_ | refine LeO.bind ?_ (fun _ => ?_)
theorem Bc.mono : ∀ a0 a1 a2 k, LeO (Bc.f k a0 a1 a2) (Bc.f (k + 1) a0 a1 a2) := by
 intro a0 a1 a2 k
 obtain ⟨ih0, ih1⟩ := Bc.mono_l k
 unfold Bc.f
 repeat' first | (with_reducible first | exact ih0 _ _ _ _ | exact ih1 _ _ _ _ | exact LeO.refl _ | exact LeO.none _ | refine LeO.ite ?_ ?_ | refine LeO.bind ?_ (fun _ => ?_)) | exact ih0 _ _ _ _ | exact ih1 _ _ _ _ | exact LeO.none _ | refine LeO.ite ?_ ?_ | refine LeO.bind ?_ (fun _ => ?_)
def Bc.T1 : Bool × List (List Nat × List Nat) := (true, [([], []), ([], []), ([], []), ([1, 2], [1, 2]), ([3, 3], [3]), ([4], [4]), ([4], [4]), ([5, 6, 4, 4], [4, 5, 6]), ([4, 7], [4, 7]), ([8, 7], [8]), ([9], [9]), ([9], [9]), ([10, 11, 9], [9, 10, 11]), ([9, 12], [9, 12]), ([0, 13, 9], [0, 13]), ([14, 14, 0, 1, 2, 3, 4, 5, 6, 7, 8, 9, 10, 11, 12, 13, 14], [14])])
def Bc.B1 : List Nat := [0, 0, 0, 6, 14, 30, 30, 126, 254, 510, 1022, 1022, 4094, 8190, 16383, 32767]
theorem Bc.tab1 : rtab .any (Lz Tryz.f6 1) = Bc.T1 := by kernel_rfl
theorem Bc.bits1 : Gh Bc.T1.2 Bc.B1 = true := by kernel_rfl
def Bc.T7 : Bool × List (List Nat × List Nat) := (true, [([], []), ([], []), ([], []), ([], []), ([2, 3], [2, 3]), ([4], [4]), ([], []), ([], []), ([6, 7], [6, 7]), ([8], [8]), ([5, 9], [5, 9]), ([10], [10]), ([0, 1, 0, 1, 2, 3, 4, 5, 6, 7, 8, 9, 10, 11], [0, 1]), ([12, 11, 0, 1, 2, 3, 4, 5, 6, 7, 8, 9, 10, 11], [11, 12])])
def Bc.B7 : List Nat := [0, 0, 0, 0, 12, 28, 0, 0, 192, 448, 1020, 2044, 4095, 8191]
theorem Bc.tab7 : rtab .any (Lz Tryz.f6 7) = Bc.T7 := by kernel_rfl
theorem Bc.bits7 : Gh Bc.T7.2 Bc.B7 = true := by kernel_rfl
end Go.Proofs.YtliepcfgcglcmaaGreat.P
end
