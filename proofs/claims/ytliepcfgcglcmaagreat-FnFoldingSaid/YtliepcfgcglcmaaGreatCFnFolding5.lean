/- Folded tasks served by turns are served by the divided turns, the gaps that turns serve are the least ones, and who asks more has greater gaps. -/
import Derived.Test.YtliepcfgcglcmaaGreatCFnFolding4

set_option maxRecDepth 100000
set_option maxHeartbeats 8000000
section
namespace Go.Proofs.YtliepcfgcglcmaaGreat.P
open Go.RowKit Go.Proofs.YtliepcfgcglcmaaGreatW.PrintWords Go.Proofs.YtliepcfgcglcmaaGreatW.PrintLast Go.Proofs.YtliepcfgcglcmaaGreatW.PrintMore
attribute [local go_sem] Kn Kj Ld Li Kb Ke Kl Km
set_option linter.unusedVariables false
set_option linter.unusedSimpArgs false
theorem Bc.calls (k : Nat) (A0_0 : Option Addr) (c0_0 : Nat) (l0_0 : List Int) (a1 : Int) (a2 : Int) (r1 : List Int) (r2 : Int) (w : World) (hr0_0 : Kd.C (Kd.int .i64) w A0_0 l0_0.length l0_0) (hc0_0 : l0_0.length ≤ c0_0) (h : Bc.f k l0_0 a1 a2 = some (r1, r2)) :
    Calls Tryz.prog 6 #[.agg #[.slice A0_0 l0_0.length c0_0], .int .i64 a1, .int .i64 a2] w fun e w' => ∃ v0_ : Value, e = .returned (.tuple #[.agg #[v0_], .int .i64 r2]) ∧ Kd.R (Kd.int .i64) 2 w' w.heap.size (fun _ => True) v0_ r1 ∧ Below w.heap.size w w' := by
 have hu26 := Tryz.underlying26
 have HR0_0 := Aa.mk hr0_0
 have HC0_0 := Aa.mk hc0_0
 clear hr0_0 hc0_0
 have HB := Aa.mk (Below.refl w.heap.size w)
 have H := h
 clear h
 unfold Bc.f at H
 have HC4 := Aa.mk H
 clear H
 go_enter Tryz.func6, Tryz.ntmps6
 go_upto_region 1 with (first | ((with_reducible refine Ay (N := 3) rfl ?_); refine Be zr (N := 3) zr (cs := #[.slice A0_0 l0_0.length c0_0]) (t := 26) zg ?_; intro gb101 hg w5 hbox hb; have n_ := y4 (Ab (zB) hb) (hbox) ((zS hg : w.heap.size ≤ gb101)) ((zS hg : w.heap.size ≤ gb101)); clear HB; obtain ⟨HB, BK101, GW101, GE101⟩ := n_; clear hb hbox hg) | ((with_reducible refine Ay (N := 6) rfl ?_); refine Be zr (N := 6) zr (cs := #[.slice none 0 0]) (t := 26) zg ?_; intro gb102 hg w6 hbox hb; have n_ := y7 (zb BK101.out hb) (Ab (zB) hb) (hbox) ((zS hg : w.heap.size ≤ gb102)) ((zS hg : w.heap.size ≤ gb102)) ((zL hg BK101.out : gb101 ≠ gb102)) ((zM hg BK101.out : gb102 ≠ gb101)); clear BK101 HB; obtain ⟨BK101, HB, BK102, GW102, GE102, NB101_102, NB102_101⟩ := n_; clear hb hbox hg))
 (try simp only [Act.put, List.setIfInBounds_toArray, List.set_cons_zero, List.set_cons_succ])
 go_cut [8] (fun v8 wc => ∃ (kq : Nat) (x8_3 : Int), v8 = .int .i64 x8_3 ∧ Aa (Bc.j0 kq a1 a2 x8_3 l0_0 = some (r1, r2)) ∧ Aa (kq ≤ k) ∧ Aa (wc.heap[gb101]? = some (.cells #[(.slice A0_0 l0_0.length c0_0)] 26 (0, 0))) ∧ Aa (wc.heap[gb102]? = some (.cells #[(.slice none 0 0)] 26 (0, 0))) ∧ Aa (Below w.heap.size w wc))
 case first =>
  have H := HC4.out
  clear HC4
  obtain ⟨t103, A7, H⟩ := zO H
  try dsimp only at H
  by_cases c8 : t103 = true
  case neg =>
   replace c8 := Bool.eq_false_iff.mpr c8
   subst c8
   rw [if_neg zf] at H
   obtain ⟨t107, A21, H⟩ := zO H
   try dsimp only at H
   have H' := Aa.mk H
   clear H
   try go_wp2
   have n_ := y3 (Ag BK101.out) (Ag BK102.out) (Bz HB.out)
   clear BK101 BK102 HB
   obtain ⟨BK101, BK102, HB⟩ := n_
   refine Fg (n := 16) (S := fun w' => w'.cell? ⟨gb101, 0, none⟩ = some (.slice A0_0 l0_0.length c0_0)) (ds := []) #[false,false,false,false,false,false,false,false,false,false,false,false,false,false,false,false] zk rfl rfl ((Au BK101.out 0).trans rfl) (fun hHeld => ?_); refine Eh Bc.tab1 Bc.bits1 (fun HT_ HW_ => ?_)
   generalize w6.drew = w22 at BK101 BK102 HB hHeld ⊢
   refine pT 2 12 HT_ ?_
   refine tT 0 10 HT_ HW_ hHeld ?_
   refine tT 1 11 HT_ HW_ hHeld ?_
   refine Fk (i := 3) (N := some 13) #[true,true,true,true,false,false,false,false,false,false,false,false,false,false,false,false] rfl rfl (Db HT_.out zk) (by decide) (fun K hK => ?_)
   refine Ff Tryz.func32 zk rfl #[.agg #[.slice A0_0 l0_0.length c0_0], .int .i64 a1] (by rfl) rfl rfl zA ?_
   with_reducible refine (Ey.calls _ _ l0_0 a1 false _ ?side1 ?side2 A7.out).mono ?_
   (case side1 => exact zC (Kd.Bh HR0_0.out HB.out))
   (case side2 => exact HC0_0.out)
   rintro e w23 ⟨rfl, hb⟩
   refine ⟨_, rfl, ?_⟩
   have n_ := y3 (zb BK101.out hb) (zb BK102.out hb) (Ab (zB) hb)
   clear BK101 BK102 HB
   obtain ⟨BK101, BK102, HB⟩ := n_
   try clear hb
   refine hK.out _ _ ((Au BK101.out 0).trans rfl) (fun hHeld => ?_)
   clear hK K
   refine nT 13 ?_
   refine pT 4 14 HT_ ?_
   refine Fz (i := 5) (N := some 15) (v := undef) (a' := ?_) #[true,true,true,true,true,true,false,false,false,false,false,false,false,false,false,false] rfl rfl (Ga HT_.out zk) (fun _ _ _ h => h) (Or.inr ⟨by rfl, rfl⟩) ?_ ?_
   rotate_left
   ·
    simp only [Act.put, List.setIfInBounds_toArray, List.set_cons_zero, List.set_cons_succ, Ec, En]
    rfl
   refine Fz (i := 6) (N := some 16) (v := undef) (a' := ?_) #[true,true,true,true,true,true,true,false,false,false,false,false,false,false,false,false] rfl rfl (Ga HT_.out zk) (fun _ _ _ h => h) (Or.inr ⟨by rfl, rfl⟩) ?_ ?_
   rotate_left
   ·
    simp only [Act.put, List.setIfInBounds_toArray, List.set_cons_zero, List.set_cons_succ, Ec, En]
    rfl
   refine Fz (i := 7) (N := some 17) (v := undef) (a' := ?_) #[true,true,true,true,true,true,true,true,false,false,false,false,false,false,false,false] rfl rfl (Ga HT_.out zk) (fun _ _ _ h => h) (Or.inr ⟨by rfl, rfl⟩) ?_ ?_
   rotate_left
   ·
    simp only [Act.put, List.setIfInBounds_toArray, List.set_cons_zero, List.set_cons_succ, Ec, En]
    rfl
   refine pT 8 18 HT_ ?_
   refine pT 9 19 HT_ ?_
   refine Fz (i := 10) (N := some 20) (v := undef) (a' := ?_) #[true,true,true,true,true,true,true,true,true,true,true,false,false,false,false,false] rfl rfl (Ga HT_.out zk) (fun _ _ _ h => h) (Or.inr ⟨by rfl, rfl⟩) ?_ ?_
   rotate_left
   ·
    simp only [Act.put, List.setIfInBounds_toArray, List.set_cons_zero, List.set_cons_succ, Ec, En]
    rfl
   refine Fz (i := 11) (N := some 21) (v := undef) (a' := ?_) #[true,true,true,true,true,true,true,true,true,true,true,true,false,false,false,false] rfl rfl (Ga HT_.out zk) (fun _ _ _ h => h) (Or.inr ⟨by rfl, rfl⟩) ?_ ?_
   rotate_left
   ·
    simp only [Act.put, List.setIfInBounds_toArray, List.set_cons_zero, List.set_cons_succ, Ec, En]
    rfl
   refine Fz (i := 12) (N := some 22) (v := undef) (a' := ?_) #[true,true,true,true,true,true,true,true,true,true,true,true,true,false,false,false] rfl rfl (Ga HT_.out zk) (fun _ _ _ h => h) (Or.inr ⟨by rfl, rfl⟩) ?_ ?_
   rotate_left
   ·
    simp only [Act.put, List.setIfInBounds_toArray, List.set_cons_zero, List.set_cons_succ, Ec, En]
    rfl
   refine pT 13 23 HT_ ?_
   refine Fk (i := 14) (N := some 24) #[true,true,true,true,true,true,true,true,true,true,true,true,true,true,true,false] rfl rfl (Db HT_.out zk) (by decide) (fun K hK => ?_)
   refine Ff Tryz.func31 zk rfl #[.agg #[.slice A0_0 l0_0.length c0_0], .bool false] (by rfl) rfl rfl zA ?_
   with_reducible refine (Dg.calls _ _ l0_0 false t107 _ ?side1 ?side2 A21.out).mono ?_
   (case side1 => exact zC (Kd.Bh HR0_0.out HB.out))
   (case side2 => exact HC0_0.out)
   rintro e w24 ⟨rfl, hb⟩
   refine ⟨_, rfl, ?_⟩
   have n_ := y3 (zb BK101.out hb) (zb BK102.out hb) (Ab (zB) hb)
   clear BK101 BK102 HB
   obtain ⟨BK101, BK102, HB⟩ := n_
   try clear hb
   refine hK.out _ _ ((Au BK101.out 0).trans rfl) (fun hHeld => ?_)
   clear hK K
   refine nT 24 ?_
   refine pT 15 8 HT_ ?_
   refine Gf (Fo HT_.out zk) ?_
   try go_wp2
   go_meet
   case rel => exact ⟨_, (t107), zF, H', ⟨by first | omega | exact Nat.le_refl _⟩, ⟨zG BK101.out⟩, ⟨zG BK102.out⟩, ⟨zB⟩⟩
  subst c8
  rw [if_pos rfl] at H
  obtain ⟨t104, A9, H⟩ := zO H
  try dsimp only at H
  by_cases c10 : t104 = true
  ·
   subst c10
   rw [if_pos rfl] at H
   obtain ⟨t105, A11, H⟩ := zO H
   try dsimp only at H
   have H' := Aa.mk H
   clear H
   try go_wp2
   have n_ := y3 (Ag BK101.out) (Ag BK102.out) (Bz HB.out)
   clear BK101 BK102 HB
   obtain ⟨BK101, BK102, HB⟩ := n_
   refine Fg (n := 16) (S := fun w' => w'.cell? ⟨gb101, 0, none⟩ = some (.slice A0_0 l0_0.length c0_0)) (ds := []) #[false,false,false,false,false,false,false,false,false,false,false,false,false,false,false,false] zk rfl rfl ((Au BK101.out 0).trans rfl) (fun hHeld => ?_); refine Eh Bc.tab1 Bc.bits1 (fun HT_ HW_ => ?_)
   generalize w6.drew = w12 at BK101 BK102 HB hHeld ⊢
   refine pT 2 12 HT_ ?_
   refine tT 0 10 HT_ HW_ hHeld ?_
   refine tT 1 11 HT_ HW_ hHeld ?_
   refine Fk (i := 3) (N := some 13) #[true,true,true,true,false,false,false,false,false,false,false,false,false,false,false,false] rfl rfl (Db HT_.out zk) (by decide) (fun K hK => ?_)
   refine Ff Tryz.func32 zk rfl #[.agg #[.slice A0_0 l0_0.length c0_0], .int .i64 a1] (by rfl) rfl rfl zA ?_
   with_reducible refine (Ey.calls _ _ l0_0 a1 true _ ?side1 ?side2 A7.out).mono ?_
   (case side1 => exact zC (Kd.Bh HR0_0.out HB.out))
   (case side2 => exact HC0_0.out)
   rintro e w13 ⟨rfl, hb⟩
   refine ⟨_, rfl, ?_⟩
   have n_ := y3 (zb BK101.out hb) (zb BK102.out hb) (Ab (zB) hb)
   clear BK101 BK102 HB
   obtain ⟨BK101, BK102, HB⟩ := n_
   try clear hb
   refine hK.out _ _ ((Au BK101.out 0).trans rfl) (fun hHeld => ?_)
   clear hK K
   refine nT 13 ?_
   refine pT 4 14 HT_ ?_
   refine pT 6 16 HT_ ?_
   refine tT 5 15 HT_ HW_ hHeld ?_
   refine Fk (i := 7) (N := some 17) #[true,true,true,true,true,true,true,true,false,false,false,false,false,false,false,false] rfl rfl (Db HT_.out zk) (by decide) (fun K hK => ?_)
   refine Ff Tryz.func32 zk rfl #[.agg #[.slice A0_0 l0_0.length c0_0], .int .i64 a2] (by rfl) rfl rfl zA ?_
   with_reducible refine (Ey.calls _ _ l0_0 a2 true _ ?side1 ?side2 A9.out).mono ?_
   (case side1 => exact zC (Kd.Bh HR0_0.out HB.out))
   (case side2 => exact HC0_0.out)
   rintro e w14 ⟨rfl, hb⟩
   refine ⟨_, rfl, ?_⟩
   have n_ := y3 (zb BK101.out hb) (zb BK102.out hb) (Ab (zB) hb)
   clear BK101 BK102 HB
   obtain ⟨BK101, BK102, HB⟩ := n_
   try clear hb
   refine hK.out _ _ ((Au BK101.out 0).trans rfl) (fun hHeld => ?_)
   clear hK K
   refine nT 17 ?_
   refine pT 8 18 HT_ ?_
   refine pT 9 19 HT_ ?_
   refine pT 10 20 HT_ ?_
   refine pT 11 21 HT_ ?_
   refine pT 12 22 HT_ ?_
   refine pT 13 23 HT_ ?_
   refine Fk (i := 14) (N := some 24) #[true,true,true,true,true,true,true,true,true,true,true,true,true,true,true,false] rfl rfl (Db HT_.out zk) (by decide) (fun K hK => ?_)
   refine Ff Tryz.func31 zk rfl #[.agg #[.slice A0_0 l0_0.length c0_0], .bool (decide (a1 < a2))] (by rfl) rfl rfl zA ?_
   with_reducible refine (Dg.calls _ _ l0_0 (decide (a1 < a2)) t105 _ ?side1 ?side2 A11.out).mono ?_
   (case side1 => exact zC (Kd.Bh HR0_0.out HB.out))
   (case side2 => exact HC0_0.out)
   rintro e w15 ⟨rfl, hb⟩
   refine ⟨_, rfl, ?_⟩
   have n_ := y3 (zb BK101.out hb) (zb BK102.out hb) (Ab (zB) hb)
   clear BK101 BK102 HB
   obtain ⟨BK101, BK102, HB⟩ := n_
   try clear hb
   refine hK.out _ _ ((Au BK101.out 0).trans rfl) (fun hHeld => ?_)
   clear hK K
   refine nT 24 ?_
   refine pT 15 8 HT_ ?_
   refine Gf (Fo HT_.out zk) ?_
   try go_wp2
   go_meet
   case rel => exact ⟨_, (t105), zF, H', ⟨by first | omega | exact Nat.le_refl _⟩, ⟨zG BK101.out⟩, ⟨zG BK102.out⟩, ⟨zB⟩⟩
  replace c10 := Bool.eq_false_iff.mpr c10
  subst c10
  rw [if_neg zf] at H
  obtain ⟨t106, A16, H⟩ := zO H
  try dsimp only at H
  have H' := Aa.mk H
  clear H
  try go_wp2
  have n_ := y3 (Ag BK101.out) (Ag BK102.out) (Bz HB.out)
  clear BK101 BK102 HB
  obtain ⟨BK101, BK102, HB⟩ := n_
  refine Fg (n := 16) (S := fun w' => w'.cell? ⟨gb101, 0, none⟩ = some (.slice A0_0 l0_0.length c0_0)) (ds := []) #[false,false,false,false,false,false,false,false,false,false,false,false,false,false,false,false] zk rfl rfl ((Au BK101.out 0).trans rfl) (fun hHeld => ?_); refine Eh Bc.tab1 Bc.bits1 (fun HT_ HW_ => ?_)
  generalize w6.drew = w17 at BK101 BK102 HB hHeld ⊢
  refine pT 2 12 HT_ ?_
  refine tT 0 10 HT_ HW_ hHeld ?_
  refine tT 1 11 HT_ HW_ hHeld ?_
  refine Fk (i := 3) (N := some 13) #[true,true,true,true,false,false,false,false,false,false,false,false,false,false,false,false] rfl rfl (Db HT_.out zk) (by decide) (fun K hK => ?_)
  refine Ff Tryz.func32 zk rfl #[.agg #[.slice A0_0 l0_0.length c0_0], .int .i64 a1] (by rfl) rfl rfl zA ?_
  with_reducible refine (Ey.calls _ _ l0_0 a1 true _ ?side1 ?side2 A7.out).mono ?_
  (case side1 => exact zC (Kd.Bh HR0_0.out HB.out))
  (case side2 => exact HC0_0.out)
  rintro e w18 ⟨rfl, hb⟩
  refine ⟨_, rfl, ?_⟩
  have n_ := y3 (zb BK101.out hb) (zb BK102.out hb) (Ab (zB) hb)
  clear BK101 BK102 HB
  obtain ⟨BK101, BK102, HB⟩ := n_
  try clear hb
  refine hK.out _ _ ((Au BK101.out 0).trans rfl) (fun hHeld => ?_)
  clear hK K
  refine nT 13 ?_
  refine pT 4 14 HT_ ?_
  refine pT 6 16 HT_ ?_
  refine tT 5 15 HT_ HW_ hHeld ?_
  refine Fk (i := 7) (N := some 17) #[true,true,true,true,true,true,true,true,false,false,false,false,false,false,false,false] rfl rfl (Db HT_.out zk) (by decide) (fun K hK => ?_)
  refine Ff Tryz.func32 zk rfl #[.agg #[.slice A0_0 l0_0.length c0_0], .int .i64 a2] (by rfl) rfl rfl zA ?_
  with_reducible refine (Ey.calls _ _ l0_0 a2 false _ ?side1 ?side2 A9.out).mono ?_
  (case side1 => exact zC (Kd.Bh HR0_0.out HB.out))
  (case side2 => exact HC0_0.out)
  rintro e w19 ⟨rfl, hb⟩
  refine ⟨_, rfl, ?_⟩
  have n_ := y3 (zb BK101.out hb) (zb BK102.out hb) (Ab (zB) hb)
  clear BK101 BK102 HB
  obtain ⟨BK101, BK102, HB⟩ := n_
  try clear hb
  refine hK.out _ _ ((Au BK101.out 0).trans rfl) (fun hHeld => ?_)
  clear hK K
  refine nT 17 ?_
  refine pT 8 18 HT_ ?_
  refine pT 9 19 HT_ ?_
  refine Fz (i := 10) (N := some 20) (v := undef) (a' := ?_) #[true,true,true,true,true,true,true,true,true,true,true,false,false,false,false,false] rfl rfl (Ga HT_.out zk) (fun _ _ _ h => h) (Or.inr ⟨by rfl, rfl⟩) ?_ ?_
  rotate_left
  ·
   simp only [Act.put, List.setIfInBounds_toArray, List.set_cons_zero, List.set_cons_succ, Ec, En]
   rfl
  refine Fz (i := 11) (N := some 21) (v := undef) (a' := ?_) #[true,true,true,true,true,true,true,true,true,true,true,true,false,false,false,false] rfl rfl (Ga HT_.out zk) (fun _ _ _ h => h) (Or.inr ⟨by rfl, rfl⟩) ?_ ?_
  rotate_left
  ·
   simp only [Act.put, List.setIfInBounds_toArray, List.set_cons_zero, List.set_cons_succ, Ec, En]
   rfl
  refine Fz (i := 12) (N := some 22) (v := undef) (a' := ?_) #[true,true,true,true,true,true,true,true,true,true,true,true,true,false,false,false] rfl rfl (Ga HT_.out zk) (fun _ _ _ h => h) (Or.inr ⟨by rfl, rfl⟩) ?_ ?_
  rotate_left
  ·
   simp only [Act.put, List.setIfInBounds_toArray, List.set_cons_zero, List.set_cons_succ, Ec, En]
   rfl
  refine pT 13 23 HT_ ?_
  refine Fk (i := 14) (N := some 24) #[true,true,true,true,true,true,true,true,true,true,true,true,true,true,true,false] rfl rfl (Db HT_.out zk) (by decide) (fun K hK => ?_)
  refine Ff Tryz.func31 zk rfl #[.agg #[.slice A0_0 l0_0.length c0_0], .bool false] (by rfl) rfl rfl zA ?_
  with_reducible refine (Dg.calls _ _ l0_0 false t106 _ ?side1 ?side2 A16.out).mono ?_
  (case side1 => exact zC (Kd.Bh HR0_0.out HB.out))
  (case side2 => exact HC0_0.out)
  rintro e w20 ⟨rfl, hb⟩
  refine ⟨_, rfl, ?_⟩
  have n_ := y3 (zb BK101.out hb) (zb BK102.out hb) (Ab (zB) hb)
  clear BK101 BK102 HB
  obtain ⟨BK101, BK102, HB⟩ := n_
  try clear hb
  refine hK.out _ _ ((Au BK101.out 0).trans rfl) (fun hHeld => ?_)
  clear hK K
  refine nT 24 ?_
  refine pT 15 8 HT_ ?_
  refine Gf (Fo HT_.out zk) ?_
  try go_wp2
  go_meet
  case rel => exact ⟨_, (t106), zF, H', ⟨by first | omega | exact Nat.le_refl _⟩, ⟨zG BK101.out⟩, ⟨zG BK102.out⟩, ⟨zB⟩⟩
 clear HC4
 obtain ⟨kq, x8_3, rfl, HA, HJ3, BK101, BK102, HB⟩ := hcut
 cases kq with
 | zero => exact absurd HA.out (by simp [Bc.j0])
 | succ kj3 =>
  have H := HA.out
  clear HA
  simp only [Bc.j0] at H
  by_cases c25 : x8_3 = 0
  case neg =>
   rw [if_neg c25] at H
   have c25b0 : (x8_3 == 0) = false := beq_eq_false_iff_ne.mpr c25
   have c25b1 : (x8_3 != 0) = true := bne_iff_ne.mpr c25
   simp only [Option.some.injEq, Prod.mk.injEq] at H
   obtain ⟨rfl, rfl⟩ := H
   have hnb57 := NB102_101.out
   have hnc57 := NB101_102.out
   obtain ⟨hcz58_0, hfz58_0⟩ := zw BK102.out
   go_wp2
   refine bodyPost_ret (Fw rfl _ _ gb102 26 #[.slice none 0 0] (0, 0) _ rfl (by (with_reducible repeat (first | refine Am ?_ _ | refine Ag ?_ | refine Ak ?_ _)); refine Cl (cs := #[.slice none 0 0]) ?_ 0 _ rfl; (with_reducible repeat (first | refine Am ?_ _ | refine Ag ?_ | refine Ak ?_ _)); exact BK102.out) Tryz.underlying26 rfl zk) rfl ?_
   exact ⟨_, zE, zN, zB⟩
  rw [if_pos c25] at H
  have c25b0 : (x8_3 == 0) = true := beq_iff_eq.mpr c25
  have c25b1 : (x8_3 != 0) = false := bne_eq_false_iff_eq.mpr c25
  clear c25
  have HC26 := Aa.mk H
  clear H
  go_upto_region 4 with (fail)
  go_cut [42] (fun v42 wc => ∃ (kq : Nat) (x42_25 : Bool), v42 = .bool x42_25 ∧ Aa (Bc.j1 kq a1 a2 x42_25 l0_0 = some (r1, r2)) ∧ Aa (kq ≤ kj3) ∧ Aa (wc.heap[gb101]? = some (.cells #[(.slice A0_0 l0_0.length c0_0)] 26 (0, 0))) ∧ Aa (wc.heap[gb102]? = some (.cells #[(.slice none 0 0)] 26 (0, 0))) ∧ Aa (Below w.heap.size w wc))
  case first =>
   have H := HC26.out
   clear HC26
   by_cases c27 : 0 ≤ a1
   case neg => rw [if_neg c27] at H; exact absurd H (by simp)
   rw [if_pos c27] at H
   have c27b0 := decide_eq_true c27
   clear c27
   (first | rw [c27b0] | (simp only [Ec, En]; rw [c27b0]) | skip)
   by_cases c28 : a1 < (l0_0.length : Int)
   case neg => rw [if_neg c28] at H; exact absurd H (by simp)
   rw [if_pos c28] at H
   have c28b0 := decide_eq_true c28
   clear c28
   by_cases c29 : (rd l0_0 a1) = 1
   ·
    rw [if_pos c29] at H
    have c29b0 : ((rd l0_0 a1) == 1) = true := beq_iff_eq.mpr c29
    have c29b1 : ((rd l0_0 a1) != 1) = false := bne_eq_false_iff_eq.mpr c29
    clear c29
    have H' := Aa.mk H
    clear H
    have hnb30 := NB101_102.out
    have hnc30 := NB102_101.out
    obtain ⟨hcz31_0, hfz31_0⟩ := zw BK101.out
    have p108 : 0 ≤ (a1 : Int) := zD
    have q108 : a1 < (l0_0.length : Int) := zD
    obtain ⟨ad108, e108, hx108_0⟩ := Kd.Cv HR0_0.out a1 p108 q108
    cases e108
    replace hx108_0 := (HB.out.cell (World.block_lt_of_cell? w _ hx108_0)).trans hx108_0
    replace p108 := eq_true p108
    replace q108 := eq_true q108
    go_wp2
    go_meet
    case rel => exact ⟨_, (true), zF, H', ⟨by have := HJ3.out; first | omega | exact Nat.le_refl _⟩, ⟨zG BK101.out⟩, ⟨zG BK102.out⟩, ⟨zB⟩⟩
   rw [if_neg c29] at H
   have c29b0 : ((rd l0_0 a1) == 1) = false := beq_eq_false_iff_ne.mpr c29
   have c29b1 : ((rd l0_0 a1) != 1) = true := bne_iff_ne.mpr c29
   by_cases c32 : 0 ≤ a2
   case neg => rw [if_neg c32] at H; exact absurd H (by simp)
   rw [if_pos c32] at H
   have c32b0 := decide_eq_true c32
   clear c32
   by_cases c33 : a2 < (l0_0.length : Int)
   case neg => rw [if_neg c33] at H; exact absurd H (by simp)
   rw [if_pos c33] at H
   have c33b0 := decide_eq_true c33
   clear c33
   have H' := Aa.mk H
   clear H
   have hnb34 := NB101_102.out
   have hnc34 := NB102_101.out
   obtain ⟨hcz35_0, hfz35_0⟩ := zw BK101.out
   have p108 : 0 ≤ (a1 : Int) := zD
   have q108 : a1 < (l0_0.length : Int) := zD
   obtain ⟨ad108, e108, hx108_0⟩ := Kd.Cv HR0_0.out a1 p108 q108
   cases e108
   replace hx108_0 := (HB.out.cell (World.block_lt_of_cell? w _ hx108_0)).trans hx108_0
   replace p108 := eq_true p108
   replace q108 := eq_true q108
   have p109 : 0 ≤ (a2 : Int) := zD
   have q109 : a2 < (l0_0.length : Int) := zD
   obtain ⟨ad109, e109, hx109_0⟩ := Kd.Cv HR0_0.out a2 p109 q109
   obtain rfl : ad108 = ad109 := (by injection e109)
   replace hx109_0 := (HB.out.cell (World.block_lt_of_cell? w _ hx109_0)).trans hx109_0
   replace p109 := eq_true p109
   replace q109 := eq_true q109
   go_wp2
   go_meet
   case rel => exact ⟨_, (((rd l0_0 a2) == 1)), zF, H', ⟨by have := HJ3.out; first | omega | exact Nat.le_refl _⟩, ⟨zG BK101.out⟩, ⟨zG BK102.out⟩, ⟨zB⟩⟩
  clear HC26
  try clear c25
  try clear c25b0
  try clear c25b1
  obtain ⟨kq, x42_25, rfl, HA, HJ25, BK101, BK102, HB⟩ := hcut
  cases kq with
  | zero => exact absurd HA.out (by simp [Bc.j1])
  | succ kj25 =>
   have H := HA.out
   clear HA
   simp only [Bc.j1] at H
   by_cases c36 : x42_25 = true
   ·
    subst c36
    rw [if_pos rfl] at H
    simp only [Option.some.injEq, Prod.mk.injEq] at H
    obtain ⟨rfl, rfl⟩ := H
    have hnb37 := NB102_101.out
    have hnc37 := NB101_102.out
    obtain ⟨hcz38_0, hfz38_0⟩ := zw BK102.out
    go_wp2
    refine bodyPost_ret (Fw rfl _ _ gb102 26 #[.slice none 0 0] (0, 0) _ rfl (by (with_reducible repeat (first | refine Am ?_ _ | refine Ag ?_ | refine Ak ?_ _)); refine Cl (cs := #[.slice none 0 0]) ?_ 0 _ rfl; (with_reducible repeat (first | refine Am ?_ _ | refine Ag ?_ | refine Ak ?_ _)); exact BK102.out) Tryz.underlying26 rfl zk) rfl ?_
    exact ⟨_, zE, zN, zB⟩
   replace c36 := Bool.eq_false_iff.mpr c36
   subst c36
   rw [if_neg zf] at H
   obtain ⟨t110, A39, H⟩ := zO H
   try dsimp only at H
   by_cases c40 : 0 ≤ a1
   case neg => rw [if_neg c40] at H; exact absurd H (by simp)
   rw [if_pos c40] at H
   have c40b0 := decide_eq_true c40
   clear c40
   by_cases c41 : a1 < (t110.length : Int)
   case neg => rw [if_neg c41] at H; exact absurd H (by simp)
   rw [if_pos c41] at H
   have c41b0 := decide_eq_true c41
   clear c41
   by_cases c42 : 0 ≤ a2
   case neg => rw [if_neg c42] at H; exact absurd H (by simp)
   rw [if_pos c42] at H
   have c42b0 := decide_eq_true c42
   clear c42
   by_cases c43 : a2 < (t110.length : Int)
   case neg => rw [if_neg c43] at H; exact absurd H (by simp)
   rw [if_pos c43] at H
   have c43b0 := decide_eq_true c43
   clear c43
   obtain ⟨ji44, hji44⟩ : ∃ j_ : Int, (mn (rd t110 a1) (rd t110 a2)) = j_ := ⟨_, rfl⟩
   replace H : ((Ee.f (t110.set (a1 : Int).toNat (wrap64 (Int.tdiv (ji44) 2))) a2 (wrap64 (a2 + 1))).bind fun t116 => (some (t116, 0))) = some (r1, r2) := by first | (rw [hji44] at H; exact H) | (simp only [hji44] at H ⊢; exact H)
   (try rw [hji44] at A39)
   have hji44_ : (if (rd t110 a2) < (rd t110 a1) then (rd t110 a2) else (rd t110 a1)) = ji44 := hji44
   obtain ⟨y115, hy115⟩ : ∃ y_ : List Int, y_ = (t110.set (a1 : Int).toNat (wrap64 (Int.tdiv (ji44) 2))) := ⟨_, rfl⟩
   replace H : ((Ee.f y115 a2 (wrap64 (a2 + 1))).bind fun t116 => (some (t116, 0))) = some (r1, r2) := zH hy115
   have Ny115 := Aa.mk hy115
   clear hy115
   obtain ⟨t116, A46, H⟩ := zO H
   try dsimp only at H
   simp only [Option.some.injEq, Prod.mk.injEq] at H
   obtain ⟨rfl, rfl⟩ := H
   have hnb47 := NB101_102.out
   have hnc47 := NB102_101.out
   obtain ⟨hcz48_0, hfz48_0⟩ := zw BK101.out
   try go_wp2_with (first | (refine gK 33 ?_; refine gL 46 Tryz.func33 #[.slice A0_0 l0_0.length c0_0] ?_; (with_reducible refine (Fd.calls _ _ l0_0 t110 _ ?side1 HC0_0.out A39.out).mono ?_); (case side1 => exact zC (Kd.Bh HR0_0.out HB.out)); rintro e w49 ⟨v111, rfl, ho0, hb⟩; refine ⟨_, rfl, ?_⟩; have n_ := y4 (Kd.Bk ho0 (An (zB))) (zb BK101.out hb) (zb BK102.out hb) (Ab (zB) hb); clear BK101 BK102 HB; obtain ⟨HO112, BK101, BK102, HB⟩ := n_; (try clear ho0 hb)))
   have n_ := y4 (Kd.Ep HO112.out) (Ag BK101.out) (Ag BK102.out) (Bz HB.out)
   clear HO112 BK101 BK102 HB
   obtain ⟨HO112, BK101, BK102, HB⟩ := n_
   obtain ⟨Ao51, co51, eo51⟩ := Kd.Bb HO112.out
   (first | subst eo51 | (injection eo51 with f1_ f2_ f3_; have f4_ := f1_.symm; have f5_ := f3_.symm; clear f1_ f2_ f3_; subst f4_; subst f5_))
   have p113 : 0 ≤ (a1 : Int) := zD
   have q113 : a1 < (t110.length : Int) := zD
   obtain ⟨ad113, e113, hx113_0⟩ := Kd.Cv (Kd.Ae HO112.out).2.2 a1 p113 q113
   cases e113
   replace p113 := eq_true p113
   replace q113 := eq_true q113
   have p114 : 0 ≤ (a2 : Int) := zD
   have q114 : a2 < (t110.length : Int) := zD
   obtain ⟨ad114, e114, hx114_0⟩ := Kd.Cv (Kd.Ae HO112.out).2.2 a2 p114 q114
   obtain rfl : ad113 = ad114 := (by injection e114)
   replace p114 := eq_true p114
   replace q114 := eq_true q114
   have p45 : 0 ≤ (a1 : Int) := zD
   have q45 : (a1 : Int) < ((t110.length : Int) : Int) := zD
   obtain ⟨go45, co45, eo45, gb45, gl45, cl45, HG45⟩ := Kd.Lk HO112.out (by omega)
   (first | cases eo45 | (injection eo45 with ea_ en_ ec_; (first | subst ea_ | (injection ea_ with ea_; subst ea_)); subst ec_; clear en_))
   have GB45 := Aa.mk gb45
   have GG45 := Aa.mk HG45
   clear gb45 gl45 HG45
   (first | simp only [Gw] at hx113_0 | skip)
   (first | simp only [Gw] at hx114_0 | skip)
   obtain ⟨hx45_0, hf45_0⟩ := Kd.Fx 0 HO112.out (a1 : Int) p45 q45
   replace p45 := eq_true p45
   replace q45 := eq_true q45
   have HP52 := Kd.Pm HO112.out (a1 : Int) (wrap64 (Int.tdiv (ji44) 2))
   rw [← Ny115.out] at HP52
   have HQ52 := Aa.mk HP52
   clear HP52
   refine Fg (n := 14) (S := fun w' => w'.cell? ⟨go45, (a1).toNat, none⟩ = some (.int .i64 (rd t110 a1)) ∧ w'.cell? ⟨go45, (a2).toNat, none⟩ = some (.int .i64 (rd t110 a2))) (ds := [13]) #[false,false,false,false,false,false,false,false,false,false,false,false,false,false] zk rfl rfl ⟨hx113_0, hx114_0⟩ (fun hHeld => ?_); refine Eh Bc.tab7 Bc.bits7 (fun HT_ HW_ => ?_)
   generalize w49.drew = w50 at HO112 BK101 BK102 HB GG45 HQ52 hf45_0 hx113_0 hx114_0 hx45_0 hHeld ⊢
   refine pT 0 47 HT_ ?_
   refine pT 1 48 HT_ ?_
   refine pT 2 49 HT_ ?_
   refine pT 3 50 HT_ ?_
   refine pT 4 51 HT_ ?_
   refine pT 6 53 HT_ ?_
   refine pT 7 54 HT_ ?_
   refine pT 8 55 HT_ ?_
   refine tT 5 52 HT_ HW_ hHeld ?_
   refine tT 9 56 HT_ HW_ hHeld ?_
   refine pT 10 57 HT_ ?_
   refine pT 11 58 HT_ ?_
   refine pT 12 59 HT_ ?_
   refine Ms (i := 13) (N := none) #[true,true,true,true,true,true,true,true,true,true,true,true,true,true] rfl rfl (Db HT_.out zk) (by decide) (fun K hK => ?_)
   refine Lo (w1 := ?_) (by rfl) rfl ?_ ?_
   rotate_left
   ·
    go_simp
    rfl
   refine hK.out _ _ ?_
   clear hK K
   refine Gf (Fo HT_.out zk) ?_
   have n0_ : Aa (Kd.R (Kd.int .i64) 2 (w50.setCell ⟨go45, (a1 : Int).toNat, none⟩ (.int .i64 (wrap64 (Int.tdiv (ji44) 2)))) w.heap.size (fun _ => True) (.slice (some ⟨go45, 0, none⟩) t110.length co51) y115) := ⟨zR HQ52.out⟩
   have n1_ : Aa ((w50.setCell ⟨go45, (a1 : Int).toNat, none⟩ (.int .i64 (wrap64 (Int.tdiv (ji44) 2)))).heap[gb101]? = some (.cells #[.slice A0_0 l0_0.length c0_0] 26 (0, 0))) := ⟨by refine zG ?_; refine Ce ?_ (by have h_ := Kd.Em HO112.out BK101.out (by decide); intro e_; exact h_ (by rw [e_]; rfl)) _; refine zG ?_; exact BK101.out⟩
   have n2_ : Aa ((w50.setCell ⟨go45, (a1 : Int).toNat, none⟩ (.int .i64 (wrap64 (Int.tdiv (ji44) 2)))).heap[gb102]? = some (.cells #[.slice none 0 0] 26 (0, 0))) := ⟨by refine zG ?_; refine Ce ?_ (by have h_ := Kd.Em HO112.out BK102.out (by decide); intro e_; exact h_ (by rw [e_]; rfl)) _; refine zG ?_; exact BK102.out⟩
   have n3_ : Aa (Below w.heap.size w (w50.setCell ⟨go45, (a1 : Int).toNat, none⟩ (.int .i64 (wrap64 (Int.tdiv (ji44) 2))))) := ⟨zB⟩
   (try clear HO112)
   (try clear BK101)
   (try clear BK102)
   (try clear HB)
   generalize (w50.setCell ⟨go45, (a1 : Int).toNat, none⟩ (.int .i64 (wrap64 (Int.tdiv (ji44) 2)))) = w53 at n0_ n1_ n2_ n3_ ⊢
   have HO112 := n0_
   have BK101 := n1_
   have BK102 := n2_
   have HB := n3_
   clear n0_ n1_ n2_ n3_
   try go_wp2_with (first | (refine gK 34 ?_; refine Vj (some 64) rfl rfl Tryz.func34 zk rfl #[.slice (some ⟨go45, 0, none⟩) y115.length co51, .int .i64 a2, .int .i64 (wrap64 (a2 + 1))] rfl (by (try simp only [List.map_toArray, List.map_cons, List.map_nil]); first | done | (rw [show y115.length = t110.length from (Kd.Ae HO112.out).1.symm] <;> rfl) | rfl | (simp only [List.length_drop, List.length_take]; rfl)) ?_; (refine (Ee.own go45 co51 y115 t116 a2 (wrap64 (a2 + 1)) w.heap.size (fun _ => True) _ (by have h_ := HO112.out; rwa [(Kd.Ae HO112.out).1] at h_) A46.out).mono ?_); rintro e w54 ⟨rfl, ho0, hg⟩; refine ⟨_, rfl, ?_⟩; have n_ := y4 ho0 ((hg.block gb101 (Array.getElem?_eq_some_iff.1 BK101.out).1 (Kd.Em HO112.out BK101.out (by decide))).trans BK101.out) ((hg.block gb102 (Array.getElem?_eq_some_iff.1 BK102.out).1 (Kd.Em HO112.out BK102.out (by decide))).trans BK102.out) (HB.out.grown hg (An HB.out) (fun k hk => by cases hk; exact Kd.Bs HO112.out go45 rfl)); clear HO112 BK101 BK102 HB; obtain ⟨HO118, BK101, BK102, HB⟩ := n_; clear hg; (try clear ho0); obtain ⟨hcz56_0, hfz56_0⟩ := zw BK102.out))
   refine bodyPost_ret (Fw rfl _ _ gb102 26 #[.slice (some ⟨go45, 0, none⟩) t116.length co51] (0, 0) _ rfl (by (with_reducible repeat (first | refine Am ?_ _ | refine Ag ?_ | refine Ak ?_ _)); refine Cl (cs := #[.slice none 0 0]) ?_ 0 _ rfl; (with_reducible repeat (first | refine Am ?_ _ | refine Ag ?_ | refine Ak ?_ _)); exact BK102.out) Tryz.underlying26 rfl zk) rfl ?_
   exact ⟨_, by first | rfl | (simp [Gn, Gm] <;> rfl) | (simp only [← hji44]; first | rfl | (simp [Gn, Gm] <;> rfl)) | (simp [*, Gn, Gm] <;> rfl), by refine zR ?_; exact Kd.Ai (Kd.Dv (p := ⟨gb102, 0, none⟩) (Kd.Cj HO118.out BK102.out (by decide)) (fun _ hk => hk.2) (.slice (some ⟨go45, 0, none⟩) t116.length co51)) (fun _ hk => trivial), zB⟩
def Ej.f (a0 : Int) (a1 : Int) (a2 : Int) : Option (Bool) := if a0 ≥ a1 then (some (decide (a0 ≤ a2))) else (some false)
theorem Ej.calls (a0 : Int) (a1 : Int) (a2 : Int) (r : Bool) (w : World) (h : Ej.f a0 a1 a2 = some r) :
    Calls Tryz.prog 36 #[.int .i64 a0, .int .i64 a1, .int .i64 a2] w fun e w' => e = .returned (.bool r) ∧ Ct w w' := by
 have H := h
 clear h
 unfold Ej.f at H
 by_cases c4 : a0 ≥ a1
 ·
  rw [if_pos c4] at H
  have c4b0 := decide_eq_true c4
  clear c4
  obtain rfl := Option.some.inj H
  go_enter Tryz.func36, Tryz.ntmps36
  go_wp2
  go_ret
  exact ⟨by first | rfl | (simp; done) | (simp [*]; done), by repeat (first | exact Ct.refl _ | apply Ct.step)⟩
 rw [if_neg c4] at H
 have c4b0 := decide_eq_false c4
 clear c4
 obtain rfl := Option.some.inj H
 go_enter Tryz.func36, Tryz.ntmps36
 go_wp2
 go_ret
 exact ⟨by first | rfl | (simp; done) | (simp [*]; done), by repeat (first | exact Ct.refl _ | apply Ct.step)⟩
def Cb.l0 : Nat → Int → List Int → Option (Bool)
 | 0, _, _ => none
 | k + 1, x3, x102000 => if x3 < (x102000.length : Int) then (if 0 ≤ x3 then ((Ej.f (rd x102000 x3) 1 40).bind fun t103 => (if t103 = true then (Cb.l0 k (wrap64 (x3 + 1)) x102000) else (some false))) else (none)) else ((Dt.f x102000).bind fun t104 => ((Ej.f t104 1 8).bind fun t105 => (some t105)))
def Cb.f (k : Nat) (l0_0 : List Int) : Option (Bool) := Cb.l0 k 0 l0_0
theorem Cb.mono_l : ∀ k, (∀ y0 y1, LeO (Cb.l0 k y0 y1) (Cb.l0 (k + 1) y0 y1))
 | 0 => fun _ _ r h => by simp [Cb.l0] at h
 | k + 1 => by
  have ih0 := Cb.mono_l k
  ·
   intro y0 y1
   unfold Cb.l0
   repeat' first | (with_reducible first | exact ih0 _ _ | exact LeO.refl _ | exact LeO.none _ | refine LeO.ite ?_ ?_ | refine LeO.bind ?_ (fun _ => ?_)) | exact ih0 _ _ | exact LeO.none _ | refine LeO.ite ?_ ?_ | refine LeO.bind ?_ (fun _ => ?_)
theorem Cb.mono : ∀ a0 k, LeO (Cb.f k a0) (Cb.f (k + 1) a0) := by
 intro a0 k
 have ih0 := Cb.mono_l k
 unfold Cb.f
 repeat' first | (with_reducible first | exact ih0 _ _ | exact LeO.refl _ | exact LeO.none _ | refine LeO.ite ?_ ?_ | refine LeO.bind ?_ (fun _ => ?_)) | exact ih0 _ _ | exact LeO.none _ | refine LeO.ite ?_ ?_ | refine LeO.bind ?_ (fun _ => ?_)
theorem Cb.calls (k : Nat) (A0_0 : Option Addr) (c0_0 : Nat) (l0_0 : List Int) (r : Bool) (w : World) (hr0_0 : Kd.C (Kd.int .i64) w A0_0 l0_0.length l0_0) (hc0_0 : l0_0.length ≤ c0_0) (h : Cb.f k l0_0 = some r) :
    Calls Tryz.prog 35 #[.agg #[.slice A0_0 l0_0.length c0_0]] w fun e w' => e = .returned (.bool r) ∧ Below w.heap.size w w' := by
 have hu26 := Tryz.underlying26
 have HR0_0 := Aa.mk hr0_0
 have HC0_0 := Aa.mk hc0_0
 clear hr0_0 hc0_0
 have HB := Aa.mk (Below.refl w.heap.size w)
 have H := h
 clear h
 unfold Cb.f at H
 have H' := Aa.mk H
 clear H
 go_enter Tryz.func35, Tryz.ntmps35
 go_wp2_with (first | ((with_reducible refine Ay (N := 1) rfl ?_); refine Be zr (N := 1) zr (cs := #[.slice A0_0 l0_0.length c0_0]) (t := 26) zg ?_; intro gb101 hg w2 hbox hb; have n_ := y4 (Ab (zB) hb) (hbox) ((zS hg : w.heap.size ≤ gb101)) ((zS hg : w.heap.size ≤ gb101)); clear HB; obtain ⟨HB, BK101, GW101, GE101⟩ := n_; clear hb hbox hg))
 go_loopg [3] k (fun kq v3 w' => ∃ (x3_1 : Int), v3 = .int .i64 x3_1 ∧ Aa (Cb.l0 kq x3_1 l0_0 = some r) ∧ Aa (kq ≤ k) ∧ Aa (w'.heap[gb101]? = some (.cells #[(.slice A0_0 l0_0.length c0_0)] 26 (0, 0))) ∧ Aa (Below w.heap.size w w'))
 case atStart => exact ⟨(0), zF, H', ⟨Nat.le_refl _⟩, ⟨zG BK101.out⟩, ⟨zB⟩⟩
 clear H'
 obtain ⟨x3_1, rfl, HA, HK1, BK101, HB⟩ := hrel
 cases gk with
 | zero => exact absurd HA.out (by simp [Cb.l0])
 | succ k1 =>
  have H := HA.out
  clear HA
  simp only [Cb.l0] at H
  by_cases c3 : x3_1 < (l0_0.length : Int)
  case neg =>
   rw [if_neg c3] at H
   have c3b0 := decide_eq_false c3
   clear c3
   obtain ⟨t104, A9, H⟩ := zO H
   try dsimp only at H
   obtain ⟨t105, A10, H⟩ := zO H
   try dsimp only at H
   obtain rfl := Option.some.inj H
   obtain ⟨hcz11_0, hfz11_0⟩ := zw BK101.out
   go_wp2_with (first | (refine gK 28 ?_; refine gL 19 Tryz.func28 #[.agg #[.slice A0_0 l0_0.length c0_0]] ?_; (with_reducible refine (Dt.calls _ _ l0_0 t104 _ ?side1 HC0_0.out A9.out).mono ?_); (case side1 => exact zC (Kd.Bh HR0_0.out HB.out)); rintro e w12 ⟨rfl, hb⟩; refine ⟨_, rfl, ?_⟩; have n_ := y2 (zb BK101.out hb) (Ab (zB) hb); clear BK101 HB; obtain ⟨BK101, HB⟩ := n_; (try clear hb)) | (refine gK 36 ?_; refine gL 20 Tryz.func36 #[.int .i64 t104, .int .i64 1, .int .i64 8] ?_; (with_reducible refine (Ej.calls t104 1 8 t105 _ A10.out).mono ?_); rintro e w' ⟨rfl, ⟨nd, rfl⟩⟩; refine ⟨_, rfl, ?_⟩))
   go_ret
   exact ⟨zE, zB⟩
  rw [if_pos c3] at H
  have c3b0 := decide_eq_true c3
  clear c3
  by_cases c4 : 0 ≤ x3_1
  case neg => rw [if_neg c4] at H; exact absurd H (by simp)
  rw [if_pos c4] at H
  have c4b0 := decide_eq_true c4
  clear c4
  obtain ⟨t103, A5, H⟩ := zO H
  try dsimp only at H
  by_cases c6 : t103 = true
  ·
   subst c6
   rw [if_pos rfl] at H
   have H' := Aa.mk H
   clear H
   obtain ⟨hcz7_0, hfz7_0⟩ := zw BK101.out
   have p102 : 0 ≤ (x3_1 : Int) := zD
   have q102 : x3_1 < (l0_0.length : Int) := zD
   obtain ⟨ad102, e102, hx102_0⟩ := Kd.Cv HR0_0.out x3_1 p102 q102
   cases e102
   replace hx102_0 := (HB.out.cell (World.block_lt_of_cell? w _ hx102_0)).trans hx102_0
   replace p102 := eq_true p102
   replace q102 := eq_true q102
   go_wp2_with (first | (refine gK 36 ?_; refine gL 16 Tryz.func36 #[.int .i64 (rd l0_0 x3_1), .int .i64 1, .int .i64 40] ?_; (with_reducible refine (Ej.calls (rd l0_0 x3_1) 1 40 true _ A5.out).mono ?_); rintro e w' ⟨rfl, ⟨nd, rfl⟩⟩; refine ⟨_, rfl, ?_⟩))
   go_roundg k1
   case measure => have := HK1.out; omega
   case rel => exact ⟨(wrap64 (x3_1 + 1)), zF, H', ⟨by have := HK1.out; omega⟩, ⟨zG BK101.out⟩, ⟨zB⟩⟩
  replace c6 := Bool.eq_false_iff.mpr c6
  subst c6
  rw [if_neg zf] at H
  obtain rfl := Option.some.inj H
  obtain ⟨hcz8_0, hfz8_0⟩ := zw BK101.out
  have p102 : 0 ≤ (x3_1 : Int) := zD
  have q102 : x3_1 < (l0_0.length : Int) := zD
  obtain ⟨ad102, e102, hx102_0⟩ := Kd.Cv HR0_0.out x3_1 p102 q102
  cases e102
  replace hx102_0 := (HB.out.cell (World.block_lt_of_cell? w _ hx102_0)).trans hx102_0
  replace p102 := eq_true p102
  replace q102 := eq_true q102
  go_wp2_with (first | (refine gK 36 ?_; refine gL 16 Tryz.func36 #[.int .i64 (rd l0_0 x3_1), .int .i64 1, .int .i64 40] ?_; (with_reducible refine (Ej.calls (rd l0_0 x3_1) 1 40 false _ A5.out).mono ?_); rintro e w' ⟨rfl, ⟨nd, rfl⟩⟩; refine ⟨_, rfl, ?_⟩))
  go_ret
  exact ⟨zE, zB⟩
def Bp.j0 : Nat → Int → Int → Bool → List Int → Option (List Int × Int)
 | 0, _, _, _, _ => none
 | k + 1, x1, x2, x14, x102000 => if x14 = true then (some (([] : List Int), 2)) else (if 0 ≤ x1 then (if x1 < (x102000.length : Int) then (if (rd x102000 x1) = 1 then (some (([] : List Int), 5)) else (if 0 ≤ x2 then (if x2 < (x102000.length : Int) then (if (rd x102000 x2) = 1 then (some (([] : List Int), 5)) else (if x2 ≤ (x102000.length : Int) then ((Fc.f (x102000.take (x2 : Int).toNat)).bind fun t111 => (if 0 ≤ (wrap64 (x2 + 1)) then (if (wrap64 (x2 + 1)) ≤ (x102000.length : Int) then (if t111.length + (x102000.drop ((wrap64 (x2 + 1)) : Int).toNat).length < 17592186044416 then ((some (t111 ++ (x102000.drop ((wrap64 (x2 + 1)) : Int).toNat) : List Int)).bind fun y115 => (if x1 < (y115.length : Int) then (some ((y115.set (x1 : Int).toNat (wrap64 (Int.tdiv (mn (rd x102000 x1) (rd x102000 x2)) 2))), 0)) else (none))) else (none)) else (none)) else (none))) else (none))) else (none)) else (none))) else (none)) else (none))
def Bp.f (k : Nat) (l0_0 : List Int) (a1 : Int) (a2 : Int) : Option (List Int × Int) := (Cb.f k l0_0).bind fun t103 => (if t103 = true then ((Dt.f l0_0).bind fun t104 => ((Ej.f a1 0 (wrap64 (t104 - 1))).bind fun t105 => (if t105 = true then ((Dt.f l0_0).bind fun t106 => ((Ej.f a2 (wrap64 (a1 + 1)) (wrap64 (t106 - 1))).bind fun t107 => (Bp.j0 k a1 a2 (!t107) l0_0))) else (Bp.j0 k a1 a2 true l0_0)))) else (some (([] : List Int), 1)))
theorem Bp.mono_l : ∀ k, (∀ y0 y1 y2 y3, LeO (Bp.j0 k y0 y1 y2 y3) (Bp.j0 (k + 1) y0 y1 y2 y3))
 | 0 => fun _ _ _ _ r h => by simp [Bp.j0] at h
 | k + 1 => by
  have ih0 := Bp.mono_l k
  ·
   intro y0 y1 y2 y3
   unfold Bp.j0
   repeat' first | (with_reducible first | exact ih0 _ _ _ _ | exact Cb.mono _ _ | exact LeO.refl _ | exact LeO.none _ | refine LeO.ite ?_ ?_ | refine LeO.bind ?_ (fun _ => ?_)) | exact ih0 _ _ _ _ | exact Cb.mono _ _ | exact LeO.none _ | refine LeO.ite ?_ ?_ | refine LeO.bind ?_ (fun _ => ?_)
theorem Bp.mono : ∀ a0 a1 a2 k, LeO (Bp.f k a0 a1 a2) (Bp.f (k + 1) a0 a1 a2) := by
 intro a0 a1 a2 k
 have ih0 := Bp.mono_l k
 unfold Bp.f
 repeat' first | (with_reducible first | exact ih0 _ _ _ _ | exact Cb.mono _ _ | exact LeO.refl _ | exact LeO.none _ | refine LeO.ite ?_ ?_ | refine LeO.bind ?_ (fun _ => ?_)) | exact ih0 _ _ _ _ | exact Cb.mono _ _ | exact LeO.none _ | refine LeO.ite ?_ ?_ | refine LeO.bind ?_ (fun _ => ?_)
def Bp.T7 : Bool × List (List Nat × List Nat) := (true, [([], []), ([0], [0]), ([], []), ([1, 2], [1, 2]), ([3], [3]), ([], []), ([5], [5]), ([], []), ([7], [7]), ([6, 8], [6, 8]), ([4, 9, 4], [4, 9]), ([10], [10]), ([], []), ([12, 11, 10, 0, 1, 2, 3, 4, 5, 6, 7, 8, 9, 10, 11, 12], [11, 12])])
def Bp.B7 : List Nat := [0, 1, 0, 7, 15, 0, 32, 0, 128, 480, 1023, 2047, 0, 8191]
theorem Bp.tab7 : rtab .any (Lz Tryz.f7 7) = Bp.T7 := by kernel_rfl
theorem Bp.bits7 : Gh Bp.T7.2 Bp.B7 = true := by kernel_rfl
def Bp.T8 : Bool × List (List Nat × List Nat) := (true, [([], []), ([0], [0]), ([], []), ([], []), ([3], [3]), ([], []), ([4, 5], [4, 5]), ([6], [6]), ([], []), ([8], [8]), ([], []), ([9, 10], [9, 10]), ([11], [11]), ([7, 12], [7, 12]), ([13], [13]), ([1, 2, 0, 1, 2, 3, 4, 5, 6, 7, 8, 9, 10, 11, 12, 13, 14], [1, 2]), ([15, 14, 0, 1, 2, 3, 4, 5, 6, 7, 8, 9, 10, 11, 12, 13, 14], [14, 15])])
def Bp.B8 : List Nat := [0, 1, 0, 0, 8, 0, 56, 120, 0, 256, 0, 1792, 3840, 8184, 16376, 32767, 65535]
theorem Bp.tab8 : rtab .any (Lz Tryz.f7 8) = Bp.T8 := by kernel_rfl
theorem Bp.bits8 : Gh Bp.T8.2 Bp.B8 = true := by kernel_rfl
theorem Bp.calls (k : Nat) (A0_0 : Option Addr) (c0_0 : Nat) (l0_0 : List Int) (a1 : Int) (a2 : Int) (r1 : List Int) (r2 : Int) (w : World) (hr0_0 : Kd.C (Kd.int .i64) w A0_0 l0_0.length l0_0) (hc0_0 : l0_0.length ≤ c0_0) (h : Bp.f k l0_0 a1 a2 = some (r1, r2)) :
    Calls Tryz.prog 7 #[.agg #[.slice A0_0 l0_0.length c0_0], .int .i64 a1, .int .i64 a2] w fun e w' => ∃ v0_ : Value, e = .returned (.tuple #[.agg #[v0_], .int .i64 r2]) ∧ Kd.R (Kd.int .i64) 2 w' w.heap.size (fun _ => True) v0_ r1 ∧ Below w.heap.size w w' := by
 have hu26 := Tryz.underlying26
 have HR0_0 := Aa.mk hr0_0
 have HC0_0 := Aa.mk hc0_0
 clear hr0_0 hc0_0
 have HB := Aa.mk (Below.refl w.heap.size w)
 have H := h
 clear h
 unfold Bp.f at H
 obtain ⟨t103, A4, H⟩ := zO H
 try dsimp only at H
 by_cases c5 : t103 = true
 case neg =>
  replace c5 := Bool.eq_false_iff.mpr c5
  subst c5
  rw [if_neg zf] at H
  simp only [Option.some.injEq, Prod.mk.injEq] at H
  obtain ⟨rfl, rfl⟩ := H
  go_enter Tryz.func7, Tryz.ntmps7
  go_wp2_with (first | ((with_reducible refine Ay (N := 3) rfl ?_); refine Be zr (N := 3) zr (cs := #[.slice A0_0 l0_0.length c0_0]) (t := 26) zg ?_; intro gb101 hg w70 hbox hb; have n_ := y4 (Ab (zB) hb) (hbox) ((zS hg : w.heap.size ≤ gb101)) ((zS hg : w.heap.size ≤ gb101)); clear HB; obtain ⟨HB, BK101, GW101, GE101⟩ := n_; clear hb hbox hg) | ((with_reducible refine Ay (N := 6) rfl ?_); refine Be zr (N := 6) zr (cs := #[.slice none 0 0]) (t := 26) zg ?_; intro gb102 hg w71 hbox hb; have n_ := y7 (zb BK101.out hb) (Ab (zB) hb) (hbox) ((zS hg : w.heap.size ≤ gb102)) ((zS hg : w.heap.size ≤ gb102)) ((zL hg BK101.out : gb101 ≠ gb102)) ((zM hg BK101.out : gb102 ≠ gb101)); clear BK101 HB; obtain ⟨BK101, HB, BK102, GW102, GE102, NB101_102, NB102_101⟩ := n_; clear hb hbox hg; have hnb72 := NB101_102.out; have hnc72 := NB102_101.out; obtain ⟨hcz73_0, hfz73_0⟩ := zw BK101.out) | (refine gK 35 ?_; refine gL 11 Tryz.func35 #[.agg #[.slice A0_0 l0_0.length c0_0]] ?_; (with_reducible refine (Cb.calls k _ _ l0_0 false _ ?side1 HC0_0.out A4.out).mono ?_); (case side1 => exact zC (Kd.Bh HR0_0.out HB.out)); rintro e w74 ⟨rfl, hb⟩; refine ⟨_, rfl, ?_⟩; have n_ := y3 (zb BK101.out hb) (zb BK102.out hb) (Ab (zB) hb); clear BK101 BK102 HB; obtain ⟨BK101, BK102, HB⟩ := n_; (try clear hb); obtain ⟨hcz75_0, hfz75_0⟩ := zw BK102.out))
  refine bodyPost_ret (Fw rfl _ _ gb102 26 #[.slice none 0 0] (0, 0) _ rfl (by (with_reducible repeat (first | refine Am ?_ _ | refine Ag ?_ | refine Ak ?_ _)); refine Cl (cs := #[.slice none 0 0]) ?_ 0 _ rfl; (with_reducible repeat (first | refine Am ?_ _ | refine Ag ?_ | refine Ak ?_ _)); exact BK102.out) Tryz.underlying26 rfl zk) rfl ?_
  exact ⟨_, zE, zN, zB⟩
 subst c5
 rw [if_pos rfl] at H
 have HC6 := Aa.mk H
 clear H
 go_enter Tryz.func7, Tryz.ntmps7
 go_upto_region 3 with (first | ((with_reducible refine Ay (N := 3) rfl ?_); refine Be zr (N := 3) zr (cs := #[.slice A0_0 l0_0.length c0_0]) (t := 26) zg ?_; intro gb101 hg w7 hbox hb; have n_ := y4 (Ab (zB) hb) (hbox) ((zS hg : w.heap.size ≤ gb101)) ((zS hg : w.heap.size ≤ gb101)); clear HB; obtain ⟨HB, BK101, GW101, GE101⟩ := n_; clear hb hbox hg) | ((with_reducible refine Ay (N := 6) rfl ?_); refine Be zr (N := 6) zr (cs := #[.slice none 0 0]) (t := 26) zg ?_; intro gb102 hg w8 hbox hb; have n_ := y7 (zb BK101.out hb) (Ab (zB) hb) (hbox) ((zS hg : w.heap.size ≤ gb102)) ((zS hg : w.heap.size ≤ gb102)) ((zL hg BK101.out : gb101 ≠ gb102)) ((zM hg BK101.out : gb102 ≠ gb101)); clear BK101 HB; obtain ⟨BK101, HB, BK102, GW102, GE102, NB101_102, NB102_101⟩ := n_; clear hb hbox hg; have hnb9 := NB101_102.out; have hnc9 := NB102_101.out; obtain ⟨hcz10_0, hfz10_0⟩ := zw BK101.out) | (refine gK 35 ?_; refine gL 11 Tryz.func35 #[.agg #[.slice A0_0 l0_0.length c0_0]] ?_; (with_reducible refine (Cb.calls k _ _ l0_0 true _ ?side1 HC0_0.out A4.out).mono ?_); (case side1 => exact zC (Kd.Bh HR0_0.out HB.out)); rintro e w11 ⟨rfl, hb⟩; refine ⟨_, rfl, ?_⟩; have n_ := y3 (zb BK101.out hb) (zb BK102.out hb) (Ab (zB) hb); clear BK101 BK102 HB; obtain ⟨BK101, BK102, HB⟩ := n_; (try clear hb)))
 (try simp only [Act.put, List.setIfInBounds_toArray, List.set_cons_zero, List.set_cons_succ])
 go_cut [14] (fun v14 wc => ∃ (kq : Nat) (x14_5 : Bool), v14 = .bool x14_5 ∧ Aa (Bp.j0 kq a1 a2 x14_5 l0_0 = some (r1, r2)) ∧ Aa (kq ≤ k) ∧ Aa (wc.heap[gb101]? = some (.cells #[(.slice A0_0 l0_0.length c0_0)] 26 (0, 0))) ∧ Aa (wc.heap[gb102]? = some (.cells #[(.slice none 0 0)] 26 (0, 0))) ∧ Aa (Below w.heap.size w wc))
 case first =>
  have H := HC6.out
  clear HC6
  obtain ⟨t104, A12, H⟩ := zO H
  try dsimp only at H
  obtain ⟨t105, A13, H⟩ := zO H
  try dsimp only at H
  by_cases c14 : t105 = true
  case neg =>
   replace c14 := Bool.eq_false_iff.mpr c14
   subst c14
   rw [if_neg zf] at H
   have H' := Aa.mk H
   clear H
   have hnb22 := NB101_102.out
   have hnc22 := NB102_101.out
   obtain ⟨hcz23_0, hfz23_0⟩ := zw BK101.out
   go_wp2_with (first | (refine gK 28 ?_; refine gL 17 Tryz.func28 #[.agg #[.slice A0_0 l0_0.length c0_0]] ?_; (with_reducible refine (Dt.calls _ _ l0_0 t104 _ ?side1 HC0_0.out A12.out).mono ?_); (case side1 => exact zC (Kd.Bh HR0_0.out HB.out)); rintro e w24 ⟨rfl, hb⟩; refine ⟨_, rfl, ?_⟩; have n_ := y3 (zb BK101.out hb) (zb BK102.out hb) (Ab (zB) hb); clear BK101 BK102 HB; obtain ⟨BK101, BK102, HB⟩ := n_; (try clear hb)) | (refine gK 36 ?_; refine gL 19 Tryz.func36 #[.int .i64 a1, .int .i64 0, .int .i64 (wrap64 (t104 - 1))] ?_; (with_reducible refine (Ej.calls a1 0 (wrap64 (t104 - 1)) false _ A13.out).mono ?_); rintro e w' ⟨rfl, ⟨nd, rfl⟩⟩; refine ⟨_, rfl, ?_⟩))
   go_meet
   case rel => exact ⟨_, (true), zF, H', ⟨by first | omega | exact Nat.le_refl _⟩, ⟨zG BK101.out⟩, ⟨zG BK102.out⟩, ⟨zB⟩⟩
  subst c14
  rw [if_pos rfl] at H
  obtain ⟨t106, A15, H⟩ := zO H
  try dsimp only at H
  obtain ⟨t107, A16, H⟩ := zO H
  try dsimp only at H
  have H' := Aa.mk H
  clear H
  have hnb17 := NB101_102.out
  have hnc17 := NB102_101.out
  obtain ⟨hcz18_0, hfz18_0⟩ := zw BK101.out
  go_wp2_with (first | (refine gK 28 ?_; refine gL 17 Tryz.func28 #[.agg #[.slice A0_0 l0_0.length c0_0]] ?_; (with_reducible refine (Dt.calls _ _ l0_0 t104 _ ?side1 HC0_0.out A12.out).mono ?_); (case side1 => exact zC (Kd.Bh HR0_0.out HB.out)); rintro e w19 ⟨rfl, hb⟩; refine ⟨_, rfl, ?_⟩; have n_ := y3 (zb BK101.out hb) (zb BK102.out hb) (Ab (zB) hb); clear BK101 BK102 HB; obtain ⟨BK101, BK102, HB⟩ := n_; (try clear hb)) | (refine gK 36 ?_; refine gL 19 Tryz.func36 #[.int .i64 a1, .int .i64 0, .int .i64 (wrap64 (t104 - 1))] ?_; (with_reducible refine (Ej.calls a1 0 (wrap64 (t104 - 1)) true _ A13.out).mono ?_); rintro e w' ⟨rfl, ⟨nd, rfl⟩⟩; refine ⟨_, rfl, ?_⟩; obtain ⟨hcz20_0, hfz20_0⟩ := zw BK101.out) | (go_at_call 28; (with_reducible refine (Dt.calls _ _ l0_0 t106 _ ?side1 HC0_0.out A15.out).mono ?_); (case side1 => exact zC (Kd.Bh HR0_0.out (zB))); rintro e w21 ⟨rfl, hb⟩; have n_ := y3 (zb BK101.out hb) (zb BK102.out hb) (Ab (zB) hb); clear BK101 BK102 HB; obtain ⟨BK101, BK102, HB⟩ := n_; (try clear hb)) | (go_at_call 36; (with_reducible refine (Ej.calls a2 (wrap64 (a1 + 1)) (wrap64 (t106 - 1)) t107 _ A16.out).mono ?_); rintro e w' ⟨rfl, ⟨nd, rfl⟩⟩))
  go_meet
  case rel => exact ⟨_, (!t107), zF, H', ⟨by first | omega | exact Nat.le_refl _⟩, ⟨zG BK101.out⟩, ⟨zG BK102.out⟩, ⟨zB⟩⟩
 clear HC6
 try clear c5
 try clear hcz10_0
 try clear hfz10_0
 obtain ⟨kq, x14_5, rfl, HA, HJ5, BK101, BK102, HB⟩ := hcut
 cases kq with
 | zero => exact absurd HA.out (by simp [Bp.j0])
 | succ kj5 =>
  have H := HA.out
  clear HA
  simp only [Bp.j0] at H
  by_cases c25 : x14_5 = true
  ·
   subst c25
   rw [if_pos rfl] at H
   simp only [Option.some.injEq, Prod.mk.injEq] at H
   obtain ⟨rfl, rfl⟩ := H
   have hnb26 := NB102_101.out
   have hnc26 := NB101_102.out
   obtain ⟨hcz27_0, hfz27_0⟩ := zw BK102.out
   go_wp2
   refine bodyPost_ret (Fw rfl _ _ gb102 26 #[.slice none 0 0] (0, 0) _ rfl (by (with_reducible repeat (first | refine Am ?_ _ | refine Ag ?_ | refine Ak ?_ _)); refine Cl (cs := #[.slice none 0 0]) ?_ 0 _ rfl; (with_reducible repeat (first | refine Am ?_ _ | refine Ag ?_ | refine Ak ?_ _)); exact BK102.out) Tryz.underlying26 rfl zk) rfl ?_
   exact ⟨_, zE, zN, zB⟩
  replace c25 := Bool.eq_false_iff.mpr c25
  subst c25
  rw [if_neg zf] at H
  by_cases c28 : 0 ≤ a1
  case neg => rw [if_neg c28] at H; exact absurd H (by simp)
  rw [if_pos c28] at H
  have c28b0 := decide_eq_true c28
  clear c28
  by_cases c29 : a1 < (l0_0.length : Int)
  case neg => rw [if_neg c29] at H; exact absurd H (by simp)
  rw [if_pos c29] at H
  have c29b0 := decide_eq_true c29
  clear c29
  by_cases c30 : (rd l0_0 a1) = 1
  ·
   rw [if_pos c30] at H
   have c30b0 : ((rd l0_0 a1) == 1) = true := beq_iff_eq.mpr c30
   have c30b1 : ((rd l0_0 a1) != 1) = false := bne_eq_false_iff_eq.mpr c30
   clear c30
   simp only [Option.some.injEq, Prod.mk.injEq] at H
   obtain ⟨rfl, rfl⟩ := H
   have hnb31 := NB101_102.out
   have hnc31 := NB102_101.out
   obtain ⟨hcz32_0, hfz32_0⟩ := zw BK101.out
   have p108 : 0 ≤ (a1 : Int) := zD
   have q108 : a1 < (l0_0.length : Int) := zD
   obtain ⟨ad108, e108, hx108_0⟩ := Kd.Cv HR0_0.out a1 p108 q108
   cases e108
   replace hx108_0 := (HB.out.cell (World.block_lt_of_cell? w _ hx108_0)).trans hx108_0
   replace p108 := eq_true p108
   replace q108 := eq_true q108
   obtain ⟨hcz33_0, hfz33_0⟩ := zw BK102.out
   go_wp2
   refine bodyPost_ret (Fw rfl _ _ gb102 26 #[.slice none 0 0] (0, 0) _ rfl (by (with_reducible repeat (first | refine Am ?_ _ | refine Ag ?_ | refine Ak ?_ _)); refine Cl (cs := #[.slice none 0 0]) ?_ 0 _ rfl; (with_reducible repeat (first | refine Am ?_ _ | refine Ag ?_ | refine Ak ?_ _)); exact BK102.out) Tryz.underlying26 rfl zk) rfl ?_
   exact ⟨_, zE, zN, zB⟩
  rw [if_neg c30] at H
  have c30b0 : ((rd l0_0 a1) == 1) = false := beq_eq_false_iff_ne.mpr c30
  have c30b1 : ((rd l0_0 a1) != 1) = true := bne_iff_ne.mpr c30
  by_cases c34 : 0 ≤ a2
  case neg => rw [if_neg c34] at H; exact absurd H (by simp)
  rw [if_pos c34] at H
  have c34b0 := decide_eq_true c34
  clear c34
  by_cases c35 : a2 < (l0_0.length : Int)
  case neg => rw [if_neg c35] at H; exact absurd H (by simp)
  rw [if_pos c35] at H
  have c35b0 := decide_eq_true c35
  clear c35
  by_cases c36 : (rd l0_0 a2) = 1
  ·
   rw [if_pos c36] at H
   have c36b0 : ((rd l0_0 a2) == 1) = true := beq_iff_eq.mpr c36
   have c36b1 : ((rd l0_0 a2) != 1) = false := bne_eq_false_iff_eq.mpr c36
   clear c36
   simp only [Option.some.injEq, Prod.mk.injEq] at H
   obtain ⟨rfl, rfl⟩ := H
   have hnb37 := NB101_102.out
   have hnc37 := NB102_101.out
   obtain ⟨hcz38_0, hfz38_0⟩ := zw BK101.out
   have p108 : 0 ≤ (a1 : Int) := zD
   have q108 : a1 < (l0_0.length : Int) := zD
   obtain ⟨ad108, e108, hx108_0⟩ := Kd.Cv HR0_0.out a1 p108 q108
   cases e108
   replace hx108_0 := (HB.out.cell (World.block_lt_of_cell? w _ hx108_0)).trans hx108_0
   replace p108 := eq_true p108
   replace q108 := eq_true q108
   have p109 : 0 ≤ (a2 : Int) := zD
   have q109 : a2 < (l0_0.length : Int) := zD
   obtain ⟨ad109, e109, hx109_0⟩ := Kd.Cv HR0_0.out a2 p109 q109
   obtain rfl : ad108 = ad109 := (by injection e109)
   replace hx109_0 := (HB.out.cell (World.block_lt_of_cell? w _ hx109_0)).trans hx109_0
   replace p109 := eq_true p109
   replace q109 := eq_true q109
   obtain ⟨hcz39_0, hfz39_0⟩ := zw BK102.out
   go_wp2
   refine bodyPost_ret (Fw rfl _ _ gb102 26 #[.slice none 0 0] (0, 0) _ rfl (by (with_reducible repeat (first | refine Am ?_ _ | refine Ag ?_ | refine Ak ?_ _)); refine Cl (cs := #[.slice none 0 0]) ?_ 0 _ rfl; (with_reducible repeat (first | refine Am ?_ _ | refine Ag ?_ | refine Ak ?_ _)); exact BK102.out) Tryz.underlying26 rfl zk) rfl ?_
   exact ⟨_, zE, zN, zB⟩
  rw [if_neg c36] at H
  have c36b0 : ((rd l0_0 a2) == 1) = false := beq_eq_false_iff_ne.mpr c36
  have c36b1 : ((rd l0_0 a2) != 1) = true := bne_iff_ne.mpr c36
  have c40b0 := eq_true (zD : 0 ≤ a2)
  by_cases c41 : a2 ≤ (l0_0.length : Int)
  case neg => rw [if_neg c41] at H; exact absurd H (by simp)
  rw [if_pos c41] at H
  have c41b0 := eq_true c41
  have c41b1 := decide_eq_true c41
  clear c41
  obtain ⟨t111, A42, H⟩ := zO H
  try dsimp only at H
  obtain ⟨ji43, hji43⟩ : ∃ j_ : Int, (wrap64 (a2 + 1)) = j_ := ⟨_, rfl⟩
  replace H : (if 0 ≤ (ji43) then (if (ji43) ≤ (l0_0.length : Int) then (if t111.length + (l0_0.drop ((ji43) : Int).toNat).length < 17592186044416 then ((some (t111 ++ (l0_0.drop ((ji43) : Int).toNat) : List Int)).bind fun y115 => (if a1 < (y115.length : Int) then (some ((y115.set (a1 : Int).toNat (wrap64 (Int.tdiv (mn (rd l0_0 a1) (rd l0_0 a2)) 2))), 0)) else (none))) else (none)) else (none)) else (none)) = some (r1, r2) := by first | (rw [hji43] at H; exact H) | (simp only [hji43] at H ⊢; exact H)
  (try rw [hji43] at A42)
  have hji43w : (IntKind.i64.wrap (a2 + 1)) = ji43 := (Ec _).trans hji43
  by_cases c44 : 0 ≤ (ji43)
  case neg => rw [if_neg c44] at H; exact absurd H (by simp)
  rw [if_pos c44] at H
  have c44b0 := eq_true c44
  have c44b1 := decide_eq_true c44
  clear c44
  by_cases c45 : (ji43) ≤ (l0_0.length : Int)
  case neg => rw [if_neg c45] at H; exact absurd H (by simp)
  rw [if_pos c45] at H
  have c45b0 := eq_true c45
  have c45b1 := decide_eq_true c45
  clear c45
  by_cases c46 : t111.length + (l0_0.drop ((ji43) : Int).toNat).length < 17592186044416
  case neg => rw [if_neg c46] at H; exact absurd H (by simp)
  rw [if_pos c46] at H
  have LMc46 := Aa.mk c46
  clear c46
  obtain ⟨y115, hy115, H⟩ := zY H
  try dsimp only at H
  have Ny115 := Aa.mk hy115
  clear hy115
  obtain ⟨ji47, hji47⟩ : ∃ j_ : Int, (mn (rd l0_0 a1) (rd l0_0 a2)) = j_ := ⟨_, rfl⟩
  replace H : (if a1 < (y115.length : Int) then (some ((y115.set (a1 : Int).toNat (wrap64 (Int.tdiv (ji47) 2))), 0)) else (none)) = some (r1, r2) := by first | (rw [hji47] at H; exact H) | (simp only [hji47] at H ⊢; exact H)
  (try rw [hji47] at A42)
  have hji47_ : (if (rd l0_0 a2) < (rd l0_0 a1) then (rd l0_0 a2) else (rd l0_0 a1)) = ji47 := hji47
  by_cases c48 : a1 < (y115.length : Int)
  case neg => rw [if_neg c48] at H; exact absurd H (by simp)
  rw [if_pos c48] at H
  have c48b0 := decide_eq_true c48
  clear c48
  obtain ⟨y121, hy121⟩ : ∃ y_ : List Int, y_ = (y115.set (a1 : Int).toNat (wrap64 (Int.tdiv (ji47) 2))) := ⟨_, rfl⟩
  replace H : (some (y121, 0)) = some (r1, r2) := zH hy121
  have Ny121 := Aa.mk hy121
  clear hy121
  simp only [Option.some.injEq, Prod.mk.injEq] at H
  obtain ⟨rfl, rfl⟩ := H
  have hnb50 := NB101_102.out
  have hnc50 := NB102_101.out
  obtain ⟨hcz51_0, hfz51_0⟩ := zw BK101.out
  have p108 : 0 ≤ (a1 : Int) := zD
  have q108 : a1 < (l0_0.length : Int) := zD
  obtain ⟨ad108, e108, hx108_0⟩ := Kd.Cv HR0_0.out a1 p108 q108
  cases e108
  replace hx108_0 := (HB.out.cell (World.block_lt_of_cell? w _ hx108_0)).trans hx108_0
  replace p108 := eq_true p108
  replace q108 := eq_true q108
  have p109 : 0 ≤ (a2 : Int) := zD
  have q109 : a2 < (l0_0.length : Int) := zD
  obtain ⟨ad109, e109, hx109_0⟩ := Kd.Cv HR0_0.out a2 p109 q109
  obtain rfl : ad108 = ad109 := (by injection e109)
  replace hx109_0 := (HB.out.cell (World.block_lt_of_cell? w _ hx109_0)).trans hx109_0
  replace p109 := eq_true p109
  replace q109 := eq_true q109
  try go_wp2
  have n_ := y3 (Ag BK101.out) (Ag BK102.out) (Bz HB.out)
  clear BK101 BK102 HB
  obtain ⟨BK101, BK102, HB⟩ := n_
  obtain ⟨i053, hi053, _, hsz53, _⟩ := info_parts Gb
  obtain ⟨hcut53, hA53, hC53⟩ := Vo (P := Tryz.prog) (Value.int .i64) 0 24 2 .i64 Tryz.underlying24 hi053 hsz53 (some ad108) c0_0 l0_0 a2 (zD) (zD) HC0_0.out
  have HR110 := Aa.mk (Kd.Pk (h1 := fun _ => rfl) (hA53 _ (Kd.Pv HR0_0.out)))
  have HC110 := Aa.mk hC53
  clear hA53 hC53 hi053 hsz53
  obtain ⟨i054, hi054, _, hsz54, _⟩ := info_parts Gb
  obtain ⟨A54, hcut54, hA54, hC54⟩ := Vt (P := Tryz.prog) (Value.int .i64) 0 24 2 .i64 Tryz.underlying24 hi054 hsz54 (some ad108) c0_0 l0_0 (ji43) (zD) (zD) HC0_0.out
  have HR114 := Aa.mk (Kd.Pk (h1 := fun _ => rfl) (hA54 _ (Kd.Pv HR0_0.out)))
  have HC114 := Aa.mk hC54
  clear hA54 hC54 hi054 hsz54
  refine Fg (n := 14) (S := fun w' => w'.cell? ⟨gb101, 0, none⟩ = some (.slice (some ad108) l0_0.length c0_0)) (ds := []) #[false,false,false,false,false,false,false,false,false,false,false,false,false,false] zk rfl rfl ((Au BK101.out 0).trans rfl) (fun hHeld => ?_); refine Eh Bp.tab7 Bp.bits7 (fun HT_ HW_ => ?_)
  generalize wc.drew = w52 at BK101 BK102 HB HR110 HR114 hHeld ⊢
  refine pT 0 48 HT_ ?_
  refine pT 2 50 HT_ ?_
  refine pT 5 53 HT_ ?_
  refine pT 7 55 HT_ ?_
  refine pT 8 56 HT_ ?_
  refine tT 1 49 HT_ HW_ hHeld ?_
  refine pT 3 51 HT_ ?_
  refine tT 6 54 HT_ HW_ hHeld ?_
  refine pT 9 57 HT_ ?_
  refine q3f (σ := Value × Value × Nat) 1 #[true,true,true,true,true,true,true,true,true,true,true,true,true,false] (fun s_ => [(52, s_.1), (58, s_.2.1), (8, .pointer (some ⟨s_.2.2, 0, none⟩)), (59, .agg #[s_.2.1])]) (fun s_ w' => (w'.cell? ⟨gb101, 0, none⟩ = some (.slice (some ad108) l0_0.length c0_0)) ∧ (Kd.R (Kd.int .i64) 2 w' w.heap.size (fun _ => True) s_.2.1 y115) ∧ (w'.heap[gb101]? = some (.cells #[.slice (some ad108) l0_0.length c0_0] 26 (0, 0))) ∧ (w'.heap[gb102]? = some (.cells #[.slice none 0 0] 26 (0, 0))) ∧ (w'.heap[s_.2.2]? = some (.cells #[.slice none 0 0] 26 (0, 0))) ∧ (w.heap.size ≤ s_.2.2) ∧ (w.heap.size ≤ s_.2.2) ∧ (gb101 ≠ s_.2.2) ∧ (s_.2.2 ≠ gb101) ∧ (gb102 ≠ s_.2.2) ∧ (s_.2.2 ≠ gb102) ∧ (Below w.heap.size w w')) ?_ ?_
  rotate_left
  ·
   intro hCont
   refine q2U (i := 4) (j := 12) (Ni := some 52) (Nj := some 8) #[true,true,true,true,true,true,true,true,true,true,false,false,false,false] #[true,true,true,true,false,true,true,true,true,true,false,false,true,false] rfl rfl rfl rfl (Ww HT_.out zk) (by decide) (by decide) (fun K hK => ?_) (fun K hK => ?_)
   ·
    skip
    refine Ff Tryz.func37 zk rfl #[.slice (some ad108) (l0_0.take (a2 : Int).toNat).length c0_0] (by rfl) rfl rfl (by (try simp only [List.map_toArray, List.map_cons, List.map_nil]); first | done | (rw [show (l0_0.take (a2 : Int).toNat).length = a2.toNat from (by rw [List.length_take]; have h_ : (a2 : Int) ≤ (l0_0.length : Int) := zD; omega)] <;> rfl) | rfl | (simp only [List.length_drop, List.length_take]; rfl)) ?_
    with_reducible refine (Fc.calls _ _ (l0_0.take (a2 : Int).toNat) t111 _ ?side1 ?side2 A42.out).mono ?_
    (case side1 => exact zC (Kd.Bh HR110.out HB.out))
    (case side2 => exact HC110.out)
    rintro e w55 ⟨v112, rfl, ho0, hb⟩
    refine ⟨_, rfl, ?_⟩
    have n_ := y4 (Kd.Bk ho0 (An (zB))) (zb BK101.out hb) (zb BK102.out hb) (Ab (zB) hb)
    clear BK101 BK102 HB
    obtain ⟨HO113, BK101, BK102, HB⟩ := n_
    try clear ho0 hb
    refine hK.out _ _ ((Au BK101.out 0).trans rfl) (fun hHeld => ?_)
    clear hK K
    refine nT 52 ?_
    refine q2U (i := 10) (j := 12) (Ni := some 58) (Nj := some 8) #[true,true,true,true,true,true,true,true,true,true,true,false,false,false] #[true,true,true,true,true,true,true,true,true,true,false,false,true,false] rfl rfl rfl rfl (Ww HT_.out zk) (by decide) (by decide) (fun K hK => ?_) (fun K hK => ?_)
    ·
     skip
     refine Kd.Fq (Kd.int .i64) (w0 := w) w.heap.size (by rfl) (.tmp 52) (.tmp 57) 24 2 (.int .i64 0) 8 rfl Tryz.underlying24 Gb rfl (by decide) (by omega) v112 t111 (l0_0.drop ((ji43) : Int).toNat) _ _ _ (fun _ => True) (fun _ => False) rfl rfl ?aO ?aR (fun _ _ h => h) (fun _ h => h.elim) ?aF ?aB ?aS ?aL ?_
     (case aR => first | (rw [← show (l0_0.drop ((ji43) : Int).toNat).length = (l0_0.length - (ji43).toNat) from List.length_drop]; repeat (first | exact (Kd.Bh HR114.out HB.out) | (with_reducible refine Kd.Fb ?_ _) | (with_reducible refine Kd.Fa ?_ _) | (with_reducible refine Kd.Fv ?_))) | (repeat (first | exact (Kd.Bh HR114.out HB.out) | (with_reducible refine Kd.Fb ?_ _) | (with_reducible refine Kd.Fa ?_ _) | (with_reducible refine Kd.Fv ?_))))
     (case aB => exact (zB))
     (case aF => exact (fun _ _ => trivial))
     (case aO => exact (zR HO113.out))
     (case aS => exact (An (zB)))
     (case aL => have := LMc46.out; have hlx_ := (show (l0_0.drop ((ji43) : Int).toNat).length = (l0_0.length - (ji43).toNat) from List.length_drop); omega)
     intro v116 w56 ho hb hg hat
     rw [← Ny115.out] at ho
     have n_ := y4 (Cm (g := gb101) (o := .cells #[.slice (some ad108) l0_0.length c0_0] 26 (0, 0)) (zG BK101.out) hg (Kd.Em HO113.out BK101.out (by decide))) (Cm (g := gb102) (o := .cells #[.slice none 0 0] 26 (0, 0)) (zG BK102.out) hg (Kd.Em HO113.out BK102.out (by decide))) (hb) (ho)
     clear BK101 BK102 HB HO113
     obtain ⟨BK101, BK102, HB, HO117⟩ := n_
     clear ho hb hg hat
     obtain ⟨Ao57, co57, eo57⟩ := Kd.Bb HO117.out
     (first | subst eo57 | (injection eo57 with f1_ f2_ f3_; have f4_ := f1_.symm; have f5_ := f3_.symm; clear f1_ f2_ f3_; subst f4_; subst f5_))
     refine hK.out _ _ ((Au BK101.out 0).trans rfl) (fun hHeld => ?_)
     clear hK K
     refine nT 58 ?_
     refine pT 11 59 HT_ ?_
     refine Fk (i := 12) (N := some 8) #[true,true,true,true,true,true,true,true,true,true,true,true,true,false] rfl rfl (Db HT_.out zk) (by decide) (fun K hK => ?_)
     refine Uy ?hg (N := 8) ?hd (cs := #[.slice none 0 0]) (t := 26) ?hr ?_; (case hd => rfl); (case hg => rfl); (case hr => first | (go_simp; done) | (go_simp; rfl))
     intro gb118 hg w58 hbox hb
     have n_ := y11 (Kd.Ap (zR HO117.out) hb) (zb BK101.out hb) (zb BK102.out hb) (Ab (zB) hb) (hbox) ((zS hg : w.heap.size ≤ gb118)) ((zS hg : w.heap.size ≤ gb118)) ((zL hg BK101.out : gb101 ≠ gb118)) ((zM hg BK101.out : gb118 ≠ gb101)) ((zL hg BK102.out : gb102 ≠ gb118)) ((zM hg BK102.out : gb118 ≠ gb102))
     clear HO117 BK101 BK102 HB
     obtain ⟨HO117, BK101, BK102, HB, BK118, GW118, GE118, NB101_118, NB118_101, NB102_118, NB118_102⟩ := n_
     clear hb hbox hg
     refine hK.out _ _ ((Au BK101.out 0).trans rfl) (fun hHeld => ?_)
     clear hK K
     refine nT 8 ?_
     exact Re (by simp only [Nn, Act.put, List.setIfInBounds_toArray, List.set_cons_zero, List.set_cons_succ]) (hCont (v112, .slice Ao57 y115.length co57, gb118) _ ⟨hHeld, (zR HO117.out), (zG BK101.out), (zG BK102.out), (zG BK118.out), GW118.out, GE118.out, NB101_118.out, NB118_101.out, NB102_118.out, NB118_102.out, (zB)⟩)
    skip
    refine Uy ?hg (N := 8) ?hd (cs := #[.slice none 0 0]) (t := 26) ?hr ?_; (case hd => rfl); (case hg => rfl); (case hr => first | (go_simp; done) | (go_simp; rfl))
    intro gb118 hg w56 hbox hb
    have n_ := y11 (Kd.Ap (zR HO113.out) hb) (zb BK101.out hb) (zb BK102.out hb) (Ab (zB) hb) (hbox) ((zS hg : w.heap.size ≤ gb118)) ((zS hg : w.heap.size ≤ gb118)) ((zL hg BK101.out : gb101 ≠ gb118)) ((zM hg BK101.out : gb118 ≠ gb101)) ((zL hg BK102.out : gb102 ≠ gb118)) ((zM hg BK102.out : gb118 ≠ gb102))
    clear HO113 BK101 BK102 HB
    obtain ⟨HO113, BK101, BK102, HB, BK118, GW118, GE118, NB101_118, NB118_101, NB102_118, NB118_102⟩ := n_
    clear hb hbox hg
    refine hK.out _ _ ((Au BK101.out 0).trans rfl) (fun hHeld => ?_)
    clear hK K
    refine nT 8 ?_
    refine Fk (i := 10) (N := some 58) #[true,true,true,true,true,true,true,true,true,true,true,false,true,false] rfl rfl (Db HT_.out zk) (by decide) (fun K hK => ?_)
    refine Kd.Fq (Kd.int .i64) (w0 := w) w.heap.size (by rfl) (.tmp 52) (.tmp 57) 24 2 (.int .i64 0) 8 rfl Tryz.underlying24 Gb rfl (by decide) (by omega) v112 t111 (l0_0.drop ((ji43) : Int).toNat) _ _ _ (fun _ => True) (fun _ => False) rfl rfl ?aO ?aR (fun _ _ h => h) (fun _ h => h.elim) ?aF ?aB ?aS ?aL ?_
    (case aR => first | (rw [← show (l0_0.drop ((ji43) : Int).toNat).length = (l0_0.length - (ji43).toNat) from List.length_drop]; repeat (first | exact (Kd.Bh HR114.out HB.out) | (with_reducible refine Kd.Fb ?_ _) | (with_reducible refine Kd.Fa ?_ _) | (with_reducible refine Kd.Fv ?_))) | (repeat (first | exact (Kd.Bh HR114.out HB.out) | (with_reducible refine Kd.Fb ?_ _) | (with_reducible refine Kd.Fa ?_ _) | (with_reducible refine Kd.Fv ?_))))
    (case aB => exact (zB))
    (case aF => exact (fun _ _ => trivial))
    (case aO => exact (zR HO113.out))
    (case aS => exact (An (zB)))
    (case aL => have := LMc46.out; have hlx_ := (show (l0_0.drop ((ji43) : Int).toNat).length = (l0_0.length - (ji43).toNat) from List.length_drop); omega)
    intro v116 w57 ho hb hg hat
    rw [← Ny115.out] at ho
    have n_ := y5 (Cm (g := gb101) (o := .cells #[.slice (some ad108) l0_0.length c0_0] 26 (0, 0)) (zG BK101.out) hg (Kd.Em HO113.out BK101.out (by decide))) (Cm (g := gb102) (o := .cells #[.slice none 0 0] 26 (0, 0)) (zG BK102.out) hg (Kd.Em HO113.out BK102.out (by decide))) (Cm (g := gb118) (o := .cells #[.slice none 0 0] 26 (0, 0)) (zG BK118.out) hg (Kd.Em HO113.out BK118.out (by decide))) (hb) (ho)
    clear BK101 BK102 BK118 HB HO113
    obtain ⟨BK101, BK102, BK118, HB, HO117⟩ := n_
    clear ho hb hg hat
    obtain ⟨Ao58, co58, eo58⟩ := Kd.Bb HO117.out
    (first | subst eo58 | (injection eo58 with f1_ f2_ f3_; have f4_ := f1_.symm; have f5_ := f3_.symm; clear f1_ f2_ f3_; subst f4_; subst f5_))
    refine hK.out _ _ ((Au BK101.out 0).trans rfl) (fun hHeld => ?_)
    clear hK K
    refine nT 58 ?_
    refine pT 11 59 HT_ ?_
    exact Re (by simp only [Nn, Act.put, List.setIfInBounds_toArray, List.set_cons_zero, List.set_cons_succ]) (hCont (v112, .slice Ao58 y115.length co58, gb118) _ ⟨hHeld, (zR HO117.out), (zG BK101.out), (zG BK102.out), (zG BK118.out), GW118.out, GE118.out, NB101_118.out, NB118_101.out, NB102_118.out, NB118_102.out, (zB)⟩)
   skip
   refine Uy ?hg (N := 8) ?hd (cs := #[.slice none 0 0]) (t := 26) ?hr ?_; (case hd => rfl); (case hg => rfl); (case hr => first | (go_simp; done) | (go_simp; rfl))
   intro gb118 hg w55 hbox hb
   have n_ := y10 (zb BK101.out hb) (zb BK102.out hb) (Ab (zB) hb) (hbox) ((zS hg : w.heap.size ≤ gb118)) ((zS hg : w.heap.size ≤ gb118)) ((zL hg BK101.out : gb101 ≠ gb118)) ((zM hg BK101.out : gb118 ≠ gb101)) ((zL hg BK102.out : gb102 ≠ gb118)) ((zM hg BK102.out : gb118 ≠ gb102))
   clear BK101 BK102 HB
   obtain ⟨BK101, BK102, HB, BK118, GW118, GE118, NB101_118, NB118_101, NB102_118, NB118_102⟩ := n_
   clear hb hbox hg
   refine hK.out _ _ ((Au BK101.out 0).trans rfl) (fun hHeld => ?_)
   clear hK K
   refine nT 8 ?_
   refine Fk (i := 4) (N := some 52) #[true,true,true,true,true,true,true,true,true,true,false,false,true,false] rfl rfl (Db HT_.out zk) (by decide) (fun K hK => ?_)
   refine Ff Tryz.func37 zk rfl #[.slice (some ad108) (l0_0.take (a2 : Int).toNat).length c0_0] (by rfl) rfl rfl (by (try simp only [List.map_toArray, List.map_cons, List.map_nil]); first | done | (rw [show (l0_0.take (a2 : Int).toNat).length = a2.toNat from (by rw [List.length_take]; have h_ : (a2 : Int) ≤ (l0_0.length : Int) := zD; omega)] <;> rfl) | rfl | (simp only [List.length_drop, List.length_take]; rfl)) ?_
   with_reducible refine (Fc.calls _ _ (l0_0.take (a2 : Int).toNat) t111 _ ?side1 ?side2 A42.out).mono ?_
   (case side1 => exact zC (Kd.Bh HR110.out HB.out))
   (case side2 => exact HC110.out)
   rintro e w56 ⟨v112, rfl, ho0, hb⟩
   refine ⟨_, rfl, ?_⟩
   have n_ := y5 (Kd.Bk ho0 (An (zB))) (zb BK101.out hb) (zb BK102.out hb) (zb BK118.out hb) (Ab (zB) hb)
   clear BK101 BK102 BK118 HB
   obtain ⟨HO113, BK101, BK102, BK118, HB⟩ := n_
   try clear ho0 hb
   refine hK.out _ _ ((Au BK101.out 0).trans rfl) (fun hHeld => ?_)
   clear hK K
   refine nT 52 ?_
   refine Fk (i := 10) (N := some 58) #[true,true,true,true,true,true,true,true,true,true,true,false,true,false] rfl rfl (Db HT_.out zk) (by decide) (fun K hK => ?_)
   refine Kd.Fq (Kd.int .i64) (w0 := w) w.heap.size (by rfl) (.tmp 52) (.tmp 57) 24 2 (.int .i64 0) 8 rfl Tryz.underlying24 Gb rfl (by decide) (by omega) v112 t111 (l0_0.drop ((ji43) : Int).toNat) _ _ _ (fun _ => True) (fun _ => False) rfl rfl ?aO ?aR (fun _ _ h => h) (fun _ h => h.elim) ?aF ?aB ?aS ?aL ?_
   (case aR => first | (rw [← show (l0_0.drop ((ji43) : Int).toNat).length = (l0_0.length - (ji43).toNat) from List.length_drop]; repeat (first | exact (Kd.Bh HR114.out HB.out) | (with_reducible refine Kd.Fb ?_ _) | (with_reducible refine Kd.Fa ?_ _) | (with_reducible refine Kd.Fv ?_))) | (repeat (first | exact (Kd.Bh HR114.out HB.out) | (with_reducible refine Kd.Fb ?_ _) | (with_reducible refine Kd.Fa ?_ _) | (with_reducible refine Kd.Fv ?_))))
   (case aB => exact (zB))
   (case aF => exact (fun _ _ => trivial))
   (case aO => exact (zR HO113.out))
   (case aS => exact (An (zB)))
   (case aL => have := LMc46.out; have hlx_ := (show (l0_0.drop ((ji43) : Int).toNat).length = (l0_0.length - (ji43).toNat) from List.length_drop); omega)
   intro v116 w57 ho hb hg hat
   rw [← Ny115.out] at ho
   have n_ := y5 (Cm (g := gb101) (o := .cells #[.slice (some ad108) l0_0.length c0_0] 26 (0, 0)) (zG BK101.out) hg (Kd.Em HO113.out BK101.out (by decide))) (Cm (g := gb102) (o := .cells #[.slice none 0 0] 26 (0, 0)) (zG BK102.out) hg (Kd.Em HO113.out BK102.out (by decide))) (Cm (g := gb118) (o := .cells #[.slice none 0 0] 26 (0, 0)) (zG BK118.out) hg (Kd.Em HO113.out BK118.out (by decide))) (hb) (ho)
   clear BK101 BK102 BK118 HB HO113
   obtain ⟨BK101, BK102, BK118, HB, HO117⟩ := n_
   clear ho hb hg hat
   obtain ⟨Ao58, co58, eo58⟩ := Kd.Bb HO117.out
   (first | subst eo58 | (injection eo58 with f1_ f2_ f3_; have f4_ := f1_.symm; have f5_ := f3_.symm; clear f1_ f2_ f3_; subst f4_; subst f5_))
   refine hK.out _ _ ((Au BK101.out 0).trans rfl) (fun hHeld => ?_)
   clear hK K
   refine nT 58 ?_
   refine pT 11 59 HT_ ?_
   exact Re (by simp only [Nn, Act.put, List.setIfInBounds_toArray, List.set_cons_zero, List.set_cons_succ]) (hCont (v112, .slice Ao58 y115.length co58, gb118) _ ⟨hHeld, (zR HO117.out), (zG BK101.out), (zG BK102.out), (zG BK118.out), GW118.out, GE118.out, NB101_118.out, NB118_101.out, NB102_118.out, NB118_102.out, (zB)⟩)
  rintro ⟨v112, v116, gb118⟩ w59 ⟨hS_, h0_, h1_, h2_, h3_, h4_, h5_, h6_, h7_, h8_, h9_, h10_⟩
  have n0_ : Aa (Kd.R (Kd.int .i64) 2 w59 w.heap.size (fun _ => True) v116 y115) := ⟨h0_⟩
  have n1_ : Aa (w59.heap[gb101]? = some (.cells #[.slice (some ad108) l0_0.length c0_0] 26 (0, 0))) := ⟨h1_⟩
  have n2_ : Aa (w59.heap[gb102]? = some (.cells #[.slice none 0 0] 26 (0, 0))) := ⟨h2_⟩
  have n3_ : Aa (w59.heap[gb118]? = some (.cells #[.slice none 0 0] 26 (0, 0))) := ⟨h3_⟩
  have n4_ : Aa (w.heap.size ≤ gb118) := ⟨h4_⟩
  have n5_ : Aa (w.heap.size ≤ gb118) := ⟨h5_⟩
  have n6_ : Aa (gb101 ≠ gb118) := ⟨h6_⟩
  have n7_ : Aa (gb118 ≠ gb101) := ⟨h7_⟩
  have n8_ : Aa (gb102 ≠ gb118) := ⟨h8_⟩
  have n9_ : Aa (gb118 ≠ gb102) := ⟨h9_⟩
  have n10_ : Aa (Below w.heap.size w w59) := ⟨h10_⟩
  clear BK101
  clear BK102
  clear HB
  clear h0_ h1_ h2_ h3_ h4_ h5_ h6_ h7_ h8_ h9_ h10_
  have HO117 := n0_
  have BK101 := n1_
  have BK102 := n2_
  have BK118 := n3_
  have GW118 := n4_
  have GE118 := n5_
  have NB101_118 := n6_
  have NB118_101 := n7_
  have NB102_118 := n8_
  have NB118_102 := n9_
  have HB := n10_
  clear n0_ n1_ n2_ n3_ n4_ n5_ n6_ n7_ n8_ n9_ n10_
  have hHeld : w59.cell? ⟨gb101, 0, none⟩ = some (.slice (some ad108) l0_0.length c0_0) := hS_
  obtain ⟨Ao60, co60, eo60⟩ := Kd.Bb HO117.out
  (first | subst eo60 | (injection eo60 with f1_ f2_ f3_; have f4_ := f1_.symm; have f5_ := f3_.symm; clear f1_ f2_ f3_; subst f4_; subst f5_))
  refine Re (a' := ?_) ?_ ?_
  rotate_left
  ·
   simp only [Nn, Act.put, List.setIfInBounds_toArray, List.set_cons_zero, List.set_cons_succ]
   rfl
  refine Fk (i := 13) (N := none) #[true,true,true,true,true,true,true,true,true,true,true,true,true,true] rfl rfl (Db HT_.out zk) (by decide) (fun K hK => ?_)
  have hs61 : w59.cell? ⟨gb118, 0, none⟩ = some (.slice none 0 0) := (Au BK118.out 0).trans rfl
  have hfs61 := Fl BK118.out 0
  have hns61_0 := NB101_118.out
  have hns61_1 := NB102_118.out
  have hms61_0 := NB118_101.out
  have hms61_1 := NB118_102.out
  refine Lo (w1 := ?_) (by rfl) rfl ?_ ?_
  rotate_left
  ·
   go_simp
   rfl
  refine hK.out _ _ (((Kf (p := ⟨gb118, _, none⟩) NB101_118.out _).trans (hHeld))) (fun hHeld => ?_)
  clear hK K
  refine Gf (Fo HT_.out zk) ?_
  try go_wp2
  have n0_ : Aa (Kd.R (Kd.int .i64) 2 (w59.setCell ⟨gb118, 0, none⟩ (.slice Ao60 y115.length co60)) w.heap.size (fun _ => True) (.slice Ao60 y115.length co60) y115) := ⟨by refine zR ?_; exact Kd.Ai (Kd.Dv (p := ⟨gb118, 0, none⟩) (Kd.Cj HO117.out BK118.out (by decide)) (fun _ hk => hk.2) (.slice Ao60 y115.length co60)) (fun _ hk => trivial)⟩
  have n1_ : Aa ((w59.setCell ⟨gb118, 0, none⟩ (.slice Ao60 y115.length co60)).heap[gb101]? = some (.cells #[.slice (some ad108) l0_0.length c0_0] 26 (0, 0))) := ⟨by refine zG ?_; refine Ce ?_ NB101_118.out _; refine zG ?_; exact BK101.out⟩
  have n2_ : Aa ((w59.setCell ⟨gb118, 0, none⟩ (.slice Ao60 y115.length co60)).heap[gb102]? = some (.cells #[.slice none 0 0] 26 (0, 0))) := ⟨by refine zG ?_; refine Ce ?_ NB102_118.out _; refine zG ?_; exact BK102.out⟩
  have n3_ : Aa ((w59.setCell ⟨gb118, 0, none⟩ (.slice Ao60 y115.length co60)).heap[gb118]? = some (.cells #[.slice Ao60 y115.length co60] 26 (0, 0))) := ⟨by (with_reducible repeat (first | refine Am ?_ _ | refine Ag ?_ | refine Ak ?_ _)); refine Cl (cs := #[.slice none 0 0]) ?_ 0 _ rfl; (with_reducible repeat (first | refine Am ?_ _ | refine Ag ?_ | refine Ak ?_ _)); exact BK118.out⟩
  have n4_ : Aa (Below w.heap.size w (w59.setCell ⟨gb118, 0, none⟩ (.slice Ao60 y115.length co60))) := ⟨zB⟩
  (try clear HO117)
  (try clear BK101)
  (try clear BK102)
  (try clear BK118)
  (try clear HB)
  generalize (w59.setCell ⟨gb118, 0, none⟩ (.slice Ao60 y115.length co60)) = w62 at n0_ n1_ n2_ n3_ n4_ ⊢
  have HO117 := n0_
  have BK101 := n1_
  have BK102 := n2_
  have BK118 := n3_
  have HB := n4_
  clear n0_ n1_ n2_ n3_ n4_
  have n_ := y5 (Kd.Ep HO117.out) (Ag BK101.out) (Ag BK102.out) (Ag BK118.out) (Bz HB.out)
  clear HO117 BK101 BK102 BK118 HB
  obtain ⟨HO117, BK101, BK102, BK118, HB⟩ := n_
  have p119 : 0 ≤ (a1 : Int) := zD
  have q119 : a1 < (l0_0.length : Int) := zD
  obtain ⟨ad119, e119, hx119_0⟩ := Kd.Cv HR0_0.out a1 p119 q119
  have hw119_0 := hx119_0
  obtain rfl : ad108 = ad119 := (by injection e119)
  replace hx119_0 := (HB.out.cell (World.block_lt_of_cell? w _ hx119_0)).trans hx119_0
  replace p119 := eq_true p119
  replace q119 := eq_true q119
  have p120 : 0 ≤ (a2 : Int) := zD
  have q120 : a2 < (l0_0.length : Int) := zD
  obtain ⟨ad120, e120, hx120_0⟩ := Kd.Cv HR0_0.out a2 p120 q120
  have hw120_0 := hx120_0
  obtain rfl : ad108 = ad120 := (by injection e120)
  replace hx120_0 := (HB.out.cell (World.block_lt_of_cell? w _ hx120_0)).trans hx120_0
  replace p120 := eq_true p120
  replace q120 := eq_true q120
  have p49 : 0 ≤ (a1 : Int) := zD
  have q49 : (a1 : Int) < ((y115.length : Int) : Int) := zD
  obtain ⟨go49, co49, eo49, gb49, gl49, cl49, HG49⟩ := Kd.Lk HO117.out (by omega)
  (first | cases eo49 | (injection eo49 with ea_ en_ ec_; (first | subst ea_ | (injection ea_ with ea_; subst ea_)); subst ec_; clear en_))
  have GB49 := Aa.mk gb49
  have GG49 := Aa.mk HG49
  clear gb49 gl49 HG49
  obtain ⟨hx49_0, hf49_0⟩ := Kd.Fx 0 HO117.out (a1 : Int) p49 q49
  replace p49 := eq_true p49
  replace q49 := eq_true q49
  have HP64 := Kd.Pm HO117.out (a1 : Int) (wrap64 (Int.tdiv (ji47) 2))
  rw [← Ny121.out] at HP64
  have HQ64 := Aa.mk HP64
  clear HP64
  refine Fg (n := 17) (S := fun w' => w'.cell? ⟨gb118, 0, none⟩ = some (.slice (some ⟨go49, 0, none⟩) y115.length co60) ∧ w'.cell? ⟨gb101, 0, none⟩ = some (.slice (some ad108) l0_0.length c0_0) ∧ w'.cell? (ad108.add (a1).toNat) = some (.int .i64 (rd l0_0 a1)) ∧ w'.cell? (ad108.add (a2).toNat) = some (.int .i64 (rd l0_0 a2))) (ds := [16]) #[false,false,false,false,false,false,false,false,false,false,false,false,false,false,false,false,false] zk rfl rfl ⟨(Au BK118.out 0).trans rfl, (Au BK101.out 0).trans rfl, ((HB.out.cell (World.block_lt_of_cell? w _ hw119_0)).trans hw119_0), ((HB.out.cell (World.block_lt_of_cell? w _ hw120_0)).trans hw120_0)⟩ (fun hHeld => ?_); refine Eh Bp.tab8 Bp.bits8 (fun HT_ HW_ => ?_)
  generalize w62.drew = w63 at HO117 BK101 BK102 BK118 HB GG49 HQ64 hf49_0 hx119_0 hx120_0 hx49_0 hHeld ⊢
  refine pT 0 60 HT_ ?_
  refine pT 2 62 HT_ ?_
  refine pT 3 63 HT_ ?_
  refine pT 5 65 HT_ ?_
  refine pT 8 68 HT_ ?_
  refine pT 10 70 HT_ ?_
  refine tT 1 61 HT_ HW_ hHeld ?_
  refine tT 4 64 HT_ HW_ hHeld ?_
  refine pT 6 66 HT_ ?_
  refine tT 7 67 HT_ HW_ hHeld ?_
  refine tT 9 69 HT_ HW_ hHeld ?_
  refine pT 11 71 HT_ ?_
  refine tT 12 72 HT_ HW_ hHeld ?_
  refine pT 13 73 HT_ ?_
  refine pT 14 74 HT_ ?_
  refine pT 15 75 HT_ ?_
  refine Ms (i := 16) (N := none) #[true,true,true,true,true,true,true,true,true,true,true,true,true,true,true,true,true] rfl rfl (Db HT_.out zk) (by decide) (fun K hK => ?_)
  refine Lo (w1 := ?_) (by rfl) rfl ?_ ?_
  rotate_left
  ·
   go_simp
   rfl
  refine hK.out _ _ ?_
  clear hK K
  refine Gf (Fo HT_.out zk) ?_
  have n0_ : Aa (Kd.R (Kd.int .i64) 2 (w63.setCell ⟨go49, (a1 : Int).toNat, none⟩ (.int .i64 (wrap64 (Int.tdiv (ji47) 2)))) w.heap.size (fun _ => True) (.slice (some ⟨go49, 0, none⟩) y115.length co60) y121) := ⟨zR HQ64.out⟩
  have n1_ : Aa ((w63.setCell ⟨go49, (a1 : Int).toNat, none⟩ (.int .i64 (wrap64 (Int.tdiv (ji47) 2)))).heap[gb101]? = some (.cells #[.slice (some ad108) l0_0.length c0_0] 26 (0, 0))) := ⟨by refine zG ?_; refine Ce ?_ (by have h_ := Kd.Em HO117.out BK101.out (by decide); intro e_; exact h_ (by rw [e_]; rfl)) _; refine zG ?_; exact BK101.out⟩
  have n2_ : Aa ((w63.setCell ⟨go49, (a1 : Int).toNat, none⟩ (.int .i64 (wrap64 (Int.tdiv (ji47) 2)))).heap[gb102]? = some (.cells #[.slice none 0 0] 26 (0, 0))) := ⟨by refine zG ?_; refine Ce ?_ (by have h_ := Kd.Em HO117.out BK102.out (by decide); intro e_; exact h_ (by rw [e_]; rfl)) _; refine zG ?_; exact BK102.out⟩
  have n3_ : Aa ((w63.setCell ⟨go49, (a1 : Int).toNat, none⟩ (.int .i64 (wrap64 (Int.tdiv (ji47) 2)))).heap[gb118]? = some (.cells #[.slice (some ⟨go49, 0, none⟩) y115.length co60] 26 (0, 0))) := ⟨by refine zG ?_; refine Ce ?_ (by have h_ := Kd.Em HO117.out BK118.out (by decide); intro e_; exact h_ (by rw [e_]; rfl)) _; refine zG ?_; exact BK118.out⟩
  have n4_ : Aa (Below w.heap.size w (w63.setCell ⟨go49, (a1 : Int).toNat, none⟩ (.int .i64 (wrap64 (Int.tdiv (ji47) 2))))) := ⟨zB⟩
  (try clear HO117)
  (try clear BK101)
  (try clear BK102)
  (try clear BK118)
  (try clear HB)
  generalize (w63.setCell ⟨go49, (a1 : Int).toNat, none⟩ (.int .i64 (wrap64 (Int.tdiv (ji47) 2)))) = w65 at n0_ n1_ n2_ n3_ n4_ ⊢
  have HO117 := n0_
  have BK101 := n1_
  have BK102 := n2_
  have BK118 := n3_
  have HB := n4_
  clear n0_ n1_ n2_ n3_ n4_
  have hnb66 := NB118_101.out
  have hnc66 := NB101_118.out
  have hnb67 := NB118_102.out
  have hnc67 := NB102_118.out
  obtain ⟨hcz68_0, hfz68_0⟩ := zw BK118.out
  obtain ⟨hcz69_0, hfz69_0⟩ := zw BK102.out
  try go_wp2
  refine bodyPost_ret (Fw rfl _ _ gb102 26 #[.slice (some ⟨go49, 0, none⟩) y115.length co60] (0, 0) _ rfl (by (with_reducible repeat (first | refine Am ?_ _ | refine Ag ?_ | refine Ak ?_ _)); refine Cl (cs := #[.slice none 0 0]) ?_ 0 _ rfl; (with_reducible repeat (first | refine Am ?_ _ | refine Ag ?_ | refine Ak ?_ _)); exact BK102.out) Tryz.underlying26 rfl zk) rfl ?_
  exact ⟨_, by first | rfl | (simp [Gn, Gm] <;> rfl) | (simp only [← hji43, ← hji47]; first | rfl | (simp [Gn, Gm] <;> rfl)) | (simp [*, Gn, Gm] <;> rfl), by refine zR ?_; exact Kd.Ai (Kd.Dv (p := ⟨gb102, 0, none⟩) (Kd.Cj HO117.out BK102.out (by decide)) (fun _ hk => hk.2) (.slice (some ⟨go49, 0, none⟩) y115.length co60)) (fun _ hk => trivial), zB⟩
def Cs.l0 : Nat → List Int → List Int → Int → Option (Bool)
 | 0, _, _, _ => none
 | k + 1, x0, x1, x5 => if x5 < (x0.length : Int) then (if 0 ≤ x5 then (if x5 < (x1.length : Int) then (if (rd x0 x5) = (rd x1 x5) then (Cs.l0 k x0 x1 (wrap64 (x5 + 1))) else (some false)) else (none)) else (none)) else (some true)
def Cs.f (k : Nat) (l0 : List Int) (l1 : List Int) : Option (Bool) := if (l0.length : Int) = (l1.length : Int) then (Cs.l0 k l0 l1 0) else (some false)
theorem Cs.mono_l : ∀ k, (∀ y0 y1 y2, LeO (Cs.l0 k y0 y1 y2) (Cs.l0 (k + 1) y0 y1 y2))
 | 0 => fun _ _ _ r h => by simp [Cs.l0] at h
 | k + 1 => by
  have ih0 := Cs.mono_l k
  ·
   intro y0 y1 y2
   unfold Cs.l0
   repeat' first | (with_reducible first | exact ih0 _ _ _ | exact LeO.refl _ | exact LeO.none _ | refine LeO.ite ?_ ?_ | refine LeO.bind ?_ (fun _ => ?_)) | exact ih0 _ _ _ | exact LeO.none _ | refine LeO.ite ?_ ?_ | refine LeO.bind ?_ (fun _ => ?_)
theorem Cs.mono : ∀ a0 a1 k, LeO (Cs.f k a0 a1) (Cs.f (k + 1) a0 a1) := by
 intro a0 a1 k
 have ih0 := Cs.mono_l k
 unfold Cs.f
 repeat' first | (with_reducible first | exact ih0 _ _ _ | exact LeO.refl _ | exact LeO.none _ | refine LeO.ite ?_ ?_ | refine LeO.bind ?_ (fun _ => ?_)) | exact ih0 _ _ _ | exact LeO.none _ | refine LeO.ite ?_ ?_ | refine LeO.bind ?_ (fun _ => ?_)
theorem Cs.calls (k : Nat) (A0 : Option Addr) (c0 : Nat) (l0 : List Int) (A1 : Option Addr) (c1 : Nat) (l1 : List Int) (r : Bool) (w : World) (hr0 : Kd.C (Kd.int .i64) w A0 l0.length l0) (hc0 : l0.length ≤ c0) (hr1 : Kd.C (Kd.int .i64) w A1 l1.length l1) (hc1 : l1.length ≤ c1) (h : Cs.f k l0 l1 = some r) :
    Calls Tryz.prog 23 #[.slice A0 l0.length c0, .slice A1 l1.length c1] w fun e w' => e = .returned (.bool r) ∧ Ct w w' := by
 have HR0 := Aa.mk hr0
 have HC0 := Aa.mk hc0
 clear hr0 hc0
 have HR1 := Aa.mk hr1
 have HC1 := Aa.mk hc1
 clear hr1 hc1
 have H := h
 clear h
 unfold Cs.f at H
 by_cases c3 : (l0.length : Int) = (l1.length : Int)
 case neg =>
  rw [if_neg c3] at H
  have c3b0 : ((l0.length : Int) == (l1.length : Int)) = false := beq_eq_false_iff_ne.mpr c3
  have c3b1 : ((l0.length : Int) != (l1.length : Int)) = true := bne_iff_ne.mpr c3
  have c3b2 : (l0.length == l1.length) = false := by first | simpa using c3 | (simp at c3 ⊢; omega)
  obtain rfl := Option.some.inj H
  go_enter Tryz.func23, Tryz.ntmps23
  go_wp2
  repeat (go_quiet (fail); try go_wp2)
  go_ret
  exact ⟨by first | rfl | (simp; done) | (simp [*]; done), by repeat (first | exact Ct.refl _ | apply Ct.step)⟩
 rw [if_pos c3] at H
 have c3b0 : ((l0.length : Int) == (l1.length : Int)) = true := beq_iff_eq.mpr c3
 have c3b1 : ((l0.length : Int) != (l1.length : Int)) = false := bne_eq_false_iff_eq.mpr c3
 have c3b2 : (l0.length == l1.length) = true := by first | simpa using c3 | (simp at c3 ⊢; omega)
 clear c3
 have H' := Aa.mk H
 clear H
 go_enter Tryz.func23, Tryz.ntmps23
 go_wp2
 repeat (go_quiet (fail); try go_wp2)
 go_loopg [5] k (fun kq v5 w' => ∃ (x5_1 : Int), v5 = .int .i64 x5_1 ∧ Aa (Cs.l0 kq l0 l1 x5_1 = some r) ∧ Aa (kq ≤ k) ∧ Ct w w')
 case atStart => exact ⟨(0), zF, H', ⟨Nat.le_refl _⟩, by repeat (first | exact Ct.refl _ | apply Ct.step)⟩
 clear H'
 try clear c3
 try clear c3b0
 try clear c3b1
 try clear c3b2
 obtain ⟨x5_1, rfl, HA, HK1, ⟨m1, rfl⟩⟩ := hrel
 cases gk with
 | zero => exact absurd HA.out (by simp [Cs.l0])
 | succ k1 =>
  have H := HA.out
  clear HA
  simp only [Cs.l0] at H
  by_cases c4 : x5_1 < (l0.length : Int)
  case neg =>
   rw [if_neg c4] at H
   have c4b0 := decide_eq_false c4
   clear c4
   obtain rfl := Option.some.inj H
   go_wp2
   repeat (go_quiet (fail); try go_wp2)
   go_ret
   exact ⟨by first | rfl | (simp; done) | (simp [*]; done), by repeat (first | exact Ct.refl _ | apply Ct.step)⟩
  rw [if_pos c4] at H
  have c4b0 := decide_eq_true c4
  clear c4
  by_cases c5 : 0 ≤ x5_1
  case neg => rw [if_neg c5] at H; exact absurd H (by simp)
  rw [if_pos c5] at H
  have c5b0 := decide_eq_true c5
  clear c5
  by_cases c6 : x5_1 < (l1.length : Int)
  case neg => rw [if_neg c6] at H; exact absurd H (by simp)
  rw [if_pos c6] at H
  have c6b0 := decide_eq_true c6
  clear c6
  by_cases c7 : (rd l0 x5_1) = (rd l1 x5_1)
  ·
   rw [if_pos c7] at H
   have c7b0 : ((rd l0 x5_1) == (rd l1 x5_1)) = true := beq_iff_eq.mpr c7
   have c7b1 : ((rd l0 x5_1) != (rd l1 x5_1)) = false := bne_eq_false_iff_eq.mpr c7
   clear c7
   have H' := Aa.mk H
   clear H
   have p101 : 0 ≤ (x5_1 : Int) := zD
   have q101 : x5_1 < (l0.length : Int) := zD
   obtain ⟨ad101, e101, hx101_0⟩ := Kd.Cv HR0.out x5_1 p101 q101
   cases e101
   replace p101 := eq_true p101
   replace q101 := eq_true q101
   have p102 : 0 ≤ (x5_1 : Int) := zD
   have q102 : x5_1 < (l1.length : Int) := zD
   obtain ⟨ad102, e102, hx102_0⟩ := Kd.Cv HR1.out x5_1 p102 q102
   cases e102
   replace p102 := eq_true p102
   replace q102 := eq_true q102
   go_wp2
   repeat (go_quiet (fail); try go_wp2)
   go_roundg k1
   case measure => have := HK1.out; omega
   case rel => exact ⟨(wrap64 (x5_1 + 1)), zF, H', ⟨by have := HK1.out; omega⟩, by repeat (first | exact Ct.refl _ | apply Ct.step)⟩
  rw [if_neg c7] at H
  have c7b0 : ((rd l0 x5_1) == (rd l1 x5_1)) = false := beq_eq_false_iff_ne.mpr c7
  have c7b1 : ((rd l0 x5_1) != (rd l1 x5_1)) = true := bne_iff_ne.mpr c7
  obtain rfl := Option.some.inj H
  have p101 : 0 ≤ (x5_1 : Int) := zD
  have q101 : x5_1 < (l0.length : Int) := zD
  obtain ⟨ad101, e101, hx101_0⟩ := Kd.Cv HR0.out x5_1 p101 q101
  cases e101
  replace p101 := eq_true p101
  replace q101 := eq_true q101
  have p102 : 0 ≤ (x5_1 : Int) := zD
  have q102 : x5_1 < (l1.length : Int) := zD
  obtain ⟨ad102, e102, hx102_0⟩ := Kd.Cv HR1.out x5_1 p102 q102
  cases e102
  replace p102 := eq_true p102
  replace q102 := eq_true q102
  go_wp2
  repeat (go_quiet (fail); try go_wp2)
  go_ret
  exact ⟨by first | rfl | (simp; done) | (simp [*]; done), by repeat (first | exact Ct.refl _ | apply Ct.step)⟩
def Fp.f (k : Nat) (l0_0 : List Int) (l1_0 : List Int) : Option (Bool) := (Cs.f k l0_0 l1_0).bind fun t103 => (some t103)
theorem Fp.mono : ∀ a0 a1 k, LeO (Fp.f k a0 a1) (Fp.f (k + 1) a0 a1) := by
 intro a0 a1 k
 unfold Fp.f
 repeat' first | (with_reducible first | exact Cs.mono _ _ _ | exact LeO.refl _ | exact LeO.none _ | refine LeO.ite ?_ ?_ | refine LeO.bind ?_ (fun _ => ?_)) | exact Cs.mono _ _ _ | exact LeO.none _ | refine LeO.ite ?_ ?_ | refine LeO.bind ?_ (fun _ => ?_)
theorem Fp.calls (k : Nat) (A0_0 : Option Addr) (c0_0 : Nat) (l0_0 : List Int) (A1_0 : Option Addr) (c1_0 : Nat) (l1_0 : List Int) (r : Bool) (w : World) (hr0_0 : Kd.C (Kd.int .i64) w A0_0 l0_0.length l0_0) (hc0_0 : l0_0.length ≤ c0_0) (hr1_0 : Kd.C (Kd.int .i64) w A1_0 l1_0.length l1_0) (hc1_0 : l1_0.length ≤ c1_0) (h : Fp.f k l0_0 l1_0 = some r) :
    Calls Tryz.prog 8 #[.agg #[.slice A0_0 l0_0.length c0_0], .agg #[.slice A1_0 l1_0.length c1_0]] w fun e w' => e = .returned (.bool r) ∧ Below w.heap.size w w' := by
 have hu26 := Tryz.underlying26
 have HR0_0 := Aa.mk hr0_0
 have HC0_0 := Aa.mk hc0_0
 clear hr0_0 hc0_0
 have HR1_0 := Aa.mk hr1_0
 have HC1_0 := Aa.mk hc1_0
 clear hr1_0 hc1_0
 have HB := Aa.mk (Below.refl w.heap.size w)
 have H := h
 clear h
 unfold Fp.f at H
 obtain ⟨t103, A3, H⟩ := zO H
 try dsimp only at H
 obtain rfl := Option.some.inj H
 go_enter Tryz.func8, Tryz.ntmps8
 go_wp2_with (first | ((with_reducible refine Ay (N := 2) rfl ?_); refine Be zr (N := 2) zr (cs := #[.slice A0_0 l0_0.length c0_0]) (t := 26) zg ?_; intro gb101 hg w4 hbox hb; have n_ := y4 (Ab (zB) hb) (hbox) ((zS hg : w.heap.size ≤ gb101)) ((zS hg : w.heap.size ≤ gb101)); clear HB; obtain ⟨HB, BK101, GW101, GE101⟩ := n_; clear hb hbox hg) | ((with_reducible refine Ay (N := 3) rfl ?_); refine Be zr (N := 3) zr (cs := #[.slice A1_0 l1_0.length c1_0]) (t := 26) zg ?_; intro gb102 hg w5 hbox hb; have n_ := y7 (zb BK101.out hb) (Ab (zB) hb) (hbox) ((zS hg : w.heap.size ≤ gb102)) ((zS hg : w.heap.size ≤ gb102)) ((zL hg BK101.out : gb101 ≠ gb102)) ((zM hg BK101.out : gb102 ≠ gb101)); clear BK101 HB; obtain ⟨BK101, HB, BK102, GW102, GE102, NB101_102, NB102_101⟩ := n_; clear hb hbox hg; have hnb6 := NB101_102.out; have hnc6 := NB102_101.out; obtain ⟨hcz7_0, hfz7_0⟩ := zw BK101.out; obtain ⟨hcz8_0, hfz8_0⟩ := zw BK102.out) | (refine gK 23 ?_; refine gL 9 Tryz.func23 #[.slice A0_0 l0_0.length c0_0, .slice A1_0 l1_0.length c1_0] ?_; (with_reducible refine (Cs.calls k _ _ l0_0 _ _ l1_0 t103 _ ?side1 HC0_0.out ?side3 HC1_0.out A3.out).mono ?_); (case side1 => exact zC (Kd.Bh HR0_0.out HB.out)); (case side3 => exact zC (Kd.Bh HR1_0.out HB.out)); rintro e w' ⟨rfl, ⟨nd, rfl⟩⟩; refine ⟨_, rfl, ?_⟩))
 go_ret
 exact ⟨zE, zB⟩
def Ba.l0 : Nat → List Int → Int → Int → Option (Int)
 | 0, _, _, _ => none
 | k + 1, x0, x3, x4 => if x4 < (x0.length : Int) then (if 0 ≤ x4 then (Ba.l0 k x0 (mn x3 (rd x0 x4)) (wrap64 (x4 + 1))) else (none)) else (some x3)
def Ba.f (k : Nat) (l0 : List Int) : Option (Int) := if (l0.length : Int) < 1 then (none) else (if 0 < (l0.length : Int) then (Ba.l0 k l0 (rd l0 0) 1) else (none))
theorem Ba.mono_l : ∀ k, (∀ y0 y1 y2, LeO (Ba.l0 k y0 y1 y2) (Ba.l0 (k + 1) y0 y1 y2))
 | 0 => fun _ _ _ r h => by simp [Ba.l0] at h
 | k + 1 => by
  have ih0 := Ba.mono_l k
  ·
   intro y0 y1 y2
   unfold Ba.l0
   repeat' first | (with_reducible first | exact ih0 _ _ _ | exact LeO.refl _ | exact LeO.none _ | refine LeO.ite ?_ ?_ | refine LeO.bind ?_ (fun _ => ?_)) | exact ih0 _ _ _ | exact LeO.none _ | refine LeO.ite ?_ ?_ | refine LeO.bind ?_ (fun _ => ?_)
theorem Ba.mono : ∀ a0 k, LeO (Ba.f k a0) (Ba.f (k + 1) a0) := by
 intro a0 k
 have ih0 := Ba.mono_l k
 unfold Ba.f
 repeat' first | (with_reducible first | exact ih0 _ _ _ | exact LeO.refl _ | exact LeO.none _ | refine LeO.ite ?_ ?_ | refine LeO.bind ?_ (fun _ => ?_)) | exact ih0 _ _ _ | exact LeO.none _ | refine LeO.ite ?_ ?_ | refine LeO.bind ?_ (fun _ => ?_)
theorem Ba.calls (k : Nat) (A0 : Option Addr) (c0 : Nat) (l0 : List Int) (r : Int) (w : World) (hr0 : Kd.C (Kd.int .i64) w A0 l0.length l0) (hc0 : l0.length ≤ c0) (h : Ba.f k l0 = some r) :
    Calls Tryz.prog 38 #[.slice A0 l0.length c0] w fun e w' => e = .returned (.int .i64 r) ∧ Below w.heap.size w w' := by
 have HR0 := Aa.mk hr0
 have HC0 := Aa.mk hc0
 clear hr0 hc0
 have HB := Aa.mk (Below.refl w.heap.size w)
 have H := h
 clear h
 unfold Ba.f at H
 by_cases c2 : (l0.length : Int) < 1
 ·
  rw [if_pos c2] at H
  exact absurd H (by simp)
 rw [if_neg c2] at H
 have c2b0 := decide_eq_false c2
 have c2b1 : decide (l0.length < 1) = false := decide_eq_false (by omega)
 clear c2
 by_cases c3 : 0 < (l0.length : Int)
 case neg => rw [if_neg c3] at H; exact absurd H (by simp)
 rw [if_pos c3] at H
 have c3b0 := decide_eq_true c3
 have c3b1 : decide (0 < l0.length) = true := decide_eq_true (by omega)
 clear c3
 have H' := Aa.mk H
 clear H
 have p101 : 0 ≤ (0 : Int) := (by omega)
 have q101 : 0 < (l0.length : Int) := zD
 obtain ⟨ad101, e101, hx101_0⟩ := Kd.Cv HR0.out 0 p101 q101
 cases e101
 have qi101 : (0 < l0.length) = True := eq_true (by omega)
 (try rw [show ((0 : Int)).toNat = 0 from rfl] at hx101_0)
 (try rw [Addr.add_zero'] at hx101_0)
 replace p101 := eq_true p101
 replace q101 := eq_true q101
 go_enter Tryz.func38, Tryz.ntmps38
 go_wp2
 go_loopg [3, 4] k (fun kq v3 v4 w' => ∃ (x3_1 : Int) (x4_1 : Int), v3 = .int .i64 x3_1 ∧ v4 = .int .i64 x4_1 ∧ Aa (Ba.l0 kq l0 x3_1 x4_1 = some r) ∧ Aa (kq ≤ k) ∧ Aa (Below w.heap.size w w'))
 case atStart => exact ⟨(rd l0 0), (1), zF, zF, H', ⟨Nat.le_refl _⟩, ⟨zB⟩⟩
 clear H'
 try clear c2
 try clear c2b0
 try clear c2b1
 try clear c3
 try clear c3b0
 try clear c3b1
 try clear hx101_0
 try clear p101
 try clear q101
 obtain ⟨x3_1, x4_1, rfl, rfl, HA, HK1, HB⟩ := hrel
 cases gk with
 | zero => exact absurd HA.out (by simp [Ba.l0])
 | succ k1 =>
  have H := HA.out
  clear HA
  simp only [Ba.l0] at H
  by_cases c4 : x4_1 < (l0.length : Int)
  case neg =>
   rw [if_neg c4] at H
   have c4b0 := decide_eq_false c4
   clear c4
   obtain rfl := Option.some.inj H
   go_wp2
   go_ret
   exact ⟨zE, zB⟩
  rw [if_pos c4] at H
  have c4b0 := decide_eq_true c4
  clear c4
  by_cases c5 : 0 ≤ x4_1
  case neg => rw [if_neg c5] at H; exact absurd H (by simp)
  rw [if_pos c5] at H
  have c5b0 := decide_eq_true c5
  clear c5
  obtain ⟨ji6, hji6⟩ : ∃ j_ : Int, (mn x3_1 (rd l0 x4_1)) = j_ := ⟨_, rfl⟩
  replace H : (Ba.l0 k1 l0 ji6 (wrap64 (x4_1 + 1))) = some r := by first | (rw [hji6] at H; exact H) | (simp only [hji6] at H ⊢; exact H)
  have hji6_ : (if (rd l0 x4_1) < x3_1 then (rd l0 x4_1) else x3_1) = ji6 := hji6
  have H' := Aa.mk H
  clear H
  have p102 : 0 ≤ (x4_1 : Int) := zD
  have q102 : x4_1 < (l0.length : Int) := zD
  obtain ⟨ad102, e102, hx102_0⟩ := Kd.Cv HR0.out x4_1 p102 q102
  obtain rfl : ad101 = ad102 := (by injection e102)
  replace hx102_0 := (HB.out.cell (World.block_lt_of_cell? w _ hx102_0)).trans hx102_0
  replace p102 := eq_true p102
  replace q102 := eq_true q102
  go_wp2
  go_roundg k1
  case measure => have := HK1.out; omega
  case rel => exact ⟨(ji6), (wrap64 (x4_1 + 1)), (by first | rfl | (simp; done) | (simp only [← hji6] <;> (first | rfl | simp)) | (simp [*]; done)), zF, H', ⟨by have := HK1.out; omega⟩, ⟨zB⟩⟩
mutual
def Bd.l0 : Nat → Int → List Int → Int → Int → List Int → Option (List Int)
 | 0, _, _, _, _, _ => none
 | k + 1, x1, x10, x11, x12, x104000 => if x12 < x11 then (if 0 ≤ x12 then (if x12 < (x10.length : Int) then (Bd.l1 k x1 (rd x10 x12) x1 x10 x11 x12 x104000) else (none)) else (none)) else (some x104000)
def Bd.l1 : Nat → Int → Int → Int → List Int → Int → Int → List Int → Option (List Int)
 | 0, _, _, _, _, _, _, _ => none
 | k + 1, x1, x7, x8, x10, x11, x12, x104000 => if (wrap64 (2 * x8)) ≤ x7 then (Bd.l1 k x1 x7 (wrap64 (x8 * 2)) x10 x11 x12 x104000) else (if x104000.length < 17592186044416 then (Bd.l0 k x1 x10 x11 (wrap64 (x12 + 1)) (x104000 ++ [x8])) else (none))
end
def Bd.f (k : Nat) (l0_0 : List Int) (a1 : Int) : Option (List Int) := Bd.l0 k a1 l0_0 (l0_0.length : Int) 0 ([] : List Int)
theorem Bd.mono_l : ∀ k, (∀ y0 y1 y2 y3 y4, LeO (Bd.l0 k y0 y1 y2 y3 y4) (Bd.l0 (k + 1) y0 y1 y2 y3 y4)) ∧ (∀ y0 y1 y2 y3 y4 y5 y6, LeO (Bd.l1 k y0 y1 y2 y3 y4 y5 y6) (Bd.l1 (k + 1) y0 y1 y2 y3 y4 y5 y6))
 | 0 => ⟨fun _ _ _ _ _ r h => by simp [Bd.l0] at h, fun _ _ _ _ _ _ _ r h => by simp [Bd.l1] at h⟩
 | k + 1 => by
  obtain ⟨ih0, ih1⟩ := Bd.mono_l k
  refine ⟨?_, ?_⟩ <;> intros <;> (first | unfold Bd.l0 | unfold Bd.l1) <;> repeat' first | (with_reducible first | exact ih0 _ _ _ _ _ | exact ih1 _ _ _ _ _ _ _ | exact LeO.refl _ | exact LeO.none _ | refine LeO.ite ?_ ?_ | refine LeO.bind ?_ (fun _ => ?_)) | exact ih0 _ _ _ _ _ | exact ih1 _ _ _ _ _ _ _ | exact LeO.none _ | refine LeO.ite ?_ ?_ | refine LeO.bind ?_ (fun _ => ?_)
theorem Bd.mono : ∀ a0 a1 k, LeO (Bd.f k a0 a1) (Bd.f (k + 1) a0 a1) := by
 intro a0 a1 k
 obtain ⟨ih0, ih1⟩ := Bd.mono_l k
 unfold Bd.f
 repeat' first | (with_reducible first | exact ih0 _ _ _ _ _ | exact ih1 _ _ _ _ _ _ _ | exact LeO.refl _ | exact LeO.none _ | refine LeO.ite ?_ ?_ | refine LeO.bind ?_ (fun _ => ?_)) | exact ih0 _ _ _ _ _ | exact ih1 _ _ _ _ _ _ _ | exact LeO.none _ | refine LeO.ite ?_ ?_ | refine LeO.bind ?_ (fun _ => ?_)
theorem Bd.calls (k : Nat) (A0_0 : Option Addr) (c0_0 : Nat) (l0_0 : List Int) (a1 : Int) (r : List Int) (w : World) (hr0_0 : Kd.C (Kd.int .i64) w A0_0 l0_0.length l0_0) (hc0_0 : l0_0.length ≤ c0_0) (h : Bd.f k l0_0 a1 = some r) :
    Calls Tryz.prog 39 #[.agg #[.slice A0_0 l0_0.length c0_0], .int .i64 a1] w fun e w' => ∃ v0_ : Value, e = .returned (.agg #[v0_]) ∧ Kd.R (Kd.int .i64) 2 w' w.heap.size (fun _ => True) v0_ r ∧ Below w.heap.size w w' := by
 have hu26 := Tryz.underlying26
 have HR0_0 := Aa.mk hr0_0
 have HC0_0 := Aa.mk hc0_0
 clear hr0_0 hc0_0
 have HB := Aa.mk (Below.refl w.heap.size w)
 have H := h
 clear h
 unfold Bd.f at H
 have H' := Aa.mk H
 clear H
 go_enter Tryz.func39, Tryz.ntmps39
 go_wp2_with (first | ((with_reducible refine Ay (N := 2) rfl ?_); refine Be zr (N := 2) zr (cs := #[.slice A0_0 l0_0.length c0_0]) (t := 26) zg ?_; intro gb101 hg w3 hbox hb; have n_ := y4 (Ab (zB) hb) (hbox) ((zS hg : w.heap.size ≤ gb101)) ((zS hg : w.heap.size ≤ gb101)); clear HB; obtain ⟨HB, BK101, GW101, GE101⟩ := n_; clear hb hbox hg) | ((with_reducible refine Ay (N := 4) rfl ?_); refine Be zr (N := 4) zr (cs := #[.slice none 0 0]) (t := 26) zg ?_; intro gb102 hg w4 hbox hb; have n_ := y7 (zb BK101.out hb) (Ab (zB) hb) (hbox) ((zS hg : w.heap.size ≤ gb102)) ((zS hg : w.heap.size ≤ gb102)) ((zL hg BK101.out : gb101 ≠ gb102)) ((zM hg BK101.out : gb102 ≠ gb101)); clear BK101 HB; obtain ⟨BK101, HB, BK102, GW102, GE102, NB101_102, NB102_101⟩ := n_; clear hb hbox hg) | ((with_reducible refine Ay (N := 5) rfl ?_); refine Be zr (N := 5) zr (cs := #[.slice none 0 0]) (t := 26) zg ?_; intro gb103 hg w5 hbox hb; have n_ := y10 (zb BK101.out hb) (zb BK102.out hb) (Ab (zB) hb) (hbox) ((zS hg : w.heap.size ≤ gb103)) ((zS hg : w.heap.size ≤ gb103)) ((zL hg BK101.out : gb101 ≠ gb103)) ((zM hg BK101.out : gb103 ≠ gb101)) ((zL hg BK102.out : gb102 ≠ gb103)) ((zM hg BK102.out : gb103 ≠ gb102)); clear BK101 BK102 HB; obtain ⟨BK101, BK102, HB, BK103, GW103, GE103, NB101_103, NB103_101, NB102_103, NB103_102⟩ := n_; clear hb hbox hg; have hnb6 := NB101_102.out; have hnc6 := NB102_101.out; have hnb7 := NB101_103.out; have hnc7 := NB103_101.out; obtain ⟨hcz8_0, hfz8_0⟩ := zw BK101.out))
 go_loopg [12] k (fun kq v12 w' => ∃ (x12_1 : Int) (x104000_1 : List Int) (u104000 : Value), v12 = .int .i64 x12_1 ∧ Aa (Bd.l0 kq a1 l0_0 (l0_0.length : Int) x12_1 x104000_1 = some r) ∧ Aa (kq ≤ k) ∧ Aa (Kd.R (Kd.int .i64) 2 w' w.heap.size (fun _ => True) u104000 x104000_1) ∧ Aa (w'.heap[gb101]? = some (.cells #[(.slice A0_0 l0_0.length c0_0)] 26 (0, 0))) ∧ Aa (w'.heap[gb102]? = some (.cells #[(.slice none 0 0)] 26 (0, 0))) ∧ Aa (w'.heap[gb103]? = some (.cells #[u104000] 26 (0, 0))) ∧ Aa (Below w.heap.size w w'))
 case atStart => exact ⟨(0), (([] : List Int)), (.slice none 0 0), zF, H', ⟨Nat.le_refl _⟩, ⟨zN⟩, ⟨zG BK101.out⟩, ⟨zG BK102.out⟩, ⟨zG BK103.out⟩, ⟨zB⟩⟩
 clear H'
 try clear hcz8_0
 try clear hfz8_0
 obtain ⟨x12_1, x104000_1, u104000, rfl, HA, HK1, HO_104000, BK101, BK102, BK103, HB⟩ := hrel
 cases gk with
 | zero => exact absurd HA.out (by simp [Bd.l0])
 | succ k1 =>
  have H := HA.out
  clear HA
  simp only [Bd.l0] at H
  by_cases c9 : x12_1 < (l0_0.length : Int)
  case neg =>
   rw [if_neg c9] at H
   have c9b0 := decide_eq_false c9
   clear c9
   obtain rfl := Option.some.inj H
   have hnb20 := NB103_101.out
   have hnc20 := NB101_103.out
   have hnb21 := NB103_102.out
   have hnc21 := NB102_103.out
   obtain ⟨hcz22_0, hfz22_0⟩ := zw BK103.out
   obtain ⟨Ao23, co23, eo23⟩ := Kd.Bb HO_104000.out
   subst eo23
   have hnb24 := NB102_101.out
   have hnc24 := NB101_102.out
   obtain ⟨hcz25_0, hfz25_0⟩ := zw BK102.out
   go_wp2
   refine bodyPost_ret (results_cell_row rfl _ _ gb102 26 #[.slice Ao23 x104000_1.length co23] (0, 0) _ rfl (by (with_reducible repeat (first | refine Am ?_ _ | refine Ag ?_ | refine Ak ?_ _)); refine Cl (cs := #[.slice none 0 0]) ?_ 0 _ rfl; (with_reducible repeat (first | refine Am ?_ _ | refine Ag ?_ | refine Ak ?_ _)); exact BK102.out) Tryz.underlying26 rfl zk) rfl ?_
   exact ⟨_, zE, by refine zR ?_; exact Kd.Ai (Kd.Dv (p := ⟨gb102, 0, none⟩) (Kd.Cj HO_104000.out BK102.out (by decide)) (fun _ hk => hk.2) (.slice Ao23 x104000_1.length co23)) (fun _ hk => trivial), zB⟩
  rw [if_pos c9] at H
  have c9b0 := decide_eq_true c9
  clear c9
  by_cases c10 : 0 ≤ x12_1
  case neg => rw [if_neg c10] at H; exact absurd H (by simp)
  rw [if_pos c10] at H
  have c10b0 := decide_eq_true c10
  clear c10
  by_cases c11 : x12_1 < (l0_0.length : Int)
  case neg => rw [if_neg c11] at H; exact absurd H (by simp)
  rw [if_pos c11] at H
  have c11b0 := decide_eq_true c11
  clear c11
  have H' := Aa.mk H
  clear H
  have p104 : 0 ≤ (x12_1 : Int) := zD
  have q104 : x12_1 < (l0_0.length : Int) := zD
  obtain ⟨ad104, e104, hx104_0⟩ := Kd.Cv HR0_0.out x12_1 p104 q104
  cases e104
  replace hx104_0 := (HB.out.cell (World.block_lt_of_cell? w _ hx104_0)).trans hx104_0
  replace p104 := eq_true p104
  replace q104 := eq_true q104
  go_wp2
  go_loopg [8] k1 (fun kq v8 w' => ∃ (x8_2 : Int), v8 = .int .i64 x8_2 ∧ Aa (Bd.l1 kq a1 (rd l0_0 x12_1) x8_2 l0_0 (l0_0.length : Int) x12_1 x104000_1 = some r) ∧ Aa (kq ≤ k1) ∧ Aa (Kd.R (Kd.int .i64) 2 w' w.heap.size (fun _ => True) u104000 x104000_1) ∧ Aa (w'.heap[gb101]? = some (.cells #[(.slice (some ad104) l0_0.length c0_0)] 26 (0, 0))) ∧ Aa (w'.heap[gb102]? = some (.cells #[(.slice none 0 0)] 26 (0, 0))) ∧ Aa (w'.heap[gb103]? = some (.cells #[u104000] 26 (0, 0))) ∧ Aa (Below w.heap.size w w'))
  case atStart => exact ⟨(a1), zF, H', ⟨Nat.le_refl _⟩, ⟨zR HO_104000.out⟩, ⟨zG BK101.out⟩, ⟨zG BK102.out⟩, ⟨zG BK103.out⟩, ⟨zB⟩⟩
  clear H'
  try clear c9
  try clear c9b0
  try clear c10
  try clear c10b0
  try clear c11
  try clear c11b0
  try clear hcz8_0
  try clear hfz8_0
  try clear hx104_0
  try clear p104
  try clear q104
  obtain ⟨x8_2, rfl, HA, HK2, HO_104000, BK101, BK102, BK103, HB⟩ := hrel
  cases gk with
  | zero => exact absurd HA.out (by simp [Bd.l1])
  | succ k2 =>
   have H := HA.out
   clear HA
   simp only [Bd.l1] at H
   by_cases c12 : (wrap64 (2 * x8_2)) ≤ (rd l0_0 x12_1)
   ·
    rw [if_pos c12] at H
    have c12b0 := decide_eq_true c12
    clear c12
    have H' := Aa.mk H
    clear H
    go_wp2
    go_roundg k2
    case measure => have := HK1.out; have := HK2.out; omega
    case rel => exact ⟨(wrap64 (x8_2 * 2)), zF, H', ⟨by have := HK1.out; have := HK2.out; omega⟩, ⟨zR HO_104000.out⟩, ⟨zG BK101.out⟩, ⟨zG BK102.out⟩, ⟨zG BK103.out⟩, ⟨zB⟩⟩
   rw [if_neg c12] at H
   have c12b0 := decide_eq_false c12
   clear c12
   by_cases c13 : x104000_1.length < 17592186044416
   case neg => rw [if_neg c13] at H; exact absurd H (by simp)
   rw [if_pos c13] at H
   have LMc13 := Aa.mk c13
   clear c13
   obtain ⟨y105, hy105⟩ : ∃ y_ : List Int, y_ = (x104000_1 ++ [x8_2]) := ⟨_, rfl⟩
   replace H : (Bd.l0 k2 a1 l0_0 (l0_0.length : Int) (wrap64 (x12_1 + 1)) y105) = some r := zH hy105
   have Ny105 := Aa.mk hy105
   clear hy105
   have H' := Aa.mk H
   clear H
   have hnb14 := NB103_101.out
   have hnc14 := NB101_103.out
   have hnb15 := NB103_102.out
   have hnc15 := NB102_103.out
   obtain ⟨hcz16_0, hfz16_0⟩ := zw BK103.out
   go_wp2_with (first | ((with_reducible refine Dp (b := .append) (xs := #[.tmp 24, .tmp 26]) rfl ?_); at_builtin; refine Kd.Gk (Kd.int .i64) (w0 := w) w.heap.size rfl (.tmp 24) (.tmp 26) 24 2 (.int .i64 0) 8 rfl Tryz.underlying24 Gb rfl (by decide) (by omega) u104000 x104000_1 x8_2 [.int .i64 x8_2] (fun _ => True) (fun _ => False) rfl rfl ?aP (fun _ hk => hk.elim) ?aF ?aO ?aB ?aS ?aL ?_; (case aP => exact rfl); (case aB => exact (zB)); (case aF => exact (fun _ _ => trivial)); (case aO => exact (zR HO_104000.out)); (case aS => exact (An (zB))); (case aL => have := LMc13.out; omega); intro v106 w17 ho hb hg hat; rw [← Ny105.out] at ho; have n_ := y5 (Cm (g := gb101) (o := .cells #[.slice (some ad104) l0_0.length c0_0] 26 (0, 0)) (zG BK101.out) hg (Kd.Em HO_104000.out BK101.out (by decide))) (Cm (g := gb102) (o := .cells #[.slice none 0 0] 26 (0, 0)) (zG BK102.out) hg (Kd.Em HO_104000.out BK102.out (by decide))) (Cm (g := gb103) (o := .cells #[u104000] 26 (0, 0)) (zG BK103.out) hg (Kd.Em HO_104000.out BK103.out (by decide))) (hb) (ho); clear BK101 BK102 BK103 HB HO_104000; obtain ⟨BK101, BK102, BK103, HB, HO107⟩ := n_; clear ho hb hg hat; obtain ⟨Ao18, co18, eo18⟩ := Kd.Bb HO107.out; subst eo18; obtain ⟨hcz19_0, hfz19_0⟩ := zw BK103.out))
   go_roundg k2
   case measure => have := HK1.out; have := HK2.out; omega
   case rel => exact ⟨(wrap64 (x12_1 + 1)), (y105), (.slice Ao18 y105.length co18), zF, H', ⟨by have := HK1.out; have := HK2.out; omega⟩, ⟨by refine zR ?_; exact Kd.Ai (Kd.Dv (p := ⟨gb103, 0, none⟩) (Kd.Cj HO107.out BK103.out (by decide)) (fun _ hk => hk.2) (.slice Ao18 y105.length co18)) (fun _ hk => trivial)⟩, ⟨by refine zG ?_; refine Ce ?_ NB101_103.out _; refine zG ?_; exact BK101.out⟩, ⟨by refine zG ?_; refine Ce ?_ NB102_103.out _; refine zG ?_; exact BK102.out⟩, ⟨by (with_reducible repeat (first | refine Am ?_ _ | refine Ag ?_ | refine Ak ?_ _)); refine Cl (cs := #[u104000]) ?_ 0 _ rfl; (with_reducible repeat (first | refine Am ?_ _ | refine Ag ?_ | refine Ak ?_ _)); exact BK103.out⟩, ⟨zB⟩⟩
def Bl.l0 : Nat → Int → List Int → Int → Int → Option (Int)
 | 0, _, _, _, _ => none
 | k + 1, x3, x7, x8, x9 => if x9 < x8 then (if 0 ≤ x9 then (if x9 < (x7.length : Int) then ((Cu.f k x3 (rd x7 x9)).bind fun t103 => (if t103 = 0 then (none) else (Bl.l0 k (wrap64 ((wrap64 (Int.tdiv x3 t103)) * (rd x7 x9))) x7 x8 (wrap64 (x9 + 1))))) else (none)) else (none)) else (some x3)
def Bl.f (k : Nat) (l0_0 : List Int) : Option (Int) := Bl.l0 k 1 l0_0 (l0_0.length : Int) 0
theorem Bl.mono_l : ∀ k, (∀ y0 y1 y2 y3, LeO (Bl.l0 k y0 y1 y2 y3) (Bl.l0 (k + 1) y0 y1 y2 y3))
 | 0 => fun _ _ _ _ r h => by simp [Bl.l0] at h
 | k + 1 => by
  have ih0 := Bl.mono_l k
  ·
   intro y0 y1 y2 y3
   unfold Bl.l0
   repeat' first | (with_reducible first | exact ih0 _ _ _ _ | exact Cu.mono _ _ _ | exact LeO.refl _ | exact LeO.none _ | refine LeO.ite ?_ ?_ | refine LeO.bind ?_ (fun _ => ?_)) | exact ih0 _ _ _ _ | exact Cu.mono _ _ _ | exact LeO.none _ | refine LeO.ite ?_ ?_ | refine LeO.bind ?_ (fun _ => ?_)
theorem Bl.mono : ∀ a0 k, LeO (Bl.f k a0) (Bl.f (k + 1) a0) := by
 intro a0 k
 have ih0 := Bl.mono_l k
 unfold Bl.f
 repeat' first | (with_reducible first | exact ih0 _ _ _ _ | exact Cu.mono _ _ _ | exact LeO.refl _ | exact LeO.none _ | refine LeO.ite ?_ ?_ | refine LeO.bind ?_ (fun _ => ?_)) | exact ih0 _ _ _ _ | exact Cu.mono _ _ _ | exact LeO.none _ | refine LeO.ite ?_ ?_ | refine LeO.bind ?_ (fun _ => ?_)
theorem Bl.calls (k : Nat) (A0_0 : Option Addr) (c0_0 : Nat) (l0_0 : List Int) (r : Int) (w : World) (hr0_0 : Kd.C (Kd.int .i64) w A0_0 l0_0.length l0_0) (hc0_0 : l0_0.length ≤ c0_0) (h : Bl.f k l0_0 = some r) :
    Calls Tryz.prog 67 #[.agg #[.slice A0_0 l0_0.length c0_0]] w fun e w' => e = .returned (.int .i64 r) ∧ Below w.heap.size w w' := by
 have hu26 := Tryz.underlying26
 have HR0_0 := Aa.mk hr0_0
 have HC0_0 := Aa.mk hc0_0
 clear hr0_0 hc0_0
 have HB := Aa.mk (Below.refl w.heap.size w)
 have H := h
 clear h
 unfold Bl.f at H
 have H' := Aa.mk H
 clear H
 go_enter Tryz.func67, Tryz.ntmps67
 go_wp2_with (first | ((with_reducible refine Ay (N := 1) rfl ?_); refine Be zr (N := 1) zr (cs := #[.slice A0_0 l0_0.length c0_0]) (t := 26) zg ?_; intro gb101 hg w2 hbox hb; have n_ := y4 (Ab (zB) hb) (hbox) ((zS hg : w.heap.size ≤ gb101)) ((zS hg : w.heap.size ≤ gb101)); clear HB; obtain ⟨HB, BK101, GW101, GE101⟩ := n_; clear hb hbox hg; obtain ⟨hcz3_0, hfz3_0⟩ := zw BK101.out))
 go_loopg [3, 9] k (fun kq v3 v9 w' => ∃ (x3_1 : Int) (x9_1 : Int), v3 = .int .i64 x3_1 ∧ v9 = .int .i64 x9_1 ∧ Aa (Bl.l0 kq x3_1 l0_0 (l0_0.length : Int) x9_1 = some r) ∧ Aa (kq ≤ k) ∧ Aa (Below w.heap.size w w'))
 case atStart => exact ⟨(1), (0), zF, zF, H', ⟨Nat.le_refl _⟩, ⟨zB⟩⟩
 clear H'
 try clear hcz3_0
 try clear hfz3_0
 obtain ⟨x3_1, x9_1, rfl, rfl, HA, HK1, HB⟩ := hrel
 cases gk with
 | zero => exact absurd HA.out (by simp [Bl.l0])
 | succ k1 =>
  have H := HA.out
  clear HA
  simp only [Bl.l0] at H
  by_cases c4 : x9_1 < (l0_0.length : Int)
  case neg =>
   rw [if_neg c4] at H
   have c4b0 := decide_eq_false c4
   clear c4
   obtain rfl := Option.some.inj H
   go_wp2
   go_ret
   exact ⟨zE, zB⟩
  rw [if_pos c4] at H
  have c4b0 := decide_eq_true c4
  clear c4
  by_cases c5 : 0 ≤ x9_1
  case neg => rw [if_neg c5] at H; exact absurd H (by simp)
  rw [if_pos c5] at H
  have c5b0 := decide_eq_true c5
  clear c5
  by_cases c6 : x9_1 < (l0_0.length : Int)
  case neg => rw [if_neg c6] at H; exact absurd H (by simp)
  rw [if_pos c6] at H
  have c6b0 := decide_eq_true c6
  clear c6
  obtain ⟨t103, A7, H⟩ := zO H
  try dsimp only at H
  by_cases c8 : t103 = 0
  ·
   rw [if_pos c8] at H
   exact absurd H (by simp)
  rw [if_neg c8] at H
  have c8b0 : (t103 == 0) = false := beq_eq_false_iff_ne.mpr c8
  have c8b1 : (t103 != 0) = true := bne_iff_ne.mpr c8
  have H' := Aa.mk H
  clear H
  have p102 : 0 ≤ (x9_1 : Int) := zD
  have q102 : x9_1 < (l0_0.length : Int) := zD
  obtain ⟨ad102, e102, hx102_0⟩ := Kd.Cv HR0_0.out x9_1 p102 q102
  cases e102
  replace hx102_0 := (HB.out.cell (World.block_lt_of_cell? w _ hx102_0)).trans hx102_0
  replace p102 := eq_true p102
  replace q102 := eq_true q102
  go_wp2_with (first | (refine gK 46 ?_; refine gL 16 Tryz.func46 #[.int .i64 x3_1, .int .i64 (rd l0_0 x9_1)] ?_; (with_reducible refine (Cu.calls k1 x3_1 (rd l0_0 x9_1) t103 _ A7.out).mono ?_); rintro e w' ⟨rfl, ⟨nd, rfl⟩⟩; refine ⟨_, rfl, ?_⟩))
  go_roundg k1
  case measure => have := HK1.out; omega
  case rel => exact ⟨(wrap64 ((wrap64 (Int.tdiv x3_1 t103)) * (rd l0_0 x9_1))), (wrap64 (x9_1 + 1)), zF, zF, H', ⟨by have := HK1.out; omega⟩, ⟨zB⟩⟩
def Cd.l0 : Nat → Int → Int → List Int → Int → Int → Option (Int × Int)
 | 0, _, _, _, _, _ => none
 | k + 1, x4, x5, x12, x13, x14 => if x14 < x13 then (if 0 ≤ x14 then (if x14 < (x12.length : Int) then (if (rd x12 x14) = 0 then (none) else (Cd.l0 k x4 (wrap64 (x5 + (wrap64 (Int.tdiv x4 (rd x12 x14))))) x12 x13 (wrap64 (x14 + 1)))) else (none)) else (none)) else ((Cu.f k x5 x4).bind fun t104 => (if t104 = 0 then (none) else (some (wrap64 (Int.tdiv x5 t104), wrap64 (Int.tdiv x4 t104)))))
def Cd.f (k : Nat) (l0_0 : List Int) : Option (Int × Int) := (Bl.f k l0_0).bind fun t102 => (Cd.l0 k t102 0 l0_0 (l0_0.length : Int) 0)
theorem Cd.mono_l : ∀ k, (∀ y0 y1 y2 y3 y4, LeO (Cd.l0 k y0 y1 y2 y3 y4) (Cd.l0 (k + 1) y0 y1 y2 y3 y4))
 | 0 => fun _ _ _ _ _ r h => by simp [Cd.l0] at h
 | k + 1 => by
  have ih0 := Cd.mono_l k
  ·
   intro y0 y1 y2 y3 y4
   unfold Cd.l0
   repeat' first | (with_reducible first | exact ih0 _ _ _ _ _ | exact Bl.mono _ _ | exact Cu.mono _ _ _ | exact LeO.refl _ | exact LeO.none _ | refine LeO.ite ?_ ?_ | refine LeO.bind ?_ (fun _ => ?_)) | exact ih0 _ _ _ _ _ | exact Bl.mono _ _ | exact Cu.mono _ _ _ | exact LeO.none _ | refine LeO.ite ?_ ?_ | refine LeO.bind ?_ (fun _ => ?_)
theorem Cd.mono : ∀ a0 k, LeO (Cd.f k a0) (Cd.f (k + 1) a0) := by
 intro a0 k
 have ih0 := Cd.mono_l k
 unfold Cd.f
 repeat' first | (with_reducible first | exact ih0 _ _ _ _ _ | exact Bl.mono _ _ | exact Cu.mono _ _ _ | exact LeO.refl _ | exact LeO.none _ | refine LeO.ite ?_ ?_ | refine LeO.bind ?_ (fun _ => ?_)) | exact ih0 _ _ _ _ _ | exact Bl.mono _ _ | exact Cu.mono _ _ _ | exact LeO.none _ | refine LeO.ite ?_ ?_ | refine LeO.bind ?_ (fun _ => ?_)
theorem Cd.calls (k : Nat) (A0_0 : Option Addr) (c0_0 : Nat) (l0_0 : List Int) (r1 : Int) (r2 : Int) (w : World) (hr0_0 : Kd.C (Kd.int .i64) w A0_0 l0_0.length l0_0) (hc0_0 : l0_0.length ≤ c0_0) (h : Cd.f k l0_0 = some (r1, r2)) :
    Calls Tryz.prog 71 #[.agg #[.slice A0_0 l0_0.length c0_0]] w fun e w' => e = .returned (.tuple #[.int .i64 r1, .int .i64 r2]) ∧ Below w.heap.size w w' := by
 have hu26 := Tryz.underlying26
 have HR0_0 := Aa.mk hr0_0
 have HC0_0 := Aa.mk hc0_0
 clear hr0_0 hc0_0
 have HB := Aa.mk (Below.refl w.heap.size w)
 have H := h
 clear h
 unfold Cd.f at H
 obtain ⟨t102, A2, H⟩ := zO H
 try dsimp only at H
 have H' := Aa.mk H
 clear H
 go_enter Tryz.func71, Tryz.ntmps71
 go_wp2_with (first | ((with_reducible refine Ay (N := 1) rfl ?_); refine Be zr (N := 1) zr (cs := #[.slice A0_0 l0_0.length c0_0]) (t := 26) zg ?_; intro gb101 hg w3 hbox hb; have n_ := y4 (Ab (zB) hb) (hbox) ((zS hg : w.heap.size ≤ gb101)) ((zS hg : w.heap.size ≤ gb101)); clear HB; obtain ⟨HB, BK101, GW101, GE101⟩ := n_; clear hb hbox hg; obtain ⟨hcz4_0, hfz4_0⟩ := zw BK101.out) | (go_at_call 67; (with_reducible refine (Bl.calls k _ _ l0_0 t102 _ ?side1 HC0_0.out A2.out).mono ?_); (case side1 => exact zC (Kd.Bh HR0_0.out HB.out)); rintro e w5 ⟨rfl, hb⟩; have n_ := y2 (zb BK101.out hb) (Ab (zB) hb); clear BK101 HB; obtain ⟨BK101, HB⟩ := n_; (try clear hb); obtain ⟨hcz6_0, hfz6_0⟩ := zw BK101.out))
 repeat (go_quiet (first | ((with_reducible refine Ay (N := 1) rfl ?_); refine Be zr (N := 1) zr (cs := #[.slice A0_0 l0_0.length c0_0]) (t := 26) zg ?_; intro gb101 hg w3 hbox hb; have n_ := y4 (Ab (zB) hb) (hbox) ((zS hg : w.heap.size ≤ gb101)) ((zS hg : w.heap.size ≤ gb101)); clear HB; obtain ⟨HB, BK101, GW101, GE101⟩ := n_; clear hb hbox hg; obtain ⟨hcz4_0, hfz4_0⟩ := zw BK101.out) | (go_at_call 67; (with_reducible refine (Bl.calls k _ _ l0_0 t102 _ ?side1 HC0_0.out A2.out).mono ?_); (case side1 => exact zC (Kd.Bh HR0_0.out HB.out)); rintro e w5 ⟨rfl, hb⟩; have n_ := y2 (zb BK101.out hb) (Ab (zB) hb); clear BK101 HB; obtain ⟨BK101, HB⟩ := n_; (try clear hb); obtain ⟨hcz6_0, hfz6_0⟩ := zw BK101.out)); try go_wp2_with (first | ((with_reducible refine Ay (N := 1) rfl ?_); refine Be zr (N := 1) zr (cs := #[.slice A0_0 l0_0.length c0_0]) (t := 26) zg ?_; intro gb101 hg w3 hbox hb; have n_ := y4 (Ab (zB) hb) (hbox) ((zS hg : w.heap.size ≤ gb101)) ((zS hg : w.heap.size ≤ gb101)); clear HB; obtain ⟨HB, BK101, GW101, GE101⟩ := n_; clear hb hbox hg; obtain ⟨hcz4_0, hfz4_0⟩ := zw BK101.out) | (go_at_call 67; (with_reducible refine (Bl.calls k _ _ l0_0 t102 _ ?side1 HC0_0.out A2.out).mono ?_); (case side1 => exact zC (Kd.Bh HR0_0.out HB.out)); rintro e w5 ⟨rfl, hb⟩; have n_ := y2 (zb BK101.out hb) (Ab (zB) hb); clear BK101 HB; obtain ⟨BK101, HB⟩ := n_; (try clear hb); obtain ⟨hcz6_0, hfz6_0⟩ := zw BK101.out)))
 go_loopg [5, 14] k (fun kq v5 v14 w' => ∃ (x5_1 : Int) (x14_1 : Int), v5 = .int .i64 x5_1 ∧ v14 = .int .i64 x14_1 ∧ Aa (Cd.l0 kq t102 x5_1 l0_0 (l0_0.length : Int) x14_1 = some (r1, r2)) ∧ Aa (kq ≤ k) ∧ Aa (Below w.heap.size w w'))
 case atStart => exact ⟨(0), (0), zF, zF, H', ⟨Nat.le_refl _⟩, ⟨zB⟩⟩
 clear H'
 try clear hcz4_0
 try clear hcz6_0
 try clear hfz4_0
 try clear hfz6_0
 obtain ⟨x5_1, x14_1, rfl, rfl, HA, HK1, HB⟩ := hrel
 cases gk with
 | zero => exact absurd HA.out (by simp [Cd.l0])
 | succ k1 =>
  have H := HA.out
  clear HA
  simp only [Cd.l0] at H
  by_cases c7 : x14_1 < (l0_0.length : Int)
  case neg =>
   rw [if_neg c7] at H
   have c7b0 := decide_eq_false c7
   clear c7
   obtain ⟨t104, A11, H⟩ := zO H
   try dsimp only at H
   by_cases c12 : t104 = 0
   ·
    rw [if_pos c12] at H
    exact absurd H (by simp)
   rw [if_neg c12] at H
   have c12b0 : (t104 == 0) = false := beq_eq_false_iff_ne.mpr c12
   have c12b1 : (t104 != 0) = true := bne_iff_ne.mpr c12
   simp only [Option.some.injEq, Prod.mk.injEq] at H
   obtain ⟨rfl, rfl⟩ := H
   go_wp2_with (first | (go_at_call 46; (with_reducible refine (Cu.calls k1 x5_1 t102 t104 _ A11.out).mono ?_); rintro e w' ⟨rfl, ⟨nd, rfl⟩⟩; (try exact zd)))
   repeat (go_quiet (first | (go_at_call 46; (with_reducible refine (Cu.calls k1 x5_1 t102 t104 _ A11.out).mono ?_); rintro e w' ⟨rfl, ⟨nd, rfl⟩⟩; (try exact zd))); try go_wp2_with (first | (go_at_call 46; (with_reducible refine (Cu.calls k1 x5_1 t102 t104 _ A11.out).mono ?_); rintro e w' ⟨rfl, ⟨nd, rfl⟩⟩; (try exact zd))))
   go_ret2
   exact ⟨zE, zB⟩
  rw [if_pos c7] at H
  have c7b0 := decide_eq_true c7
  clear c7
  by_cases c8 : 0 ≤ x14_1
  case neg => rw [if_neg c8] at H; exact absurd H (by simp)
  rw [if_pos c8] at H
  have c8b0 := decide_eq_true c8
  clear c8
  by_cases c9 : x14_1 < (l0_0.length : Int)
  case neg => rw [if_neg c9] at H; exact absurd H (by simp)
  rw [if_pos c9] at H
  have c9b0 := decide_eq_true c9
  clear c9
  by_cases c10 : (rd l0_0 x14_1) = 0
  ·
   rw [if_pos c10] at H
   exact absurd H (by simp)
  rw [if_neg c10] at H
  have c10b0 : ((rd l0_0 x14_1) == 0) = false := beq_eq_false_iff_ne.mpr c10
  have c10b1 : ((rd l0_0 x14_1) != 0) = true := bne_iff_ne.mpr c10
  have H' := Aa.mk H
  clear H
  have p103 : 0 ≤ (x14_1 : Int) := zD
  have q103 : x14_1 < (l0_0.length : Int) := zD
  obtain ⟨ad103, e103, hx103_0⟩ := Kd.Cv HR0_0.out x14_1 p103 q103
  cases e103
  replace hx103_0 := (HB.out.cell (World.block_lt_of_cell? w _ hx103_0)).trans hx103_0
  replace p103 := eq_true p103
  replace q103 := eq_true q103
  go_wp2
  repeat (go_quiet (fail); try go_wp2)
  go_roundg k1
  case measure => have := HK1.out; omega
  case rel => exact ⟨(wrap64 (x5_1 + (wrap64 (Int.tdiv t102 (rd l0_0 x14_1))))), (wrap64 (x14_1 + 1)), zF, zF, H', ⟨by have := HK1.out; omega⟩, ⟨zB⟩⟩
def Dx.f (k : Nat) (l0_0 : List Int) : Option (Bool) := (Cd.f k l0_0).bind fun bt102 => (some (decide (bt102.1 ≤ bt102.2)))
theorem Dx.mono : ∀ a0 k, LeO (Dx.f k a0) (Dx.f (k + 1) a0) := by
 intro a0 k
 unfold Dx.f
 repeat' first | (with_reducible first | exact Cd.mono _ _ | exact LeO.refl _ | exact LeO.none _ | refine LeO.ite ?_ ?_ | refine LeO.bind ?_ (fun _ => ?_)) | exact Cd.mono _ _ | exact LeO.none _ | refine LeO.ite ?_ ?_ | refine LeO.bind ?_ (fun _ => ?_)
theorem Dx.calls (k : Nat) (A0_0 : Option Addr) (c0_0 : Nat) (l0_0 : List Int) (r : Bool) (w : World) (hr0_0 : Kd.C (Kd.int .i64) w A0_0 l0_0.length l0_0) (hc0_0 : l0_0.length ≤ c0_0) (h : Dx.f k l0_0 = some r) :
    Calls Tryz.prog 40 #[.agg #[.slice A0_0 l0_0.length c0_0]] w fun e w' => e = .returned (.bool r) ∧ Below w.heap.size w w' := by
 have hu26 := Tryz.underlying26
 have HR0_0 := Aa.mk hr0_0
 have HC0_0 := Aa.mk hc0_0
 clear hr0_0 hc0_0
 have HB := Aa.mk (Below.refl w.heap.size w)
 have H := h
 clear h
 unfold Dx.f at H
 obtain ⟨⟨t102, t103⟩, A2, H⟩ := zO H
 try dsimp only at H
 obtain rfl := Option.some.inj H
 go_enter Tryz.func40, Tryz.ntmps40
 go_wp2_with (first | ((with_reducible refine Ay (N := 1) rfl ?_); refine Be zr (N := 1) zr (cs := #[.slice A0_0 l0_0.length c0_0]) (t := 26) zg ?_; intro gb101 hg w3 hbox hb; have n_ := y4 (Ab (zB) hb) (hbox) ((zS hg : w.heap.size ≤ gb101)) ((zS hg : w.heap.size ≤ gb101)); clear HB; obtain ⟨HB, BK101, GW101, GE101⟩ := n_; clear hb hbox hg; obtain ⟨hcz4_0, hfz4_0⟩ := zw BK101.out) | (refine gK 71 ?_; refine gL 7 Tryz.func71 #[.agg #[.slice A0_0 l0_0.length c0_0]] ?_; (with_reducible refine (Cd.calls k _ _ l0_0 t102 t103 _ ?side1 HC0_0.out A2.out).mono ?_); (case side1 => exact zC (Kd.Bh HR0_0.out HB.out)); rintro e w5 ⟨rfl, hb⟩; refine ⟨_, rfl, ?_⟩; have n_ := y2 (zb BK101.out hb) (Ab (zB) hb); clear BK101 HB; obtain ⟨BK101, HB⟩ := n_; (try clear hb)))
 go_ret
 exact ⟨zE, zB⟩
def Ax.l0 : Nat → List Int → Int → Int → Int → Option (Int)
 | 0, _, _, _, _ => none
 | k + 1, x0, x1, x7, x8 => if x8 < x7 then (if 0 ≤ x8 then (if x8 < (x0.length : Int) then (if x1 = (rd x0 x8) then (some x8) else (Ax.l0 k x0 x1 x7 (wrap64 (x8 + 1)))) else (none)) else (none)) else (some (-1))
def Ax.f (k : Nat) (l0 : List Int) (a1 : Int) : Option (Int) := Ax.l0 k l0 a1 (l0.length : Int) 0
theorem Ax.mono_l : ∀ k, (∀ y0 y1 y2 y3, LeO (Ax.l0 k y0 y1 y2 y3) (Ax.l0 (k + 1) y0 y1 y2 y3))
 | 0 => fun _ _ _ _ r h => by simp [Ax.l0] at h
 | k + 1 => by
  have ih0 := Ax.mono_l k
  ·
   intro y0 y1 y2 y3
   unfold Ax.l0
   repeat' first | (with_reducible first | exact ih0 _ _ _ _ | exact LeO.refl _ | exact LeO.none _ | refine LeO.ite ?_ ?_ | refine LeO.bind ?_ (fun _ => ?_)) | exact ih0 _ _ _ _ | exact LeO.none _ | refine LeO.ite ?_ ?_ | refine LeO.bind ?_ (fun _ => ?_)
theorem Ax.mono : ∀ a0 a1 k, LeO (Ax.f k a0 a1) (Ax.f (k + 1) a0 a1) := by
 intro a0 a1 k
 have ih0 := Ax.mono_l k
 unfold Ax.f
 repeat' first | (with_reducible first | exact ih0 _ _ _ _ | exact LeO.refl _ | exact LeO.none _ | refine LeO.ite ?_ ?_ | refine LeO.bind ?_ (fun _ => ?_)) | exact ih0 _ _ _ _ | exact LeO.none _ | refine LeO.ite ?_ ?_ | refine LeO.bind ?_ (fun _ => ?_)
theorem Ax.calls (k : Nat) (A0 : Option Addr) (c0 : Nat) (l0 : List Int) (a1 : Int) (r : Int) (w : World) (hr0 : Kd.C (Kd.int .i64) w A0 l0.length l0) (hc0 : l0.length ≤ c0) (h : Ax.f k l0 a1 = some r) :
    Calls Tryz.prog 72 #[.slice A0 l0.length c0, .int .i64 a1] w fun e w' => e = .returned (.int .i64 r) ∧ Ct w w' := by
 have HR0 := Aa.mk hr0
 have HC0 := Aa.mk hc0
 clear hr0 hc0
 have H := h
 clear h
 unfold Ax.f at H
 have H' := Aa.mk H
 clear H
 go_enter Tryz.func72, Tryz.ntmps72
 go_wp2
 go_loopg [8] k (fun kq v8 w' => ∃ (x8_1 : Int), v8 = .int .i64 x8_1 ∧ Aa (Ax.l0 kq l0 a1 (l0.length : Int) x8_1 = some r) ∧ Aa (kq ≤ k) ∧ Ct w w')
 case atStart => exact ⟨(0), zF, H', ⟨Nat.le_refl _⟩, by repeat (first | exact Ct.refl _ | apply Ct.step)⟩
 clear H'
 obtain ⟨x8_1, rfl, HA, HK1, ⟨m1, rfl⟩⟩ := hrel
 cases gk with
 | zero => exact absurd HA.out (by simp [Ax.l0])
 | succ k1 =>
  have H := HA.out
  clear HA
  simp only [Ax.l0] at H
  by_cases c3 : x8_1 < (l0.length : Int)
  case neg =>
   rw [if_neg c3] at H
   have c3b0 := decide_eq_false c3
   clear c3
   obtain rfl := Option.some.inj H
   go_wp2
   go_ret
   exact ⟨by first | rfl | (simp; done) | (simp [*]; done), by repeat (first | exact Ct.refl _ | apply Ct.step)⟩
  rw [if_pos c3] at H
  have c3b0 := decide_eq_true c3
  clear c3
  by_cases c4 : 0 ≤ x8_1
  case neg => rw [if_neg c4] at H; exact absurd H (by simp)
  rw [if_pos c4] at H
  have c4b0 := decide_eq_true c4
  clear c4
  by_cases c5 : x8_1 < (l0.length : Int)
  case neg => rw [if_neg c5] at H; exact absurd H (by simp)
  rw [if_pos c5] at H
  have c5b0 := decide_eq_true c5
  clear c5
  by_cases c6 : a1 = (rd l0 x8_1)
  ·
   rw [if_pos c6] at H
   have c6b0 : (a1 == (rd l0 x8_1)) = true := beq_iff_eq.mpr c6
   have c6b1 : (a1 != (rd l0 x8_1)) = false := bne_eq_false_iff_eq.mpr c6
   clear c6
   obtain rfl := Option.some.inj H
   have p101 : 0 ≤ (x8_1 : Int) := zD
   have q101 : x8_1 < (l0.length : Int) := zD
   obtain ⟨ad101, e101, hx101_0⟩ := Kd.Cv HR0.out x8_1 p101 q101
   cases e101
   replace p101 := eq_true p101
   replace q101 := eq_true q101
   go_wp2
   go_ret
   exact ⟨by first | rfl | (simp; done) | (simp [*]; done), by repeat (first | exact Ct.refl _ | apply Ct.step)⟩
  rw [if_neg c6] at H
  have c6b0 : (a1 == (rd l0 x8_1)) = false := beq_eq_false_iff_ne.mpr c6
  have c6b1 : (a1 != (rd l0 x8_1)) = true := bne_iff_ne.mpr c6
  have H' := Aa.mk H
  clear H
  have p101 : 0 ≤ (x8_1 : Int) := zD
  have q101 : x8_1 < (l0.length : Int) := zD
  obtain ⟨ad101, e101, hx101_0⟩ := Kd.Cv HR0.out x8_1 p101 q101
  cases e101
  replace p101 := eq_true p101
  replace q101 := eq_true q101
  go_wp2
  go_roundg k1
  case measure => have := HK1.out; omega
  case rel => exact ⟨(wrap64 (x8_1 + 1)), zF, H', ⟨by have := HK1.out; omega⟩, by repeat (first | exact Ct.refl _ | apply Ct.step)⟩
mutual
def Aw.l0 : Nat → List Int → List Int → Int → Int → List Int → Option (List Int)
 | 0, _, _, _, _, _ => none
 | k + 1, x3, x13, x14, x15, x102000 => if x15 < x14 then (if 0 ≤ x15 then (if x15 < (x13.length : Int) then ((Ax.f k x3 (-1)).bind fun t113 => (Aw.l1 k x3 (rd x13 x15) t113 x13 x14 x15 x102000)) else (none)) else (none)) else (some x3)
def Aw.l1 : Nat → List Int → Int → Int → List Int → Int → Int → List Int → Option (List Int)
 | 0, _, _, _, _, _, _, _ => none
 | k + 1, x3, x5, x6, x13, x14, x15, x102000 => if x6 < (x3.length : Int) then (if 0 ≤ x6 then (if 0 ≤ x5 then (if x5 < (x102000.length : Int) then (Aw.l1 k (x3.set (x6 : Int).toNat x5) x5 (wrap64 (x6 + (rd x102000 x5))) x13 x14 x15 x102000) else (none)) else (none)) else (none)) else (Aw.l0 k x3 x13 x14 (wrap64 (x15 + 1)) x102000)
end
def Aw.f (k : Nat) (l0_0 : List Int) : Option (List Int) := (Az.f k l0_0).bind fun t105 => ((Dr.f (([(-1)] : List Int)) t105).bind fun t106 => ((Cc.f k l0_0).bind fun t109 => (Aw.l0 k t106 t109 (t109.length : Int) 0 l0_0)))
theorem Aw.mono_l : ∀ k, (∀ y0 y1 y2 y3 y4, LeO (Aw.l0 k y0 y1 y2 y3 y4) (Aw.l0 (k + 1) y0 y1 y2 y3 y4)) ∧ (∀ y0 y1 y2 y3 y4 y5 y6, LeO (Aw.l1 k y0 y1 y2 y3 y4 y5 y6) (Aw.l1 (k + 1) y0 y1 y2 y3 y4 y5 y6))
 | 0 => ⟨fun _ _ _ _ _ r h => by simp [Aw.l0] at h, fun _ _ _ _ _ _ _ r h => by simp [Aw.l1] at h⟩
 | k + 1 => by
  obtain ⟨ih0, ih1⟩ := Aw.mono_l k
  refine ⟨?_, ?_⟩ <;> intros <;> (first | unfold Aw.l0 | unfold Aw.l1) <;> repeat' first | (with_reducible first | exact ih0 _ _ _ _ _ | exact ih1 _ _ _ _ _ _ _ | exact Cc.mono _ _ | exact Ax.mono _ _ _ | exact Az.mono _ _ | exact LeO.refl _ | exact LeO.none _ | refine LeO.ite ?_ ?_ | refine LeO.bind ?_ (fun _ => ?_)) | exact ih0 _ _ _ _ _ | exact ih1 _ _ _ _ _ _ _ | exact Cc.mono _ _ | exact Ax.mono _ _ _ | exact Az.mono _ _ | exact LeO.none _ | refine LeO.ite ?_ ?_ | refine LeO.bind ?_ (fun _ => ?_)
theorem Aw.mono : ∀ a0 k, LeO (Aw.f k a0) (Aw.f (k + 1) a0) := by
 intro a0 k
 obtain ⟨ih0, ih1⟩ := Aw.mono_l k
 unfold Aw.f
 repeat' first | (with_reducible first | exact ih0 _ _ _ _ _ | exact ih1 _ _ _ _ _ _ _ | exact Cc.mono _ _ | exact Ax.mono _ _ _ | exact Az.mono _ _ | exact LeO.refl _ | exact LeO.none _ | refine LeO.ite ?_ ?_ | refine LeO.bind ?_ (fun _ => ?_)) | exact ih0 _ _ _ _ _ | exact ih1 _ _ _ _ _ _ _ | exact Cc.mono _ _ | exact Ax.mono _ _ _ | exact Az.mono _ _ | exact LeO.none _ | refine LeO.ite ?_ ?_ | refine LeO.bind ?_ (fun _ => ?_)
theorem Aw.calls (k : Nat) (A0_0 : Option Addr) (c0_0 : Nat) (l0_0 : List Int) (r : List Int) (w : World) (hr0_0 : Kd.C (Kd.int .i64) w A0_0 l0_0.length l0_0) (hc0_0 : l0_0.length ≤ c0_0) (h : Aw.f k l0_0 = some r) :
    Calls Tryz.prog 41 #[.agg #[.slice A0_0 l0_0.length c0_0]] w fun e w' => ∃ v0_ : Value, e = .returned (v0_) ∧ Kd.R (Kd.int .i64) 2 w' w.heap.size (fun _ => True) v0_ r ∧ Below w.heap.size w w' := by
 have hu26 := Tryz.underlying26
 have HR0_0 := Aa.mk hr0_0
 have HC0_0 := Aa.mk hc0_0
 clear hr0_0 hc0_0
 have HB := Aa.mk (Below.refl w.heap.size w)
 have H := h
 clear h
 unfold Aw.f at H
 obtain ⟨y102, hy102⟩ : ∃ y_ : List Int, y_ = (([(-1)] : List Int)) := ⟨_, rfl⟩
 replace H : ((Az.f k l0_0).bind fun t105 => ((Dr.f y102 t105).bind fun t106 => ((Cc.f k l0_0).bind fun t109 => (Aw.l0 k t106 t109 (t109.length : Int) 0 l0_0)))) = some r := zH hy102
 have Ny102 := Aa.mk hy102
 clear hy102
 obtain ⟨t105, A2, H⟩ := zO H
 try dsimp only at H
 obtain ⟨t106, A3, H⟩ := zO H
 try dsimp only at H
 obtain ⟨t109, A4, H⟩ := zO H
 try dsimp only at H
 have H' := Aa.mk H
 clear H
 go_enter Tryz.func41, Tryz.ntmps41
 go_wp2_with (first | ((with_reducible refine Ay (N := 1) rfl ?_); refine Be zr (N := 1) zr (cs := #[.slice A0_0 l0_0.length c0_0]) (t := 26) zg ?_; intro gb101 hg w5 hbox hb; have n_ := y4 (Ab (zB) hb) (hbox) ((zS hg : w.heap.size ≤ gb101)) ((zS hg : w.heap.size ≤ gb101)); clear HB; obtain ⟨HB, BK101, GW101, GE101⟩ := n_; clear hb hbox hg) | ((with_reducible refine Ay (N := 7) rfl ?_); refine Kd.Kv (Kd.int .i64) _ 2 ?hg (N := 7) ?hd (xs := ([(-1)] : List Int)) (inner := [.int .i64 (-1)]) (ok := fun _ => True) (okp := fun _ => True) ?hr ?hp (fun _ hk => hk) trivial (Below.refl _ _) (Nat.le_refl _) (by simp) ?_; (case hd => rfl); (case hg => rfl); (case hr => first | (go_simp; done) | (go_simp; rfl)); (case hp => exact (Dk.one (show Kd.M (Kd.int .i64) _ _ _ (-1) [.int .i64 (-1)] from rfl) (Dk.none _ _))); intro v103 w6 ho7 hb hg_ hnew_; clear hg_ hnew_; (first | rw [← Ny102.out] at ho7 | (simp only [Int.reduceToNat] at ho7; rw [← Ny102.out] at ho7)); have n_ := y3 (Kd.Bk ho7 (An (zB))) (zb BK101.out hb) (Ab (zB) hb); clear BK101 HB; obtain ⟨HO104, BK101, HB⟩ := n_; clear hb ho7; obtain ⟨hcz8_0, hfz8_0⟩ := zw BK101.out) | (refine gK 45 ?_; refine gL 10 Tryz.func45 #[.slice A0_0 l0_0.length c0_0] ?_; (with_reducible refine (Az.calls k _ _ l0_0 t105 _ ?side1 HC0_0.out A2.out).mono ?_); (case side1 => exact zC (Kd.Bh HR0_0.out HB.out)); rintro e w9 ⟨rfl, hb⟩; refine ⟨_, rfl, ?_⟩; have n_ := y3 (Kd.Ap (zR HO104.out) hb) (zb BK101.out hb) (Ab (zB) hb); clear HO104 BK101 HB; obtain ⟨HO104, BK101, HB⟩ := n_; (try clear hb); obtain ⟨Ao10, co10, eo10⟩ := Kd.Bb HO104.out; subst eo10) | (refine gK 48 ?_; refine gL 11 Tryz.func48 #[.slice Ao10 y102.length co10, .int .i64 t105] ?_; (with_reducible refine (Dr.calls _ _ y102 t105 t106 _ ?side1 ?side2 A3.out).mono ?_); (case side1 => exact zC (Kd.Ae HO104.out).2.2); (case side2 => exact (Kd.Ae HO104.out).2.1); rintro e w11 ⟨v107, rfl, ho0, hb⟩; refine ⟨_, rfl, ?_⟩; have n_ := y4 (Kd.Bu (zR HO104.out) (Kd.Bs ho0) hb) (Kd.Bk (Kd.Bt ho0 (Kd.Cx (zR HO104.out))) (An (zB))) (zb BK101.out hb) (Ab (zB) hb); clear HO104 BK101 HB; obtain ⟨HO104, HO108, BK101, HB⟩ := n_; (try clear ho0 hb); obtain ⟨hcz12_0, hfz12_0⟩ := zw BK101.out) | (refine gK 69 ?_; refine gL 13 Tryz.func69 #[.agg #[.slice A0_0 l0_0.length c0_0]] ?_; (with_reducible refine (Cc.calls k _ _ l0_0 t109 _ ?side1 HC0_0.out A4.out).mono ?_); (case side1 => exact zC (Kd.Bh HR0_0.out HB.out)); rintro e w13 ⟨v110, rfl, ho0, hb⟩; refine ⟨_, rfl, ?_⟩; have n_ := y5 (Kd.Bu (zR HO104.out) (Kd.Bs ho0) hb) (Kd.Bu (zR HO108.out) (Kd.Bs ho0) hb) (Kd.Bk (Kd.Bt (Kd.Bt ho0 (Kd.Cx (zR HO104.out))) (Kd.Cx (zR HO108.out))) (An (zB))) (zb BK101.out hb) (Ab (zB) hb); clear HO104 HO108 BK101 HB; obtain ⟨HO104, HO108, HO111, BK101, HB⟩ := n_; (try clear ho0 hb); obtain ⟨Ao14, co14, eo14⟩ := Kd.Bb HO111.out; subst eo14))
 go_loopg [15] k (fun kq v15 w' => ∃ (x3_1 : List Int) (x15_1 : Int), v15 = .int .i64 x15_1 ∧ Aa (Aw.l0 kq x3_1 t109 (t109.length : Int) x15_1 l0_0 = some r) ∧ Aa (kq ≤ k) ∧ Aa (Kd.R (Kd.int .i64) 2 w' w.heap.size (fun k_ => some k_ ≠ ((.slice Ao14 t109.length co14) : Value).ownBlock) v107 x3_1) ∧ Aa (Kd.R (Kd.int .i64) 2 w' w.heap.size (fun k_ => some k_ ≠ (v107 : Value).ownBlock) (.slice Ao14 t109.length co14) t109) ∧ Aa (w'.heap[gb101]? = some (.cells #[(.slice A0_0 l0_0.length c0_0)] 26 (0, 0))) ∧ Aa (Below w.heap.size w w'))
 case atStart => exact ⟨(t106), (0), zF, H', ⟨Nat.le_refl _⟩, ⟨by refine zR ?_; exact Kd.Ai HO108.out (fun _ hk => hk.2)⟩, ⟨by refine zR ?_; exact Kd.Ai HO111.out (fun _ hk => hk.2)⟩, ⟨zG BK101.out⟩, ⟨zB⟩⟩
 clear H'
 try clear hcz12_0
 try clear hcz8_0
 try clear hfz12_0
 try clear hfz8_0
 obtain ⟨x3_1, x15_1, rfl, HA, HK1, HO_3, HO_13, BK101, HB⟩ := hrel
 cases gk with
 | zero => exact absurd HA.out (by simp [Aw.l0])
 | succ k1 =>
  have H := HA.out
  clear HA
  simp only [Aw.l0] at H
  by_cases c15 : x15_1 < (t109.length : Int)
  case neg =>
   rw [if_neg c15] at H
   have c15b0 := decide_eq_false c15
   clear c15
   obtain rfl := Option.some.inj H
   go_wp2
   go_ret
   exact ⟨_, zE, by refine zR ?_; exact Kd.Ai HO_3.out (fun _ hk => trivial), zB⟩
  rw [if_pos c15] at H
  have c15b0 := decide_eq_true c15
  clear c15
  by_cases c16 : 0 ≤ x15_1
  case neg => rw [if_neg c16] at H; exact absurd H (by simp)
  rw [if_pos c16] at H
  have c16b0 := decide_eq_true c16
  clear c16
  by_cases c17 : x15_1 < (t109.length : Int)
  case neg => rw [if_neg c17] at H; exact absurd H (by simp)
  rw [if_pos c17] at H
  have c17b0 := decide_eq_true c17
  clear c17
  obtain ⟨t113, A18, H⟩ := zO H
  try dsimp only at H
  have H' := Aa.mk H
  clear H
  have p112 : 0 ≤ (x15_1 : Int) := zD
  have q112 : x15_1 < (t109.length : Int) := zD
  obtain ⟨ad112, e112, hx112_0⟩ := Kd.Cv (Kd.Ae HO_13.out).2.2 x15_1 p112 q112
  cases e112
  replace p112 := eq_true p112
  replace q112 := eq_true q112
  obtain ⟨Ao19, co19, eo19⟩ := Kd.Bb HO_3.out
  subst eo19
  go_wp2_with (first | (refine gK 72 ?_; refine gL 20 Tryz.func72 #[.slice Ao19 x3_1.length co19, .int .i64 (-1)] ?_; (with_reducible refine (Ax.calls k1 _ _ x3_1 (-1) t113 _ ?side1 ?side2 A18.out).mono ?_); (case side1 => exact zC (Kd.Ae HO_3.out).2.2); (case side2 => exact (Kd.Ae HO_3.out).2.1); rintro e w' ⟨rfl, ⟨nd, rfl⟩⟩; refine ⟨_, rfl, ?_⟩))
  go_loopg [6] k1 (fun kq v6 w' => ∃ (x3_2 : List Int) (x6_2 : Int), v6 = .int .i64 x6_2 ∧ Aa (Aw.l1 kq x3_2 (rd t109 x15_1) x6_2 t109 (t109.length : Int) x15_1 l0_0 = some r) ∧ Aa (kq ≤ k1) ∧ Aa (Kd.R (Kd.int .i64) 2 w' w.heap.size (fun k_ => some k_ ≠ ((.slice (some ad112) t109.length co14) : Value).ownBlock) (.slice Ao19 x3_1.length co19) x3_2) ∧ Aa (Kd.R (Kd.int .i64) 2 w' w.heap.size (fun k_ => some k_ ≠ ((.slice Ao19 x3_1.length co19) : Value).ownBlock) (.slice (some ad112) t109.length co14) t109) ∧ Aa (w'.heap[gb101]? = some (.cells #[(.slice A0_0 l0_0.length c0_0)] 26 (0, 0))) ∧ Aa (Below w.heap.size w w'))
  case atStart => exact ⟨(x3_1), (t113), zF, H', ⟨Nat.le_refl _⟩, ⟨zR HO_3.out⟩, ⟨zR HO_13.out⟩, ⟨zG BK101.out⟩, ⟨zB⟩⟩
  clear H'
  try clear c15
  try clear c15b0
  try clear c16
  try clear c16b0
  try clear c17
  try clear c17b0
  try clear hcz12_0
  try clear hcz8_0
  try clear hfz12_0
  try clear hfz8_0
  try clear hx112_0
  try clear p112
  try clear q112
  obtain ⟨x3_2, x6_2, rfl, HA, HK2, HO_3, HO_13, BK101, HB⟩ := hrel
  have hl3_2 := (Kd.Ae HO_3.out).1
  rw [hl3_2] at HO_3
  (try simp only [hl3_2])
  (try simp only [hl3_2] at BK101)
  (try simp only [hl3_2] at HO_13)
  cases gk with
  | zero => exact absurd HA.out (by simp [Aw.l1])
  | succ k2 =>
   have H := HA.out
   clear HA
   simp only [Aw.l1] at H
   by_cases c20 : x6_2 < (x3_2.length : Int)
   case neg =>
    rw [if_neg c20] at H
    have c20b0 := decide_eq_false c20
    clear c20
    have H' := Aa.mk H
    clear H
    go_wp2
    (try simp only [← hl3_2])
    go_roundg k2
    case measure => have := HK1.out; have := HK2.out; omega
    case rel => exact ⟨(x3_2), (wrap64 (x15_1 + 1)), zF, H', ⟨by have := HK1.out; have := HK2.out; omega⟩, ⟨by (try simp only [hl3_2]); refine zR ?_; exact HO_3.out⟩, ⟨by (try simp only [hl3_2]); refine zR ?_; exact HO_13.out⟩, ⟨by (try simp only [hl3_2]); refine zG ?_; exact BK101.out⟩, ⟨zB⟩⟩
   rw [if_pos c20] at H
   have c20b0 := decide_eq_true c20
   clear c20
   by_cases c21 : 0 ≤ x6_2
   case neg => rw [if_neg c21] at H; exact absurd H (by simp)
   rw [if_pos c21] at H
   have c21b0 := decide_eq_true c21
   clear c21
   obtain ⟨y114, hy114⟩ : ∃ y_ : List Int, y_ = (x3_2.set (x6_2 : Int).toNat (rd t109 x15_1)) := ⟨_, rfl⟩
   replace H : (if 0 ≤ (rd t109 x15_1) then (if (rd t109 x15_1) < (l0_0.length : Int) then (Aw.l1 k2 y114 (rd t109 x15_1) (wrap64 (x6_2 + (rd l0_0 (rd t109 x15_1)))) t109 (t109.length : Int) x15_1 l0_0) else (none)) else (none)) = some r := zH hy114
   have Ny114 := Aa.mk hy114
   clear hy114
   by_cases c23 : 0 ≤ (rd t109 x15_1)
   case neg => rw [if_neg c23] at H; exact absurd H (by simp)
   rw [if_pos c23] at H
   have c23b0 := decide_eq_true c23
   clear c23
   by_cases c24 : (rd t109 x15_1) < (l0_0.length : Int)
   case neg => rw [if_neg c24] at H; exact absurd H (by simp)
   rw [if_pos c24] at H
   have c24b0 := decide_eq_true c24
   clear c24
   have H' := Aa.mk H
   clear H
   have p22 : 0 ≤ (x6_2 : Int) := zD
   have q22 : (x6_2 : Int) < ((x3_2.length : Int) : Int) := zD
   obtain ⟨go22, co22, eo22, gb22, gl22, cl22, HG22⟩ := Kd.Lk HO_3.out (by omega)
   (first | cases eo22 | (injection eo22 with ea_ en_ ec_; (first | subst ea_ | (injection ea_ with ea_; subst ea_)); subst ec_; clear en_))
   have GB22 := Aa.mk gb22
   have GG22 := Aa.mk HG22
   clear gb22 gl22 HG22
   obtain ⟨hx22_0, hf22_0⟩ := Kd.Fx 0 HO_3.out (x6_2 : Int) p22 q22
   replace p22 := eq_true p22
   replace q22 := eq_true q22
   have HP25 := Kd.Pu HO_3.out (x6_2 : Int) (rd t109 x15_1)
   go_wp2_with (first | ((with_reducible refine Ku (t := 2) (p := 35) rfl ?_); refine Kh (t := 2) (p := 35) (v := ?vo_w26) (w1 := (wr.setCell ⟨go22, (x6_2 : Int).toNat, none⟩ (.int .i64 (rd t109 x15_1)))) ?hg ?ho ?hn ?hr ?_; (case ho => rfl); (case hg => rfl); (case hn => rfl); (case hr => first | (go_simp; done) | (go_simp; rfl)); intro w26 hw; have hg : wr.grownBy w26 (some go22) := (by rw [hw]; exact HP25.2); have hp_ : Kd.R (Kd.int .i64) 2 w26 w.heap.size (fun k_ => some k_ ≠ (.slice (some ad112) t109.length co14 : Value).ownBlock) (.slice (some ⟨go22, 0, none⟩) x3_2.length co19) y114 := (by rw [hw, Ny114.out]; exact HP25.1); clear HP25; have n_ := y4 (hp_) (Kd.Cp (v := (.slice (some ⟨go22, 0, none⟩) x3_2.length co19)) (v1 := (.slice (some ⟨go22, 0, none⟩) x3_2.length co19)) (ok := (fun _ => True)) (by refine zR ?_; exact Kd.Ai HO_13.out (fun _ hk => ⟨trivial, hk⟩)) hg (.inl rfl)) (Cm (g := gb101) (o := .cells #[.slice A0_0 l0_0.length c0_0] 26 (0, 0)) (zG BK101.out) hg (Kd.Em HO_3.out BK101.out (by decide))) ((by rw [hw]; exact Gl (HB.out) GB22.out : Below w.heap.size w w26)); clear HO_3 HO_13 BK101 HB; obtain ⟨HO_3, HO_13, BK101, HB⟩ := n_; clear hg hw hp_; obtain ⟨hcz27_0, hfz27_0⟩ := zw BK101.out; have p115 : 0 ≤ ((rd t109 x15_1) : Int) := zD; have q115 : (rd t109 x15_1) < (l0_0.length : Int) := zD; obtain ⟨ad115, e115, hx115_0⟩ := Kd.Cv HR0_0.out (rd t109 x15_1) p115 q115; cases e115; replace hx115_0 := (HB.out.cell (World.block_lt_of_cell? w _ hx115_0)).trans hx115_0; replace p115 := eq_true p115; replace q115 := eq_true q115))
   (try simp only [← hl3_2])
   go_roundg k2
   case measure => have := HK1.out; have := HK2.out; omega
   case rel => exact ⟨(y114), (wrap64 (x6_2 + (rd l0_0 (rd t109 x15_1)))), zF, H', ⟨by have := HK1.out; have := HK2.out; omega⟩, ⟨by (try simp only [hl3_2]); refine zR ?_; exact HO_3.out⟩, ⟨by (try simp only [hl3_2]); refine zR ?_; exact Kd.Ai HO_13.out (fun _ hk => hk.2)⟩, ⟨by (try simp only [hl3_2]); refine zG ?_; exact BK101.out⟩, ⟨zB⟩⟩
def Ci.l0 : Nat → Int → List Int → Option (List Int × Int × Int)
 | 0, _, _ => none
 | k + 1, x6, x102000 => (Ba.f k x102000).bind fun t103 => (if x6 ≤ t103 then ((Bd.f k x102000 x6).bind fun t104 => ((Dx.f k t104).bind fun t108 => (if t108 = true then ((Aw.f k t104).bind fun t109 => (some (t109, x6, 0))) else (Ci.l0 k (wrap64 (x6 + 1)) x102000)))) else (some (([] : List Int), 0, 4)))
def Ci.f (k : Nat) (l0_0 : List Int) : Option (List Int × Int × Int) := (Dg.f l0_0 true).bind fun t102 => (if t102 = 0 then (Ci.l0 k 1 l0_0) else (some (([] : List Int), 0, t102)))
theorem Ci.mono_l : ∀ k, (∀ y0 y1, LeO (Ci.l0 k y0 y1) (Ci.l0 (k + 1) y0 y1))
 | 0 => fun _ _ r h => by simp [Ci.l0] at h
 | k + 1 => by
  have ih0 := Ci.mono_l k
  ·
   intro y0 y1
   unfold Ci.l0
   repeat' first | (with_reducible first | exact ih0 _ _ | exact Aw.mono _ _ | exact Dx.mono _ _ | exact Bd.mono _ _ _ | exact Ba.mono _ _ | exact LeO.refl _ | exact LeO.none _ | refine LeO.ite ?_ ?_ | refine LeO.bind ?_ (fun _ => ?_)) | exact ih0 _ _ | exact Aw.mono _ _ | exact Dx.mono _ _ | exact Bd.mono _ _ _ | exact Ba.mono _ _ | exact LeO.none _ | refine LeO.ite ?_ ?_ | refine LeO.bind ?_ (fun _ => ?_)
theorem Ci.mono : ∀ a0 k, LeO (Ci.f k a0) (Ci.f (k + 1) a0) := by
 intro a0 k
 have ih0 := Ci.mono_l k
 unfold Ci.f
 repeat' first | (with_reducible first | exact ih0 _ _ | exact Aw.mono _ _ | exact Dx.mono _ _ | exact Bd.mono _ _ _ | exact Ba.mono _ _ | exact LeO.refl _ | exact LeO.none _ | refine LeO.ite ?_ ?_ | refine LeO.bind ?_ (fun _ => ?_)) | exact ih0 _ _ | exact Aw.mono _ _ | exact Dx.mono _ _ | exact Bd.mono _ _ _ | exact Ba.mono _ _ | exact LeO.none _ | refine LeO.ite ?_ ?_ | refine LeO.bind ?_ (fun _ => ?_)
theorem Ci.calls (k : Nat) (A0_0 : Option Addr) (c0_0 : Nat) (l0_0 : List Int) (r1 : List Int) (r2 : Int) (r3 : Int) (w : World) (hr0_0 : Kd.C (Kd.int .i64) w A0_0 l0_0.length l0_0) (hc0_0 : l0_0.length ≤ c0_0) (h : Ci.f k l0_0 = some (r1, r2, r3)) :
    Calls Tryz.prog 9 #[.agg #[.slice A0_0 l0_0.length c0_0]] w fun e w' => ∃ v0_ : Value, e = .returned (.tuple #[v0_, .int .i64 r2, .int .i64 r3]) ∧ Kd.R (Kd.int .i64) 2 w' w.heap.size (fun _ => True) v0_ r1 ∧ Below w.heap.size w w' := by
 have hu26 := Tryz.underlying26
 have HR0_0 := Aa.mk hr0_0
 have HC0_0 := Aa.mk hc0_0
 clear hr0_0 hc0_0
 have HB := Aa.mk (Below.refl w.heap.size w)
 have H := h
 clear h
 unfold Ci.f at H
 obtain ⟨t102, A2, H⟩ := zO H
 try dsimp only at H
 by_cases c3 : t102 = 0
 case neg =>
  rw [if_neg c3] at H
  have c3b0 : (t102 == 0) = false := beq_eq_false_iff_ne.mpr c3
  have c3b1 : (t102 != 0) = true := bne_iff_ne.mpr c3
  simp only [Option.some.injEq, Prod.mk.injEq] at H
  obtain ⟨rfl, rfl, rfl⟩ := H
  go_enter Tryz.func9, Tryz.ntmps9
  go_wp2_with (first | ((with_reducible refine Ay (N := 1) rfl ?_); refine Be zr (N := 1) zr (cs := #[.slice A0_0 l0_0.length c0_0]) (t := 26) zg ?_; intro gb101 hg w35 hbox hb; have n_ := y4 (Ab (zB) hb) (hbox) ((zS hg : w.heap.size ≤ gb101)) ((zS hg : w.heap.size ≤ gb101)); clear HB; obtain ⟨HB, BK101, GW101, GE101⟩ := n_; clear hb hbox hg; obtain ⟨hcz36_0, hfz36_0⟩ := zw BK101.out) | (refine gK 31 ?_; refine gL 9 Tryz.func31 #[.agg #[.slice A0_0 l0_0.length c0_0], .bool true] ?_; (with_reducible refine (Dg.calls _ _ l0_0 true t102 _ ?side1 HC0_0.out A2.out).mono ?_); (case side1 => exact zC (Kd.Bh HR0_0.out HB.out)); rintro e w37 ⟨rfl, hb⟩; refine ⟨_, rfl, ?_⟩; have n_ := y2 (zb BK101.out hb) (Ab (zB) hb); clear BK101 HB; obtain ⟨BK101, HB⟩ := n_; (try clear hb)))
  go_ret3
  exact ⟨_, zE, zN, zB⟩
 rw [if_pos c3] at H
 have c3b0 : (t102 == 0) = true := beq_iff_eq.mpr c3
 have c3b1 : (t102 != 0) = false := bne_eq_false_iff_eq.mpr c3
 clear c3
 have H' := Aa.mk H
 clear H
 go_enter Tryz.func9, Tryz.ntmps9
 go_wp2_with (first | ((with_reducible refine Ay (N := 1) rfl ?_); refine Be zr (N := 1) zr (cs := #[.slice A0_0 l0_0.length c0_0]) (t := 26) zg ?_; intro gb101 hg w4 hbox hb; have n_ := y4 (Ab (zB) hb) (hbox) ((zS hg : w.heap.size ≤ gb101)) ((zS hg : w.heap.size ≤ gb101)); clear HB; obtain ⟨HB, BK101, GW101, GE101⟩ := n_; clear hb hbox hg; obtain ⟨hcz5_0, hfz5_0⟩ := zw BK101.out) | (refine gK 31 ?_; refine gL 9 Tryz.func31 #[.agg #[.slice A0_0 l0_0.length c0_0], .bool true] ?_; (with_reducible refine (Dg.calls _ _ l0_0 true t102 _ ?side1 HC0_0.out A2.out).mono ?_); (case side1 => exact zC (Kd.Bh HR0_0.out HB.out)); rintro e w6 ⟨rfl, hb⟩; refine ⟨_, rfl, ?_⟩; have n_ := y2 (zb BK101.out hb) (Ab (zB) hb); clear BK101 HB; obtain ⟨BK101, HB⟩ := n_; (try clear hb)))
 go_loopg [6] k (fun kq v6 w' => ∃ (x6_1 : Int), v6 = .int .i64 x6_1 ∧ Aa (Ci.l0 kq x6_1 l0_0 = some (r1, r2, r3)) ∧ Aa (kq ≤ k) ∧ Aa (w'.heap[gb101]? = some (.cells #[(.slice A0_0 l0_0.length c0_0)] 26 (0, 0))) ∧ Aa (Below w.heap.size w w'))
 case atStart => exact ⟨(1), zF, H', ⟨Nat.le_refl _⟩, ⟨zG BK101.out⟩, ⟨zB⟩⟩
 clear H'
 try clear c3
 try clear c3b0
 try clear c3b1
 try clear hcz5_0
 try clear hfz5_0
 obtain ⟨x6_1, rfl, HA, HK1, BK101, HB⟩ := hrel
 cases gk with
 | zero => exact absurd HA.out (by simp [Ci.l0])
 | succ k1 =>
  have H := HA.out
  clear HA
  simp only [Ci.l0] at H
  obtain ⟨t103, A7, H⟩ := zO H
  try dsimp only at H
  by_cases c8 : x6_1 ≤ t103
  case neg =>
   rw [if_neg c8] at H
   have c8b0 := decide_eq_false c8
   clear c8
   simp only [Option.some.injEq, Prod.mk.injEq] at H
   obtain ⟨rfl, rfl, rfl⟩ := H
   obtain ⟨hcz33_0, hfz33_0⟩ := zw BK101.out
   go_wp2_with (first | (refine gK 38 ?_; refine gL 16 Tryz.func38 #[.slice A0_0 l0_0.length c0_0] ?_; (with_reducible refine (Ba.calls k1 _ _ l0_0 t103 _ ?side1 HC0_0.out A7.out).mono ?_); (case side1 => exact zC (Kd.Bh HR0_0.out HB.out)); rintro e w34 ⟨rfl, hb⟩; refine ⟨_, rfl, ?_⟩; have n_ := y2 (zb BK101.out hb) (Ab (zB) hb); clear BK101 HB; obtain ⟨BK101, HB⟩ := n_; (try clear hb)))
   go_ret3
   exact ⟨_, zE, zN, zB⟩
  rw [if_pos c8] at H
  have c8b0 := decide_eq_true c8
  clear c8
  obtain ⟨t104, A9, H⟩ := zO H
  try dsimp only at H
  obtain ⟨t108, A10, H⟩ := zO H
  try dsimp only at H
  by_cases c11 : t108 = true
  ·
   subst c11
   rw [if_pos rfl] at H
   obtain ⟨t109, A12, H⟩ := zO H
   try dsimp only at H
   simp only [Option.some.injEq, Prod.mk.injEq] at H
   obtain ⟨rfl, rfl, rfl⟩ := H
   obtain ⟨hcz13_0, hfz13_0⟩ := zw BK101.out
   go_wp2_with (first | (refine gK 38 ?_; refine gL 16 Tryz.func38 #[.slice A0_0 l0_0.length c0_0] ?_; (with_reducible refine (Ba.calls k1 _ _ l0_0 t103 _ ?side1 HC0_0.out A7.out).mono ?_); (case side1 => exact zC (Kd.Bh HR0_0.out HB.out)); rintro e w14 ⟨rfl, hb⟩; refine ⟨_, rfl, ?_⟩; have n_ := y2 (zb BK101.out hb) (Ab (zB) hb); clear BK101 HB; obtain ⟨BK101, HB⟩ := n_; (try clear hb); obtain ⟨hcz15_0, hfz15_0⟩ := zw BK101.out) | (refine gK 39 ?_; refine gL 22 Tryz.func39 #[.agg #[.slice A0_0 l0_0.length c0_0], .int .i64 x6_1] ?_; (with_reducible refine (Bd.calls k1 _ _ l0_0 x6_1 t104 _ ?side1 HC0_0.out A9.out).mono ?_); (case side1 => exact zC (Kd.Bh HR0_0.out HB.out)); rintro e w16 ⟨v105, rfl, ho0, hb⟩; refine ⟨_, rfl, ?_⟩; have n_ := y3 (Kd.Bk ho0 (An (zB))) (zb BK101.out hb) (Ab (zB) hb); clear BK101 HB; obtain ⟨HO106, BK101, HB⟩ := n_; (try clear ho0 hb)) | ((with_reducible refine Ay (N := 7) rfl ?_); refine Be zr (N := 7) zr (cs := #[.slice none 0 0]) (t := 26) zg ?_; intro gb107 hg w17 hbox hb; have n_ := y8 (Kd.Ap (zR HO106.out) hb) (zb BK101.out hb) (Ab (zB) hb) (hbox) ((zS hg : w.heap.size ≤ gb107)) ((zS hg : w.heap.size ≤ gb107)) ((zL hg BK101.out : gb101 ≠ gb107)) ((zM hg BK101.out : gb107 ≠ gb101)); clear HO106 BK101 HB; obtain ⟨HO106, BK101, HB, BK107, GW107, GE107, NB101_107, NB107_101⟩ := n_; clear hb hbox hg; obtain ⟨Ao18, co18, eo18⟩ := Kd.Bb HO106.out; subst eo18; have hnb19 := NB107_101.out; have hnc19 := NB101_107.out; obtain ⟨hcz20_0, hfz20_0⟩ := zw BK107.out) | (refine gK 40 ?_; refine gL 24 Tryz.func40 #[.agg #[.slice Ao18 t104.length co18]] ?_; (with_reducible refine (Dx.calls k1 _ _ t104 true _ ?side1 ?side2 A10.out).mono ?_); (case side1 => exact (zQ HO106.out BK107.out)); (case side2 => exact (Kd.Ae HO106.out).2.1); rintro e w21 ⟨rfl, hb⟩; refine ⟨_, rfl, ?_⟩; have n_ := y4 (Kd.Ap (zV HO106.out BK107.out) hb) (Cy (g := gb101) (o := .cells #[.slice A0_0 l0_0.length c0_0] 26 (0, 0)) (by refine zG ?_; refine Ce ?_ NB101_107.out _; refine zG ?_; exact BK101.out) hb) (Cy (g := gb107) (o := .cells #[.slice Ao18 t104.length co18] 26 (0, 0)) (by (with_reducible repeat (first | refine Am ?_ _ | refine Ag ?_ | refine Ak ?_ _)); refine Cl (cs := #[.slice none 0 0]) ?_ 0 _ rfl; (with_reducible repeat (first | refine Am ?_ _ | refine Ag ?_ | refine Ak ?_ _)); exact BK107.out) hb) (Ab (zB) hb); clear HO106 BK101 BK107 HB; obtain ⟨HO106, BK101, BK107, HB⟩ := n_; (try clear hb); obtain ⟨hcz22_0, hfz22_0⟩ := zw BK107.out) | (refine gK 41 ?_; refine gL 26 Tryz.func41 #[.agg #[.slice Ao18 t104.length co18]] ?_; (with_reducible refine (Aw.calls k1 _ _ t104 t109 _ ?side1 ?side2 A12.out).mono ?_); (case side1 => exact zC (Kd.Ae HO106.out).2.2); (case side2 => exact (Kd.Ae HO106.out).2.1); rintro e w23 ⟨v110, rfl, ho0, hb⟩; refine ⟨_, rfl, ?_⟩; have n_ := y5 (Kd.Bu (zR HO106.out) (Kd.Bs ho0) hb) (Kd.Bk (Kd.Bt ho0 (Kd.Cx (zR HO106.out))) (An (zB))) (zb BK101.out hb) (zb BK107.out hb) (Ab (zB) hb); clear HO106 BK101 BK107 HB; obtain ⟨HO106, HO111, BK101, BK107, HB⟩ := n_; (try clear ho0 hb)))
   go_ret3
   exact ⟨_, zE, by refine zR ?_; exact Kd.Ai HO111.out (fun _ hk => trivial), zB⟩
  replace c11 := Bool.eq_false_iff.mpr c11
  subst c11
  rw [if_neg zf] at H
  have H' := Aa.mk H
  clear H
  obtain ⟨hcz24_0, hfz24_0⟩ := zw BK101.out
  go_wp2_with (first | (refine gK 38 ?_; refine gL 16 Tryz.func38 #[.slice A0_0 l0_0.length c0_0] ?_; (with_reducible refine (Ba.calls k1 _ _ l0_0 t103 _ ?side1 HC0_0.out A7.out).mono ?_); (case side1 => exact zC (Kd.Bh HR0_0.out HB.out)); rintro e w25 ⟨rfl, hb⟩; refine ⟨_, rfl, ?_⟩; have n_ := y2 (zb BK101.out hb) (Ab (zB) hb); clear BK101 HB; obtain ⟨BK101, HB⟩ := n_; (try clear hb); obtain ⟨hcz26_0, hfz26_0⟩ := zw BK101.out) | (refine gK 39 ?_; refine gL 22 Tryz.func39 #[.agg #[.slice A0_0 l0_0.length c0_0], .int .i64 x6_1] ?_; (with_reducible refine (Bd.calls k1 _ _ l0_0 x6_1 t104 _ ?side1 HC0_0.out A9.out).mono ?_); (case side1 => exact zC (Kd.Bh HR0_0.out HB.out)); rintro e w27 ⟨v105, rfl, ho0, hb⟩; refine ⟨_, rfl, ?_⟩; have n_ := y3 (Kd.Bk ho0 (An (zB))) (zb BK101.out hb) (Ab (zB) hb); clear BK101 HB; obtain ⟨HO106, BK101, HB⟩ := n_; (try clear ho0 hb)) | ((with_reducible refine Ay (N := 7) rfl ?_); refine Be zr (N := 7) zr (cs := #[.slice none 0 0]) (t := 26) zg ?_; intro gb107 hg w28 hbox hb; have n_ := y8 (Kd.Ap (zR HO106.out) hb) (zb BK101.out hb) (Ab (zB) hb) (hbox) ((zS hg : w.heap.size ≤ gb107)) ((zS hg : w.heap.size ≤ gb107)) ((zL hg BK101.out : gb101 ≠ gb107)) ((zM hg BK101.out : gb107 ≠ gb101)); clear HO106 BK101 HB; obtain ⟨HO106, BK101, HB, BK107, GW107, GE107, NB101_107, NB107_101⟩ := n_; clear hb hbox hg; obtain ⟨Ao29, co29, eo29⟩ := Kd.Bb HO106.out; subst eo29; have hnb30 := NB107_101.out; have hnc30 := NB101_107.out; obtain ⟨hcz31_0, hfz31_0⟩ := zw BK107.out) | (refine gK 40 ?_; refine gL 24 Tryz.func40 #[.agg #[.slice Ao29 t104.length co29]] ?_; (with_reducible refine (Dx.calls k1 _ _ t104 false _ ?side1 ?side2 A10.out).mono ?_); (case side1 => exact (zQ HO106.out BK107.out)); (case side2 => exact (Kd.Ae HO106.out).2.1); rintro e w32 ⟨rfl, hb⟩; refine ⟨_, rfl, ?_⟩; have n_ := y4 (Kd.Ap (zV HO106.out BK107.out) hb) (Cy (g := gb101) (o := .cells #[.slice A0_0 l0_0.length c0_0] 26 (0, 0)) (by refine zG ?_; refine Ce ?_ NB101_107.out _; refine zG ?_; exact BK101.out) hb) (Cy (g := gb107) (o := .cells #[.slice Ao29 t104.length co29] 26 (0, 0)) (by (with_reducible repeat (first | refine Am ?_ _ | refine Ag ?_ | refine Ak ?_ _)); refine Cl (cs := #[.slice none 0 0]) ?_ 0 _ rfl; (with_reducible repeat (first | refine Am ?_ _ | refine Ag ?_ | refine Ak ?_ _)); exact BK107.out) hb) (Ab (zB) hb); clear HO106 BK101 BK107 HB; obtain ⟨HO106, BK101, BK107, HB⟩ := n_; (try clear hb)))
  go_roundg k1
  case measure => have := HK1.out; omega
  case rel => exact ⟨(wrap64 (x6_1 + 1)), zF, H', ⟨by have := HK1.out; omega⟩, ⟨zG BK101.out⟩, ⟨zB⟩⟩
def Gv.f (l0_0 : List Int) (l1 : List Int) : Option (Int) := (Eb.f l0_0).bind fun t102 => ((Gs.f l1 t102).bind fun t103 => ((Dg.f l0_0 t103).bind fun t104 => (some t104)))
theorem Gv.calls (A0_0 : Option Addr) (c0_0 : Nat) (l0_0 : List Int) (A1 : Option Addr) (c1 : Nat) (l1 : List Int) (r : Int) (w : World) (hr0_0 : Kd.C (Kd.int .i64) w A0_0 l0_0.length l0_0) (hc0_0 : l0_0.length ≤ c0_0) (hr1 : Kd.C (Kd.int .i64) w A1 l1.length l1) (hc1 : l1.length ≤ c1) (h : Gv.f l0_0 l1 = some r) :
    Calls Tryz.prog 49 #[.agg #[.slice A0_0 l0_0.length c0_0], .slice A1 l1.length c1] w fun e w' => e = .returned (.int .i64 r) ∧ Below w.heap.size w w' := by
 have hu26 := Tryz.underlying26
 have HR0_0 := Aa.mk hr0_0
 have HC0_0 := Aa.mk hc0_0
 clear hr0_0 hc0_0
 have HR1 := Aa.mk hr1
 have HC1 := Aa.mk hc1
 clear hr1 hc1
 have HB := Aa.mk (Below.refl w.heap.size w)
 have H := h
 clear h
 unfold Gv.f at H
 obtain ⟨t102, A3, H⟩ := zO H
 try dsimp only at H
 obtain ⟨t103, A4, H⟩ := zO H
 try dsimp only at H
 obtain ⟨t104, A5, H⟩ := zO H
 try dsimp only at H
 obtain rfl := Option.some.inj H
 go_enter Tryz.func49, Tryz.ntmps49
 try go_wp2_with (first | ((with_reducible refine Ay (N := 2) rfl ?_); refine Be zr (N := 2) zr (cs := #[.slice A0_0 l0_0.length c0_0]) (t := 26) zg ?_; intro gb101 hg w6 hbox hb; have n_ := y4 (Ab (zB) hb) (hbox) ((zS hg : w.heap.size ≤ gb101)) ((zS hg : w.heap.size ≤ gb101)); clear HB; obtain ⟨HB, BK101, GW101, GE101⟩ := n_; clear hb hbox hg))
 have n_ := y2 (Ag BK101.out) (Bz HB.out)
 clear BK101 HB
 obtain ⟨BK101, HB⟩ := n_
 refine Fg (n := 7) (S := fun w' => w'.cell? ⟨gb101, 0, none⟩ = some (.slice A0_0 l0_0.length c0_0)) (ds := []) #[false,false,false,false,false,false,false] zk rfl rfl ((Au BK101.out 0).trans rfl) (fun hHeld => ?_)
 generalize w6.drew = w7 at BK101 HB hHeld ⊢
 refine pU 1 6 ?_
 refine tU 0 5 hHeld ?_
 refine tU 2 7 hHeld ?_
 refine Fk (i := 3) (N := some 8) #[true,true,true,true,false,false,false] rfl rfl zk (by decide) (fun K hK => ?_)
 refine Ff Tryz.func60 zk rfl #[.agg #[.slice A0_0 l0_0.length c0_0]] (by rfl) rfl rfl zA ?_
 with_reducible refine (Eb.calls _ _ l0_0 t102 _ ?side1 ?side2 A3.out).mono ?_
 (case side1 => exact zC (Kd.Bh HR0_0.out HB.out))
 (case side2 => exact HC0_0.out)
 rintro e w8 ⟨rfl, hb⟩
 refine ⟨_, rfl, ?_⟩
 have n_ := y2 (zb BK101.out hb) (Ab (zB) hb)
 clear BK101 HB
 obtain ⟨BK101, HB⟩ := n_
 try clear hb
 refine hK.out _ _ ((Au BK101.out 0).trans rfl) (fun hHeld => ?_)
 clear hK K
 refine nT 8 ?_
 refine Fk (i := 4) (N := some 9) #[true,true,true,true,true,false,false] rfl rfl zk (by decide) (fun K hK => ?_)
 refine Ff Tryz.func42 zk rfl #[.slice A1 l1.length c1, .int .i64 t102] (by rfl) rfl rfl zA ?_
 with_reducible refine (Gs.calls _ _ l1 t102 t103 _ ?side1 ?side2 A4.out).mono ?_
 (case side1 => exact zC (Kd.Bh HR1.out HB.out))
 (case side2 => exact HC1.out)
 rintro e w9 ⟨rfl, hb⟩
 refine ⟨_, rfl, ?_⟩
 have n_ := y2 (zb BK101.out hb) (Ab (zB) hb)
 clear BK101 HB
 obtain ⟨BK101, HB⟩ := n_
 try clear hb
 refine hK.out _ _ ((Au BK101.out 0).trans rfl) (fun hHeld => ?_)
 clear hK K
 refine nT 9 ?_
 refine Fk (i := 5) (N := some 10) #[true,true,true,true,true,true,false] rfl rfl zk (by decide) (fun K hK => ?_)
 refine Ff Tryz.func31 zk rfl #[.agg #[.slice A0_0 l0_0.length c0_0], .bool t103] (by rfl) rfl rfl zA ?_
 with_reducible refine (Dg.calls _ _ l0_0 t103 t104 _ ?side1 ?side2 A5.out).mono ?_
 (case side1 => exact zC (Kd.Bh HR0_0.out HB.out))
 (case side2 => exact HC0_0.out)
 rintro e w10 ⟨rfl, hb⟩
 refine ⟨_, rfl, ?_⟩
 have n_ := y2 (zb BK101.out hb) (Ab (zB) hb)
 clear BK101 HB
 obtain ⟨BK101, HB⟩ := n_
 try clear hb
 refine hK.out _ _ ((Au BK101.out 0).trans rfl) (fun hHeld => ?_)
 clear hK K
 refine nT 10 ?_
 refine pU 6 4 ?_
 refine Gf zk ?_
 try go_wp2
 go_ret
 exact ⟨zE, zB⟩
def Cq.l0 : Nat → Int → List Int → Int → Int → Option (Int)
 | 0, _, _, _, _ => none
 | k + 1, x3, x6, x7, x8 => if x8 < x7 then (if 0 ≤ x8 then (if x8 < (x6.length : Int) then (Cq.l0 k (mx x3 (rd x6 x8)) x6 x7 (wrap64 (x8 + 1))) else (none)) else (none)) else (some x3)
def Cq.f (k : Nat) (l0 : List Int) : Option (Int) := Cq.l0 k 0 l0 (l0.length : Int) 0
theorem Cq.mono_l : ∀ k, (∀ y0 y1 y2 y3, LeO (Cq.l0 k y0 y1 y2 y3) (Cq.l0 (k + 1) y0 y1 y2 y3))
 | 0 => fun _ _ _ _ r h => by simp [Cq.l0] at h
 | k + 1 => by
  have ih0 := Cq.mono_l k
  ·
   intro y0 y1 y2 y3
   unfold Cq.l0
   repeat' first | (with_reducible first | exact ih0 _ _ _ _ | exact LeO.refl _ | exact LeO.none _ | refine LeO.ite ?_ ?_ | refine LeO.bind ?_ (fun _ => ?_)) | exact ih0 _ _ _ _ | exact LeO.none _ | refine LeO.ite ?_ ?_ | refine LeO.bind ?_ (fun _ => ?_)
theorem Cq.mono : ∀ a0 k, LeO (Cq.f k a0) (Cq.f (k + 1) a0) := by
 intro a0 k
 have ih0 := Cq.mono_l k
 unfold Cq.f
 repeat' first | (with_reducible first | exact ih0 _ _ _ _ | exact LeO.refl _ | exact LeO.none _ | refine LeO.ite ?_ ?_ | refine LeO.bind ?_ (fun _ => ?_)) | exact ih0 _ _ _ _ | exact LeO.none _ | refine LeO.ite ?_ ?_ | refine LeO.bind ?_ (fun _ => ?_)
theorem Cq.calls (k : Nat) (A0 : Option Addr) (c0 : Nat) (l0 : List Int) (r : Int) (w : World) (hr0 : Kd.C (Kd.int .i64) w A0 l0.length l0) (hc0 : l0.length ≤ c0) (h : Cq.f k l0 = some r) :
    Calls Tryz.prog 54 #[.slice A0 l0.length c0] w fun e w' => e = .returned (.int .i64 r) ∧ Below w.heap.size w w' := by
 have HR0 := Aa.mk hr0
 have HC0 := Aa.mk hc0
 clear hr0 hc0
 have HB := Aa.mk (Below.refl w.heap.size w)
 have H := h
 clear h
 unfold Cq.f at H
 have H' := Aa.mk H
 clear H
 go_enter Tryz.func54, Tryz.ntmps54
 go_wp2
 go_loopg [3, 8] k (fun kq v3 v8 w' => ∃ (x3_1 : Int) (x8_1 : Int), v3 = .int .i64 x3_1 ∧ v8 = .int .i64 x8_1 ∧ Aa (Cq.l0 kq x3_1 l0 (l0.length : Int) x8_1 = some r) ∧ Aa (kq ≤ k) ∧ Aa (Below w.heap.size w w'))
 case atStart => exact ⟨(0), (0), zF, zF, H', ⟨Nat.le_refl _⟩, ⟨zB⟩⟩
 clear H'
 obtain ⟨x3_1, x8_1, rfl, rfl, HA, HK1, HB⟩ := hrel
 cases gk with
 | zero => exact absurd HA.out (by simp [Cq.l0])
 | succ k1 =>
  have H := HA.out
  clear HA
  simp only [Cq.l0] at H
  by_cases c2 : x8_1 < (l0.length : Int)
  case neg =>
   rw [if_neg c2] at H
   have c2b0 := decide_eq_false c2
   clear c2
   obtain rfl := Option.some.inj H
   go_wp2
   go_ret
   exact ⟨zE, zB⟩
  rw [if_pos c2] at H
  have c2b0 := decide_eq_true c2
  clear c2
  by_cases c3 : 0 ≤ x8_1
  case neg => rw [if_neg c3] at H; exact absurd H (by simp)
  rw [if_pos c3] at H
  have c3b0 := decide_eq_true c3
  clear c3
  by_cases c4 : x8_1 < (l0.length : Int)
  case neg => rw [if_neg c4] at H; exact absurd H (by simp)
  rw [if_pos c4] at H
  have c4b0 := decide_eq_true c4
  clear c4
  obtain ⟨ji5, hji5⟩ : ∃ j_ : Int, (mx x3_1 (rd l0 x8_1)) = j_ := ⟨_, rfl⟩
  replace H : (Cq.l0 k1 ji5 l0 (l0.length : Int) (wrap64 (x8_1 + 1))) = some r := by first | (rw [hji5] at H; exact H) | (simp only [hji5] at H ⊢; exact H)
  have hji5_ : (if x3_1 < (rd l0 x8_1) then (rd l0 x8_1) else x3_1) = ji5 := hji5
  have H' := Aa.mk H
  clear H
  have p101 : 0 ≤ (x8_1 : Int) := zD
  have q101 : x8_1 < (l0.length : Int) := zD
  obtain ⟨ad101, e101, hx101_0⟩ := Kd.Cv HR0.out x8_1 p101 q101
  cases e101
  replace hx101_0 := (HB.out.cell (World.block_lt_of_cell? w _ hx101_0)).trans hx101_0
  replace p101 := eq_true p101
  replace q101 := eq_true q101
  go_wp2
  go_roundg k1
  case measure => have := HK1.out; omega
  case rel => exact ⟨(ji5), (wrap64 (x8_1 + 1)), (by first | rfl | (simp; done) | (simp only [← hji5] <;> (first | rfl | simp)) | (simp [*]; done)), zF, H', ⟨by have := HK1.out; omega⟩, ⟨zB⟩⟩
end Go.Proofs.YtliepcfgcglcmaaGreat.P
end
