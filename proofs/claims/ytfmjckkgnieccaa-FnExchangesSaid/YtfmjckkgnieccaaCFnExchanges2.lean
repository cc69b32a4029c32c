/- Exchanges go back, best exchanges give less squares, smooth turns have no more squares and no better exchange, and spreads are told by waits. -/
import Derived.Test.YtfmjckkgnieccaaCFnExchanges1
import Derived.ArgAppend
import Derived.Below
import Derived.BigQuiet
import Derived.ChangeArms
import Derived.ChangeOld
import Derived.ChangeSame
import Derived.Deep.AppendLies
import Derived.Deep.CutBlock
import Derived.Deep.DeepCutAuto
import Derived.Deep.Draws
import Derived.Deep.Fields
import Derived.Deep.LoopGhost
import Derived.Deep.OwnRows
import Derived.Deep.QuietTactic
import Derived.Deep.RegionHeld3
import Derived.Deep.Slices
import Derived.KernelRfl
import Derived.Laws.BitsLemmas
import Derived.Laws.BytesArg
import Derived.Laws.IdiomCopy
import Derived.Laws.MakeOwn
import Derived.Laws.OwnMore
import Derived.Laws.Rows
import Derived.Laws.Slices
import Derived.Lib.AppendStr
import Derived.Lib.ConvBytes
import Derived.Lib.SliceRun
import Derived.Lib.SmallJoins
import Derived.Maps.AppendAt
import Derived.OpenShut
import Derived.OrdersHeld
import Derived.OwnWalk
import Derived.ProofKit
import Derived.RowKit
import Derived.RowKit3
import Derived.Shelf.Abstract
import Derived.ShutString
import Derived.SizedLaws
import Derived.Tactics
import Derived.Test.YtfmjckkgnieccaaProg
import Derived.WalkKit
import Derived.WideLaws
import Derived.WideShapes
section
namespace Go.Proofs.Ytfmjckkgnieccaa.P
open Go.RowKit Go.Proofs.YtfmjckkgnieccaaW.PrintWords Go.Proofs.YtfmjckkgnieccaaW.PrintLast Go.Proofs.YtfmjckkgnieccaaW.PrintMore
attribute [local go_sem] max2_int min2_int max_two min_two max_three min_three max_four min_four   -- for this text's walks alone
set_option linter.unusedVariables false
set_option linter.unusedSimpArgs false
def errW : Option Int → Value
  | none => .nilIface
  | some c => .iface 0 (.int .i64 c)
theorem errW_none : errW none = .nilIface := rfl
theorem errW_some (c : Int) : errW (some c) = .iface 0 (.int .i64 c) := rfl
theorem info2 : (Try.prog.info? 2).map (fun i => (i.zero, i.size, i.bytes)) = some (some (.int .i64 0), 1, 8) := by kernel_rfl
theorem info24 : (Try.prog.info? 24).map (fun i => (i.zero, i.size, i.bytes)) = some (some (.slice none 0 0), 1, 24) := by kernel_rfl
def rd_L2 (xs : List (List Int)) (i : Int) : (List Int) := xs.getD i.toNat ([] : List Int)
theorem at_L2 {w : World} {A : Option Addr} {n : Nat} {xs : List (List Int)} (h : Kd.C (Kd.slice 2 (Kd.int .i64)) w A n xs) (i : Int) (h0 : 0 ≤ i) (h1 : i < n) : ∃ ad A0 c0, A = some ad ∧ w.cell? (ad.add i.toNat) = some (.slice A0 (rd_L2 xs i).length c0) ∧ (rd_L2 xs i).length ≤ c0 ∧ (Kd.int .i64).C w A0 (rd_L2 xs i).length (rd_L2 xs i) := by
  obtain ⟨ad, c, e, _, hK, hc0⟩ := Kd.C_get h ([] : List Int) i h0 h1
  have hc : ∀ j u, c[j]? = some u → w.cell? (ad.add (i.toNat * 1 + j)) = some u := hc0
  obtain ⟨A0, c0, rfl, l0, g0⟩ := hK
  exact ⟨ad, A0, c0, e, by have hq := hc 0 _ rfl; rwa [Nat.mul_one, Nat.add_zero] at hq, l0, g0⟩
end Go.Proofs.Ytfmjckkgnieccaa.P
end
section
namespace Go.Proofs.Ytfmjckkgnieccaa.P
open Go.RowKit Go.Proofs.YtfmjckkgnieccaaW.PrintWords Go.Proofs.YtfmjckkgnieccaaW.PrintLast Go.Proofs.YtfmjckkgnieccaaW.PrintMore
theorem zA {p : Prop} (h : p := by (try simp only [List.map_toArray, List.map_cons, List.map_nil]); first | done | rfl | (simp only [List.length_drop, List.length_take]; rfl)) : p := h
theorem zB {p : Prop} (h : p := by repeat (first | (with_reducible first | exact HB.out | apply below_alloc | apply pw_below_drewN | apply below_drew1 | refine below_set ?_ (IsS60.ge HI0.out) | refine below_set ?_ (Aside0.out (by assumption : Aside0 (w0.heap.size ≤ _))) | refine below_set ?_ (Aside0.out (by assumption : Aside0 (w.heap.size ≤ _)))) | exact HB.out)) : p := h
theorem zK {p : Prop} (h : p := by repeat (first | (with_reducible first | exact HK.out | apply KeepBut.set_ | apply keep_drewN | apply keep_drew | apply keep_alloc | refine keep_far ?_ (Aside0.out (by assumption : Aside0 (w.heap.size ≤ _))) _) | exact HK.out)) : p := h
theorem zI {p : Prop} (h : p := by repeat (first | (with_reducible first | exact HI0.out | apply IsS60.set_1 | apply IsS60.set_2 | apply IsS60.alloc | apply IsS60.drewN | apply IsS60.drew | refine IsS60.far ?_ (Aside0.out (by assumption)) _) | exact HI0.out)) : p := h
theorem zX {p q : Prop} (b : p) (h : p → q := by intro b_; repeat (first | (with_reducible first | exact b_ | apply IsS60.set_1 | apply IsS60.set_2 | apply IsS60.alloc | apply IsS60.drewN | apply IsS60.drew | refine IsS60.far ?_ (Aside0.out (by assumption)) _) | exact b_)) : q := h b
theorem zG {p q : Prop} (b : p) (h : p → q := by intro b_; (with_reducible repeat (first | refine blk_drewN ?_ _ | refine blk_drew ?_ | refine blk_alloc ?_ _)); exact b_) : q := h b
theorem zR {p q : Prop} (b : p) (h : p → q := by intro b_; (with_reducible repeat (first | apply Kd.R_alloc | apply Kd.R_drewN | apply Kd.R_drew)); exact b_) : q := h b
theorem zC {p q : Prop} (b : p) (h : p → q := by intro b_; repeat (first | exact b_ | (with_reducible refine Kd.C_alloc ?_ _) | (with_reducible refine Kd.C_drewN ?_ _) | (with_reducible refine Kd.C_drew ?_))) : q := h b
theorem zD {p : Prop} [Decidable p] (h : decide p = true := by first | (with_reducible assumption) | assumption) : p := of_decide_eq_true h
theorem zH {α : Type} {a b : α} {q : Prop} (e : a = b) (h : a = b → q := by intro e_; first | (rw [e_]; with_reducible exact H) | (have H2_ := (Option.bind_some _ _).symm.trans H; rw [e_]; with_reducible exact H2_) | (have H2_ := (Option.bind_some _ _).symm.trans H; with_reducible exact H2_) | with_reducible exact H | (rw [e_]; exact H) | exact H) : q := h e
theorem zE {p : Prop} (h : p := by first | rfl | (simp [errW_none, errW_some] <;> rfl) | (simp [*, errW_none, errW_some] <;> rfl)) : p := h
theorem zF {p : Prop} (h : p := by first | rfl | (simp; done) | (simp [*]; done)) : p := h
theorem zN {p : Prop} (h : p := by first | exact Kd.R_nil _ _ _ _ _ | exact Kd.N_nil _ _ _ _ _ | exact Kd.V_nil _ _ _ _ _ | exact Kd.Q_nil _ _ _ _ _ | exact Kd.S_nil _ _ _ _ _) : p := h
theorem zr {p : Prop} (h : p := by rfl) : p := h
theorem zk {p : Prop} (h : p := by kernel_rfl) : p := h
theorem zg {p : Prop} (h : p := by first | (go_simp; done) | (go_simp; rfl)) : p := h
theorem zp {p : Prop} (h : p := by (intro w'; go_simp; with_reducible rfl)) : p := h
theorem zq {p : Prop} (h : p := by (simp only [Act.put, List.setIfInBounds_toArray, List.set_cons_zero, List.set_cons_succ, i64_w, i32_w]; rfl)) : p := h
theorem zd {p : Prop} (h : p := by first | exact ⟨rfl, _, World.drewN_drewN _ _ _⟩ | exact ⟨rfl, _, Eq.trans (World.drewN_drewN _ _ _) (congrArg (World.drewN _) (Nat.add_assoc _ _ _))⟩) : p := h
theorem y2 {a b : Prop} (xa : a) (xb : b) : Aside0 a ∧ Aside0 b := ⟨⟨xa⟩, ⟨xb⟩⟩
theorem y3 {a b c : Prop} (xa : a) (xb : b) (xc : c) : Aside0 a ∧ Aside0 b ∧ Aside0 c := ⟨⟨xa⟩, ⟨xb⟩, ⟨xc⟩⟩
theorem y4 {a b c d : Prop} (xa : a) (xb : b) (xc : c) (xd : d) : Aside0 a ∧ Aside0 b ∧ Aside0 c ∧ Aside0 d := ⟨⟨xa⟩, ⟨xb⟩, ⟨xc⟩, ⟨xd⟩⟩
theorem y5 {a b c d e : Prop} (xa : a) (xb : b) (xc : c) (xd : d) (xe : e) : Aside0 a ∧ Aside0 b ∧ Aside0 c ∧ Aside0 d ∧ Aside0 e := ⟨⟨xa⟩, ⟨xb⟩, ⟨xc⟩, ⟨xd⟩, ⟨xe⟩⟩
theorem y6 {a b c d e f : Prop} (xa : a) (xb : b) (xc : c) (xd : d) (xe : e) (xf : f) : Aside0 a ∧ Aside0 b ∧ Aside0 c ∧ Aside0 d ∧ Aside0 e ∧ Aside0 f := ⟨⟨xa⟩, ⟨xb⟩, ⟨xc⟩, ⟨xd⟩, ⟨xe⟩, ⟨xf⟩⟩
theorem y7 {a b c d e f g : Prop} (xa : a) (xb : b) (xc : c) (xd : d) (xe : e) (xf : f) (xg : g) : Aside0 a ∧ Aside0 b ∧ Aside0 c ∧ Aside0 d ∧ Aside0 e ∧ Aside0 f ∧ Aside0 g := ⟨⟨xa⟩, ⟨xb⟩, ⟨xc⟩, ⟨xd⟩, ⟨xe⟩, ⟨xf⟩, ⟨xg⟩⟩
theorem y8 {a b c d e f g h : Prop} (xa : a) (xb : b) (xc : c) (xd : d) (xe : e) (xf : f) (xg : g) (xh : h) : Aside0 a ∧ Aside0 b ∧ Aside0 c ∧ Aside0 d ∧ Aside0 e ∧ Aside0 f ∧ Aside0 g ∧ Aside0 h := ⟨⟨xa⟩, ⟨xb⟩, ⟨xc⟩, ⟨xd⟩, ⟨xe⟩, ⟨xf⟩, ⟨xg⟩, ⟨xh⟩⟩
theorem y9 {a b c d e f g h i : Prop} (xa : a) (xb : b) (xc : c) (xd : d) (xe : e) (xf : f) (xg : g) (xh : h) (xi : i) : Aside0 a ∧ Aside0 b ∧ Aside0 c ∧ Aside0 d ∧ Aside0 e ∧ Aside0 f ∧ Aside0 g ∧ Aside0 h ∧ Aside0 i := ⟨⟨xa⟩, ⟨xb⟩, ⟨xc⟩, ⟨xd⟩, ⟨xe⟩, ⟨xf⟩, ⟨xg⟩, ⟨xh⟩, ⟨xi⟩⟩
theorem y10 {a b c d e f g h i j : Prop} (xa : a) (xb : b) (xc : c) (xd : d) (xe : e) (xf : f) (xg : g) (xh : h) (xi : i) (xj : j) : Aside0 a ∧ Aside0 b ∧ Aside0 c ∧ Aside0 d ∧ Aside0 e ∧ Aside0 f ∧ Aside0 g ∧ Aside0 h ∧ Aside0 i ∧ Aside0 j := ⟨⟨xa⟩, ⟨xb⟩, ⟨xc⟩, ⟨xd⟩, ⟨xe⟩, ⟨xf⟩, ⟨xg⟩, ⟨xh⟩, ⟨xi⟩, ⟨xj⟩⟩
theorem y11 {a b c d e f g h i j k : Prop} (xa : a) (xb : b) (xc : c) (xd : d) (xe : e) (xf : f) (xg : g) (xh : h) (xi : i) (xj : j) (xk : k) : Aside0 a ∧ Aside0 b ∧ Aside0 c ∧ Aside0 d ∧ Aside0 e ∧ Aside0 f ∧ Aside0 g ∧ Aside0 h ∧ Aside0 i ∧ Aside0 j ∧ Aside0 k := ⟨⟨xa⟩, ⟨xb⟩, ⟨xc⟩, ⟨xd⟩, ⟨xe⟩, ⟨xf⟩, ⟨xg⟩, ⟨xh⟩, ⟨xi⟩, ⟨xj⟩, ⟨xk⟩⟩
theorem y12 {a b c d e f g h i j k l : Prop} (xa : a) (xb : b) (xc : c) (xd : d) (xe : e) (xf : f) (xg : g) (xh : h) (xi : i) (xj : j) (xk : k) (xl : l) : Aside0 a ∧ Aside0 b ∧ Aside0 c ∧ Aside0 d ∧ Aside0 e ∧ Aside0 f ∧ Aside0 g ∧ Aside0 h ∧ Aside0 i ∧ Aside0 j ∧ Aside0 k ∧ Aside0 l := ⟨⟨xa⟩, ⟨xb⟩, ⟨xc⟩, ⟨xd⟩, ⟨xe⟩, ⟨xf⟩, ⟨xg⟩, ⟨xh⟩, ⟨xi⟩, ⟨xj⟩, ⟨xk⟩, ⟨xl⟩⟩
end Go.Proofs.Ytfmjckkgnieccaa.P
end
section
namespace Go.Proofs.Ytfmjckkgnieccaa.P
open Go.RowKit Go.Proofs.YtfmjckkgnieccaaW.PrintWords Go.Proofs.YtfmjckkgnieccaaW.PrintLast Go.Proofs.YtfmjckkgnieccaaW.PrintMore
attribute [local go_sem] max2_int min2_int max_two min_two max_three min_three max_four min_four   -- for this text's walks alone
set_option linter.unusedVariables false
set_option linter.unusedSimpArgs false
def impl_length_int64.f (l0 : List Int) : Option (Int) := some (l0.length : Int)
set_option maxHeartbeats 8000000 in
set_option maxRecDepth 100000 in
theorem impl_length_int64.calls (A0 : Option Addr) (c0 : Nat) (l0 : List Int) (r : Int) (w : World) (hr0 : Kd.C (Kd.int .i64) w A0 l0.length l0) (hc0 : l0.length ≤ c0) (h : impl_length_int64.f l0 = some r) :
    Calls Try.prog 39 #[.slice A0 l0.length c0] w fun e w' => e = .returned (.int .i64 r) ∧ Drawn0 w w' := by
 have HR0 := Aside0.mk hr0
 have HC0 := Aside0.mk hc0
 clear hr0 hc0
 have H : (some (l0.length : Int)) = some r := h
 clear h
 obtain rfl := Option.some.inj H
 go_enter Try.func39, Try.ntmps39
 go_wp2
 go_ret
 exact ⟨by first | rfl | (simp; done) | (simp [*]; done), by repeat (first | exact Drawn0.refl _ | apply Drawn0.step)⟩
end Go.Proofs.Ytfmjckkgnieccaa.P
end
section
namespace Go.Proofs.Ytfmjckkgnieccaa.P
open Go.RowKit Go.Proofs.YtfmjckkgnieccaaW.PrintWords Go.Proofs.YtfmjckkgnieccaaW.PrintLast Go.Proofs.YtfmjckkgnieccaaW.PrintMore
attribute [local go_sem] max2_int min2_int max_two min_two max_three min_three max_four min_four   -- for this text's walks alone
set_option linter.unusedVariables false
set_option linter.unusedSimpArgs false
def CellB (W : World) (B : Nat) (a : Int) : Prop := W.heap[B]? = some (.cells #[.int .i64 a] 2 (0, 0))
def FnD (g : Nat) (lb : Array Value) (B : Nat) (st : Int → Int → Int) : Prop := ∀ (W : World) (d a : Int), CellB W B a → Calls Try.prog g (#[.int .i64 d] ++ lb) W fun e w' => e = .returned (.tuple #[]) ∧ CellB w' B (st a d) ∧ Kept W w' (fun k_ => k_ = B) ∧ ∀ w0 : World, Below w0.heap.size w0 W → w0.heap.size ≤ B → Below w0.heap.size w0 w'
mutual
def difs.l0 (st : Int → Int → Int) : Nat → List Int → List Int → List Int → Int → Int → Int → Option Int
  | 0, _, _, _, _, _, _ => none
  | k + 1, t, s, m, all, n, a => if n < wrap64 (all + 1) then (difs.l1 st k t s m all n 0 a) else (some a)
def difs.l1 (st : Int → Int → Int) : Nat → List Int → List Int → List Int → Int → Int → Int → Int → Option Int
  | 0, _, _, _, _, _, _, _ => none
  | k + 1, t, s, m, all, n, i, a => if i < (s.length : Int) then (if 0 ≤ i then (if i < (m.length : Int) then (difs.l1 st k t s m all n (wrap64 (i + 1)) (st a (wrap64 ((wrap64 (all * (rd m i))) - (wrap64 (n * (rd s i))))))) else (none)) else (none)) else (if n < all then (if 0 ≤ n then (if n < (t.length : Int) then (if 0 ≤ rd t n then (if rd t n < (m.length : Int) then (difs.l0 st k t s (m.set (rd t n).toNat (wrap64 ((rd m (rd t n)) + 1))) all (wrap64 (n + 1)) a) else (none)) else (none)) else (none)) else (none)) else (difs.l0 st k t s m all (wrap64 (n + 1)) a))
end
def difs.f (st : Int → Int → Int) (k : Nat) (t s : List Int) (a : Int) : Option Int := if s.length ≤ 35184372088832 then (difs.l0 st k t s (List.replicate s.length 0) (t.length : Int) 0 a) else (none)
theorem difs.mono_l (st : Int → Int → Int) : ∀ k, (∀ y0 y1 y2 y3 y4 y5, LeO (difs.l0 st k y0 y1 y2 y3 y4 y5) (difs.l0 st (k + 1) y0 y1 y2 y3 y4 y5)) ∧ (∀ y0 y1 y2 y3 y4 y5 y6, LeO (difs.l1 st k y0 y1 y2 y3 y4 y5 y6) (difs.l1 st (k + 1) y0 y1 y2 y3 y4 y5 y6))
  | 0 => ⟨fun _ _ _ _ _ _ r h => by simp [difs.l0] at h, fun _ _ _ _ _ _ _ r h => by simp [difs.l1] at h⟩
  | k + 1 => by
    obtain ⟨ih0, ih1⟩ := difs.mono_l st k
    refine ⟨?_, ?_⟩
    · intro y0 y1 y2 y3 y4 y5
      unfold difs.l0
      repeat' first | (with_reducible exact ih1 _ _ _ _ _ _ _) | (with_reducible exact LeO.refl _) | (with_reducible exact LeO.none _) | (with_reducible refine LeO.ite ?_ ?_)
    · intro y0 y1 y2 y3 y4 y5 y6
      unfold difs.l1
      repeat' first | (with_reducible exact ih0 _ _ _ _ _ _) | (with_reducible exact ih1 _ _ _ _ _ _ _) | (with_reducible exact LeO.refl _) | (with_reducible exact LeO.none _) | (with_reducible refine LeO.ite ?_ ?_)
theorem difs.mono (st : Int → Int → Int) : ∀ a0 a1 a2 k, LeO (difs.f st k a0 a1 a2) (difs.f st (k + 1) a0 a1 a2) := by
  intro a0 a1 a2 k
  obtain ⟨ih0, _⟩ := difs.mono_l st k
  unfold difs.f
  exact LeO.ite (ih0 _ _ _ _ _ _) (LeO.none _)
theorem infoD : (Try.prog.info? 2).map (fun i => (i.zero, i.size, i.bytes)) = some (some (.int .i64 0), 1, 8) := by kernel_rfl
set_option maxHeartbeats 8000000 in
set_option maxRecDepth 100000 in
theorem fvD_differences (k g : Nat) (lb : Array Value) (eg : ∀ args w, (callFunc g args).run Try.prog w = .ok (.enter g args) w) (st : Int → Int → Int) (B : Nat) (hf : FnD g lb B st) (A0 : Option Addr) (c0 : Nat) (t : List Int) (A1 : Option Addr) (c1 : Nat) (s : List Int) (a r : Int) (w0 w : World) (hB : Below w0.heap.size w0 w) (hlt : w0.heap.size ≤ B)
    (h0 : ∀ W', Kept w W' (fun k_ => k_ = B) → Kd.C (Kd.int .i64) W' A0 t.length t) (hc0 : t.length ≤ c0) (h1 : ∀ W', Kept w W' (fun k_ => k_ = B) → Kd.C (Kd.int .i64) W' A1 s.length s) (hc1 : s.length ≤ c1) (hc : CellB w B a) (h : difs.f st k t s a = some r) :
    Calls Try.prog 48 #[.slice A0 t.length c0, .slice A1 s.length c1, .func (.func g) #[] lb] w fun e w' => e = .returned (.tuple #[]) ∧ CellB w' B r ∧ Kept w w' (fun k_ => k_ = B) ∧ Below w0.heap.size w0 w' := by
  unfold difs.f at h
  by_cases c5 : s.length ≤ 35184372088832
  · rw [if_pos c5] at h
    have hBw : B < w.heap.size := blk_lt hc
    have HF := Aside0.mk hf
    have H0 := Aside0.mk h0
    have H1 := Aside0.mk h1
    have HC0 := Aside0.mk hc0
    have HC1 := Aside0.mk hc1
    have HB := Aside0.mk hB
    have HLT := Aside0.mk hlt
    have HCE := Aside0.mk hc
    have HBW := Aside0.mk hBw
    have L5 := Aside0.mk c5
    have HK := Aside0.mk (Kept.refl w (fun k_ => k_ = B))
    have H' := Aside0.mk h
    clear hf h0 h1 hc0 hc1 hB hlt hc hBw h c5
    go_enter Try.func48, Try.ntmps48
    go_wp2_with (first
      | ((with_reducible refine gate_dst (N := 13) rfl ?_); refine Kd.R_make (Kd.int .i64) _ 2 rfl (N := 13) rfl 24 _ _ rfl (s.length : Int) rfl rfl Try.underlying24 (.int .i64 0) 8 infoD rfl (by decide) (by omega) 0 (ok := fun _ => True) (okp := fun _ => True) rfl (fun _ hk => hk) trivial (by omega) (by have := L5.out; omega) (Below.refl w.heap.size w) (Nat.le_refl _) ?_; intro v103 w9 ho10 hb hg_ hnew_; clear hg_ hnew_; rw [Int.toNat_natCast] at ho10; have HO := Aside0.mk (Kd.R_mono (Kd.R_bound ho10) (ok' := fun k_ => k_ ≠ B) (fun k_ hk => by have := HBW.out; have := hk.2.1; omega)); have n_ := y3 (below_step HB.out hb) (show CellB w9 B a from (hb.block B HBW.out).trans HCE.out) (Kept.of_below hb (fun k_ => k_ = B)); clear HB HCE HK ho10 hb; obtain ⟨HB, HCE, HK⟩ := n_)
      | (go_at_call 39; refine (impl_length_int64.calls A0 c0 t _ _ (H0.out _ HK.out) HC0.out rfl).mono ?_; rintro e w' ⟨rfl, ⟨n0, rfl⟩⟩; have n_ := y4 (Kd.R_drewN HO.out n0) (show CellB (w9.drewN n0) B a from HCE.out) (Kept.drewN HK.out n0) (pw_below_drewN HB.out n0); clear HB HCE HK HO; obtain ⟨HO, HCE, HK, HB⟩ := n_))
    generalize hm : List.replicate s.length (0 : Int) = m at HO H'
    clear hm
    go_loopg [18] k (fun kq v18 w' => ∃ (m_1 : List Int) (n_1 : Int) (a_1 : Int), v18 = .int .i64 n_1 ∧ Aside0 (difs.l0 st kq t s m_1 (t.length : Int) n_1 a_1 = some r) ∧ Aside0 (kq ≤ k) ∧ Aside0 (Kd.R (Kd.int .i64) 2 w' w.heap.size (fun k_ => k_ ≠ B) v103 m_1) ∧ Aside0 (CellB w' B a_1) ∧ Aside0 (Kept w w' (fun k_ => k_ = B)) ∧ Aside0 (Below w0.heap.size w0 w'))
    case atStart => exact ⟨m, 0, a, zF, H', ⟨Nat.le_refl _⟩, HO, HCE, HK, HB⟩
    case round =>
      clear H' HO HCE HK HB
      obtain ⟨m_1, n_1, a_1, rfl, HA, HK1, HO, HCE, HK, HB⟩ := hrel
      cases gk with
      | zero => exact absurd HA.out (by simp [difs.l0])
      | succ k1 =>
        have H := HA.out
        clear HA
        simp only [difs.l0] at H
        by_cases c12 : n_1 < wrap64 ((t.length : Int) + 1)
        · rw [if_pos c12] at H
          have c12b0 : decide (n_1 < wrap64 ((t.length : Int) + 1)) = true := decide_eq_true c12
          clear c12
          have H' := Aside0.mk H
          clear H
          go_wp2
          go_loopg [23] k1 (fun kq v23 w' => ∃ (i_2 : Int) (a_2 : Int), v23 = .int .i64 i_2 ∧ Aside0 (difs.l1 st kq t s m_1 (t.length : Int) n_1 i_2 a_2 = some r) ∧ Aside0 (kq ≤ k1) ∧ Aside0 (Kd.R (Kd.int .i64) 2 w' w.heap.size (fun k_ => k_ ≠ B) v103 m_1) ∧ Aside0 (CellB w' B a_2) ∧ Aside0 (Kept w w' (fun k_ => k_ = B)) ∧ Aside0 (Below w0.heap.size w0 w'))
          case atStart => exact ⟨0, a_1, zF, H', ⟨Nat.le_refl _⟩, HO, HCE, HK, HB⟩
          case round =>
            clear H' HO HCE HK HB
            try clear c12b0
            obtain ⟨i_2, a_2, rfl, HA, HK2, HO, HCE, HK, HB⟩ := hrel
            cases gk with
            | zero => exact absurd HA.out (by simp [difs.l1])
            | succ k2 =>
              have H := HA.out
              clear HA
              simp only [difs.l1] at H
              by_cases c13 : i_2 < (s.length : Int)
              · rw [if_pos c13] at H
                have c13b0 : decide (i_2 < (s.length : Int)) = true := decide_eq_true c13
                by_cases c14 : 0 ≤ i_2
                · rw [if_pos c14] at H
                  have c14b0 : decide (0 ≤ i_2) = true := decide_eq_true c14
                  by_cases c16 : i_2 < (m_1.length : Int)
                  · rw [if_pos c16] at H
                    have c16b0 : decide (i_2 < (m_1.length : Int)) = true := decide_eq_true c16
                    have H' := Aside0.mk H
                    clear H
                    obtain ⟨ad106, e106, hx106_0⟩ := Kd.at_int (H1.out _ HK.out) i_2 c14 c13
                    cases e106
                    obtain ⟨Ao18, co18, eo18⟩ := Kd.R_slice HO.out
                    subst eo18
                    obtain ⟨ad107, e107, hx107_0⟩ := Kd.at_int (Kd.R_reads' HO.out).2.2 i_2 c14 c16
                    cases e107
                    have p106 := eq_true c14
                    have q106 := eq_true c13
                    have q107 := eq_true c16
                    clear c13 c14 c16
                    go_wp2_with (go_at_fn g; refine (HF.out _ _ _ HCE.out).mono ?_; rintro e w8 ⟨rfl, hce, hk, hb⟩; have n_ := y4 (Kd.R_kept HO.out hk (fun k_ h_ => h_)) hce (Kept.then_ HK.out hk (fun k_ h_ => .inl h_)) (hb w0 HB.out HLT.out); clear HO HCE HK HB hce hk hb; obtain ⟨HO, HCE, HK, HB⟩ := n_)
                    go_roundg k2
                    case measure => have := HK1.out; have := HK2.out; omega
                    case rel => exact ⟨(wrap64 (i_2 + 1)), _, zF, H', ⟨by have := HK1.out; have := HK2.out; omega⟩, HO, HCE, HK, HB⟩
                  · rw [if_neg c16] at H
                    exact absurd H (by simp)
                · rw [if_neg c14] at H
                  exact absurd H (by simp)
              · rw [if_neg c13] at H
                have c13b0 : decide (i_2 < (s.length : Int)) = false := decide_eq_false c13
                clear c13
                by_cases c17 : n_1 < (t.length : Int)
                · rw [if_pos c17] at H
                  have c17b0 : decide (n_1 < (t.length : Int)) = true := decide_eq_true c17
                  by_cases c18 : 0 ≤ n_1
                  · rw [if_pos c18, if_pos c17] at H
                    have c18b0 : decide (0 ≤ n_1) = true := decide_eq_true c18
                    by_cases c19 : 0 ≤ rd t n_1
                    · rw [if_pos c19] at H
                      have c19b0 : decide (0 ≤ rd t n_1) = true := decide_eq_true c19
                      by_cases c20 : rd t n_1 < (m_1.length : Int)
                      · rw [if_pos c20] at H
                        have c20b0 : decide (rd t n_1 < (m_1.length : Int)) = true := decide_eq_true c20
                        have H' := Aside0.mk H
                        clear H
                        obtain ⟨ad106, e106, hx106_0⟩ := Kd.at_int (H0.out _ HK.out) n_1 c18 c17
                        cases e106
                        obtain ⟨Ao16, co16, eo16⟩ := Kd.R_slice HO.out
                        subst eo16
                        obtain ⟨ad107, e107, hx107_0⟩ := Kd.at_int (Kd.R_reads' HO.out).2.2 (rd t n_1) c19 c20
                        cases e107
                        obtain ⟨go15, co15, eo15, gb15, gl15, cl15, HG15⟩ := Kd.R_form HO.out (by omega)
                        (first | cases eo15 | (injection eo15 with ea_ en_ ec_; (first | subst ea_ | (injection ea_ with ea_; subst ea_)); subst ec_; clear en_))
                        have GB15 := Aside0.mk gb15
                        clear gb15 gl15 HG15
                        (first | simp only [add_plain] at hx107_0 | skip)
                        obtain ⟨hx15_0, hf15_0⟩ := Kd.R_celln 0 HO.out (rd t n_1) c19 c20
                        have p106 := eq_true c18
                        have q106 := eq_true c17
                        have p107 := eq_true c19
                        have q107 := eq_true c20
                        clear c17 c18 c19 c20
                        have HP17 := Kd.R_putg HO.out (rd t n_1) (wrap64 ((rd m_1 (rd t n_1)) + 1))
                        go_wp2_with (first | ((with_reducible refine gate_store (t := 2) (p := 52) rfl ?_); refine store_event (t := 2) (p := 52) (v := ?vo_w18) (w1 := (wr.setCell ⟨go15, (rd t n_1).toNat, none⟩ (.int .i64 (wrap64 ((rd m_1 (rd t n_1)) + 1))))) ?hg ?ho ?hn ?hr ?_; (case ho => rfl); (case hg => rfl); (case hn => rfl); (case hr => first | (go_simp; done) | (go_simp; rfl)); intro w18 hw; have n_ := y4 (show Kd.R (Kd.int .i64) 2 w18 w.heap.size (fun k_ => k_ ≠ B) _ _ by rw [hw]; exact HP17.1) (show CellB w18 B a_2 by rw [hw]; exact blk_far HCE.out (p := ⟨go15, (rd t n_1).toNat, none⟩) (by have := GB15.out; have := HBW.out; show B ≠ go15; omega) _) (show Kept w w18 (fun k_ => k_ = B) by rw [hw]; exact Kept.setCell HK.out (.inr GB15.out) _) (show Below w0.heap.size w0 w18 by rw [hw]; exact below_set HB.out (Nat.le_trans HLT.out (Nat.le_of_lt (Nat.lt_of_lt_of_le HBW.out GB15.out)))); clear HO HCE HK HB HP17 hw; obtain ⟨HO, HCE, HK, HB⟩ := n_))
                        go_roundg k2
                        case measure => have := HK1.out; have := HK2.out; omega
                        case rel => exact ⟨_, (wrap64 (n_1 + 1)), a_2, zF, H', ⟨by have := HK1.out; have := HK2.out; omega⟩, HO, HCE, HK, HB⟩
                      · rw [if_neg c20] at H
                        exact absurd H (by simp)
                    · rw [if_neg c19] at H
                      exact absurd H (by simp)
                  · rw [if_neg c18] at H
                    exact absurd H (by simp)
                · rw [if_neg c17] at H
                  have c17b0 : decide (n_1 < (t.length : Int)) = false := decide_eq_false c17
                  clear c17
                  have H' := Aside0.mk H
                  clear H
                  go_wp2
                  go_roundg k2
                  case measure => have := HK1.out; have := HK2.out; omega
                  case rel => exact ⟨m_1, (wrap64 (n_1 + 1)), a_2, zF, H', ⟨by have := HK1.out; have := HK2.out; omega⟩, HO, HCE, HK, HB⟩
        · rw [if_neg c12] at H
          have c12b0 : decide (n_1 < wrap64 ((t.length : Int) + 1)) = false := decide_eq_false c12
          clear c12
          obtain rfl := Option.some.inj H
          clear H
          go_wp2
          go_end0
          exact ⟨rfl, HCE.out, HK.out, HB.out⟩
  · rw [if_neg c5] at h
    exact absurd h (by simp)
def sqD (a d : Int) : Int := wrap64 (a + wrap64 (d * d))
end Go.Proofs.Ytfmjckkgnieccaa.P
end
section
namespace Go.Proofs.Ytfmjckkgnieccaa.P
open Go.RowKit Go.Proofs.YtfmjckkgnieccaaW.PrintWords Go.Proofs.YtfmjckkgnieccaaW.PrintLast Go.Proofs.YtfmjckkgnieccaaW.PrintMore
attribute [local go_sem] max2_int min2_int max_two min_two max_three min_three max_four min_four   -- for this text's walks alone
set_option linter.unusedVariables false
set_option linter.unusedSimpArgs false
def slices_Max_Sint64_int64.l0 : Nat → List Int → Int → Int → Option (Int)
  | 0, _, _, _ => none
  | k + 1, x0, x3, x4 => if x4 < (x0.length : Int) then (if 0 ≤ x4 then (slices_Max_Sint64_int64.l0 k x0 (mx x3 (rd x0 x4)) (wrap64 (x4 + 1))) else (none)) else (some x3)
def slices_Max_Sint64_int64.f (k : Nat) (l0 : List Int) : Option (Int) := if (l0.length : Int) < 1 then (none) else (if 0 < (l0.length : Int) then (slices_Max_Sint64_int64.l0 k l0 (rd l0 0) 1) else (none))
theorem slices_Max_Sint64_int64.mono_l : ∀ k, (∀ y0 y1 y2, LeO (slices_Max_Sint64_int64.l0 k y0 y1 y2) (slices_Max_Sint64_int64.l0 (k + 1) y0 y1 y2))
  | 0 => fun _ _ _ r h => by simp [slices_Max_Sint64_int64.l0] at h
  | k + 1 => by
    have ih0 := slices_Max_Sint64_int64.mono_l k
    · intro y0 y1 y2
      unfold slices_Max_Sint64_int64.l0
      repeat' first | (with_reducible exact ih0 _ _ _) | (with_reducible exact LeO.refl _) | (with_reducible exact LeO.none _) | (with_reducible refine LeO.ite ?_ ?_) | (with_reducible refine LeO.bind ?_ (fun _ => ?_)) | exact ih0 _ _ _ | exact LeO.none _ | refine LeO.ite ?_ ?_ | refine LeO.bind ?_ (fun _ => ?_)
theorem slices_Max_Sint64_int64.mono : ∀ a0 k, LeO (slices_Max_Sint64_int64.f k a0) (slices_Max_Sint64_int64.f (k + 1) a0) := by
  intro a0 k
  have ih0 := slices_Max_Sint64_int64.mono_l k
  unfold slices_Max_Sint64_int64.f
  repeat' first | (with_reducible exact ih0 _ _ _) | (with_reducible exact LeO.refl _) | (with_reducible exact LeO.none _) | (with_reducible refine LeO.ite ?_ ?_) | (with_reducible refine LeO.bind ?_ (fun _ => ?_)) | exact ih0 _ _ _ | exact LeO.none _ | refine LeO.ite ?_ ?_ | refine LeO.bind ?_ (fun _ => ?_)
set_option maxHeartbeats 8000000 in
set_option maxRecDepth 100000 in
theorem slices_Max_Sint64_int64.calls (k : Nat) (A0 : Option Addr) (c0 : Nat) (l0 : List Int) (r : Int) (w : World) (hr0 : Kd.C (Kd.int .i64) w A0 l0.length l0) (hc0 : l0.length ≤ c0) (h : slices_Max_Sint64_int64.f k l0 = some r) :
    Calls Try.prog 44 #[.slice A0 l0.length c0] w fun e w' => e = .returned (.int .i64 r) ∧ Below w.heap.size w w' := by
 have HR0 := Aside0.mk hr0
 have HC0 := Aside0.mk hc0
 clear hr0 hc0
 have HB := Aside0.mk (Below.refl w.heap.size w)
 have H : (if (l0.length : Int) < 1 then (none) else (if 0 < (l0.length : Int) then (slices_Max_Sint64_int64.l0 k l0 (rd l0 0) 1) else (none))) = some r := h
 clear h
 by_cases c2 : (l0.length : Int) < 1
 ·
  rw [if_pos c2] at H
  exact absurd H (by simp)
 rw [if_neg c2] at H
 have c2b0 : decide ((l0.length : Int) < 1) = false := decide_eq_false c2
 have c2b1 : decide (l0.length < 1) = false := decide_eq_false (by omega)
 clear c2
 by_cases c3 : 0 < (l0.length : Int)
 case neg => rw [if_neg c3] at H; exact absurd H (by simp)
 rw [if_pos c3] at H
 have c3b0 : decide (0 < (l0.length : Int)) = true := decide_eq_true c3
 have c3b1 : decide (0 < l0.length) = true := decide_eq_true (by omega)
 clear c3
 have H' := Aside0.mk H
 clear H
 have p101 : 0 ≤ (0 : Int) := (by omega)
 have q101 : 0 < (l0.length : Int) := zD
 obtain ⟨ad101, e101, hx101_0⟩ := Kd.at_int HR0.out 0 p101 q101
 cases e101
 have qi101 : (0 < l0.length) = True := eq_true (by omega)
 (try rw [show ((0 : Int)).toNat = 0 from rfl] at hx101_0)
 (try rw [Addr.add_zero'] at hx101_0)
 replace p101 := eq_true p101
 replace q101 := eq_true q101
 go_enter Try.func44, Try.ntmps44
 go_wp2
 go_loopg [3, 4] k (fun kq v3 v4 w' => ∃ (x3_1 : Int) (x4_1 : Int), v3 = .int .i64 x3_1 ∧ v4 = .int .i64 x4_1 ∧ Aside0 (slices_Max_Sint64_int64.l0 kq l0 x3_1 x4_1 = some r) ∧ Aside0 (kq ≤ k) ∧ Aside0 (Below w.heap.size w w'))
 case atStart => exact ⟨(rd l0 0), (1), zF, zF, H', ⟨Nat.le_refl _⟩, ⟨zB⟩⟩
 clear H'
 try clear c2
 try clear c2b0
 try clear c2b1
 try clear c3
 try clear c3b0
 try clear c3b1
 try clear hx101_0
 try clear p101
 try clear q101
 obtain ⟨x3_1, x4_1, rfl, rfl, HA, HK1, HB⟩ := hrel
 cases gk with
 | zero => exact absurd HA.out (by simp [slices_Max_Sint64_int64.l0])
 | succ k1 =>
   have H := HA.out
   clear HA
   simp only [slices_Max_Sint64_int64.l0] at H
   by_cases c4 : x4_1 < (l0.length : Int)
   · rw [if_pos c4] at H
     have c4b0 : decide (x4_1 < (l0.length : Int)) = true := decide_eq_true c4
     clear c4
     by_cases c5 : 0 ≤ x4_1
     · rw [if_pos c5] at H
       have c5b0 : decide (0 ≤ x4_1) = true := decide_eq_true c5
       clear c5
       obtain ⟨ji6, hji6⟩ : ∃ j_ : Int, (mx x3_1 (rd l0 x4_1)) = j_ := ⟨_, rfl⟩
       replace H : (slices_Max_Sint64_int64.l0 k1 l0 ji6 (wrap64 (x4_1 + 1))) = some r := by first | (rw [hji6] at H; exact H) | (simp only [hji6] at H ⊢; exact H)
       have hji6_ : (if x3_1 < (rd l0 x4_1) then (rd l0 x4_1) else x3_1) = ji6 := hji6
       have H' := Aside0.mk H
       clear H
       have p102 : 0 ≤ (x4_1 : Int) := zD
       have q102 : x4_1 < (l0.length : Int) := zD
       obtain ⟨ad102, e102, hx102_0⟩ := Kd.at_int HR0.out x4_1 p102 q102
       obtain rfl : ad101 = ad102 := (by injection e102)
       replace hx102_0 := (HB.out.cell (World.block_lt_of_cell? w _ hx102_0)).trans hx102_0
       replace p102 := eq_true p102
       replace q102 := eq_true q102
       go_wp2
       go_roundg k1
       case measure => have := HK1.out; omega
       case rel => exact ⟨(ji6), (wrap64 (x4_1 + 1)), (by first | rfl | (simp; done) | (simp only [← hji6] <;> (first | rfl | simp)) | (simp [*]; done)), zF, H', ⟨by have := HK1.out; omega⟩, ⟨zB⟩⟩
     · rw [if_neg c5] at H
       exact absurd H (by simp)
   · rw [if_neg c4] at H
     have c4b0 : decide (x4_1 < (l0.length : Int)) = false := decide_eq_false c4
     clear c4
     obtain rfl := Option.some.inj H
     go_wp2
     go_ret
     exact ⟨zE, zB⟩
end Go.Proofs.Ytfmjckkgnieccaa.P
end
section
namespace Go.Proofs.Ytfmjckkgnieccaa.P
open Go.RowKit Go.Proofs.YtfmjckkgnieccaaW.PrintWords Go.Proofs.YtfmjckkgnieccaaW.PrintLast Go.Proofs.YtfmjckkgnieccaaW.PrintMore
attribute [local go_sem] max2_int min2_int max_two min_two max_three min_three max_four min_four   -- for this text's walks alone
set_option linter.unusedVariables false
set_option linter.unusedSimpArgs false
def impl_share.l0 : Nat → Int → Int → List Int → Int → Int → Option (Int)
  | 0, _, _, _, _, _ => none
  | k + 1, x1, x5, x8, x9, x10 => if x10 < x9 then (if 0 ≤ x10 then (if x10 < (x8.length : Int) then (if (rd x8 x10) = x1 then (impl_share.l0 k x1 (wrap64 (x5 + 1)) x8 x9 (wrap64 (x10 + 1))) else (impl_share.l0 k x1 x5 x8 x9 (wrap64 (x10 + 1)))) else (none)) else (none)) else (some x5)
def impl_share.f (k : Nat) (l0 : List Int) (a1 : Int) : Option (Int) := impl_share.l0 k a1 0 l0 (l0.length : Int) 0
theorem impl_share.mono_l : ∀ k, (∀ y0 y1 y2 y3 y4, LeO (impl_share.l0 k y0 y1 y2 y3 y4) (impl_share.l0 (k + 1) y0 y1 y2 y3 y4))
  | 0 => fun _ _ _ _ _ r h => by simp [impl_share.l0] at h
  | k + 1 => by
    have ih0 := impl_share.mono_l k
    · intro y0 y1 y2 y3 y4
      unfold impl_share.l0
      repeat' first | (with_reducible exact ih0 _ _ _ _ _) | (with_reducible exact LeO.refl _) | (with_reducible exact LeO.none _) | (with_reducible refine LeO.ite ?_ ?_) | (with_reducible refine LeO.bind ?_ (fun _ => ?_)) | exact ih0 _ _ _ _ _ | exact LeO.none _ | refine LeO.ite ?_ ?_ | refine LeO.bind ?_ (fun _ => ?_)
theorem impl_share.mono : ∀ a0 a1 k, LeO (impl_share.f k a0 a1) (impl_share.f (k + 1) a0 a1) := by
  intro a0 a1 k
  have ih0 := impl_share.mono_l k
  unfold impl_share.f
  repeat' first | (with_reducible exact ih0 _ _ _ _ _) | (with_reducible exact LeO.refl _) | (with_reducible exact LeO.none _) | (with_reducible refine LeO.ite ?_ ?_) | (with_reducible refine LeO.bind ?_ (fun _ => ?_)) | exact ih0 _ _ _ _ _ | exact LeO.none _ | refine LeO.ite ?_ ?_ | refine LeO.bind ?_ (fun _ => ?_)
set_option maxHeartbeats 8000000 in
set_option maxRecDepth 100000 in
theorem impl_share.calls (k : Nat) (A0 : Option Addr) (c0 : Nat) (l0 : List Int) (a1 : Int) (r : Int) (w : World) (hr0 : Kd.C (Kd.int .i64) w A0 l0.length l0) (hc0 : l0.length ≤ c0) (h : impl_share.f k l0 a1 = some r) :
    Calls Try.prog 66 #[.slice A0 l0.length c0, .int .i64 a1] w fun e w' => e = .returned (.int .i64 r) ∧ Drawn0 w w' := by
 have HR0 := Aside0.mk hr0
 have HC0 := Aside0.mk hc0
 clear hr0 hc0
 have H : (impl_share.l0 k a1 0 l0 (l0.length : Int) 0) = some r := h
 clear h
 have H' := Aside0.mk H
 clear H
 go_enter Try.func66, Try.ntmps66
 go_wp2
 go_loopg [5, 10] k (fun kq v5 v10 w' => ∃ (x5_1 : Int) (x10_1 : Int), v5 = .int .i64 x5_1 ∧ v10 = .int .i64 x10_1 ∧ Aside0 (impl_share.l0 kq a1 x5_1 l0 (l0.length : Int) x10_1 = some r) ∧ Aside0 (kq ≤ k) ∧ Drawn0 w w')
 case atStart => exact ⟨(0), (0), zF, zF, H', ⟨Nat.le_refl _⟩, by repeat (first | exact Drawn0.refl _ | apply Drawn0.step)⟩
 clear H'
 obtain ⟨x5_1, x10_1, rfl, rfl, HA, HK1, ⟨m1, rfl⟩⟩ := hrel
 cases gk with
 | zero => exact absurd HA.out (by simp [impl_share.l0])
 | succ k1 =>
   have H := HA.out
   clear HA
   simp only [impl_share.l0] at H
   by_cases c3 : x10_1 < (l0.length : Int)
   · rw [if_pos c3] at H
     have c3b0 : decide (x10_1 < (l0.length : Int)) = true := decide_eq_true c3
     clear c3
     by_cases c4 : 0 ≤ x10_1
     · rw [if_pos c4] at H
       have c4b0 : decide (0 ≤ x10_1) = true := decide_eq_true c4
       clear c4
       by_cases c5 : x10_1 < (l0.length : Int)
       · rw [if_pos c5] at H
         have c5b0 : decide (x10_1 < (l0.length : Int)) = true := decide_eq_true c5
         clear c5
         by_cases c6 : (rd l0 x10_1) = a1
         · rw [if_pos c6] at H
           have c6b0 : ((rd l0 x10_1) == a1) = true := beq_iff_eq.mpr c6
           have c6b1 : ((rd l0 x10_1) != a1) = false := bne_eq_false_iff_eq.mpr c6
           clear c6
           have H' := Aside0.mk H
           clear H
           have p101 : 0 ≤ (x10_1 : Int) := zD
           have q101 : x10_1 < (l0.length : Int) := zD
           obtain ⟨ad101, e101, hx101_0⟩ := Kd.at_int HR0.out x10_1 p101 q101
           cases e101
           replace p101 := eq_true p101
           replace q101 := eq_true q101
           go_wp2
           go_roundg k1
           case measure => have := HK1.out; omega
           case rel => exact ⟨(wrap64 (x5_1 + 1)), (wrap64 (x10_1 + 1)), zF, zF, H', ⟨by have := HK1.out; omega⟩, by repeat (first | exact Drawn0.refl _ | apply Drawn0.step)⟩
         · rw [if_neg c6] at H
           have c6b0 : ((rd l0 x10_1) == a1) = false := beq_eq_false_iff_ne.mpr c6
           have c6b1 : ((rd l0 x10_1) != a1) = true := bne_iff_ne.mpr c6
           have H' := Aside0.mk H
           clear H
           have p101 : 0 ≤ (x10_1 : Int) := zD
           have q101 : x10_1 < (l0.length : Int) := zD
           obtain ⟨ad101, e101, hx101_0⟩ := Kd.at_int HR0.out x10_1 p101 q101
           cases e101
           replace p101 := eq_true p101
           replace q101 := eq_true q101
           go_wp2
           go_roundg k1
           case measure => have := HK1.out; omega
           case rel => exact ⟨(x5_1), (wrap64 (x10_1 + 1)), zF, zF, H', ⟨by have := HK1.out; omega⟩, by repeat (first | exact Drawn0.refl _ | apply Drawn0.step)⟩
       · rw [if_neg c5] at H
         exact absurd H (by simp)
     · rw [if_neg c4] at H
       exact absurd H (by simp)
   · rw [if_neg c3] at H
     have c3b0 : decide (x10_1 < (l0.length : Int)) = false := decide_eq_false c3
     clear c3
     obtain rfl := Option.some.inj H
     go_wp2
     go_ret
     exact ⟨by first | rfl | (simp; done) | (simp [*]; done), by repeat (first | exact Drawn0.refl _ | apply Drawn0.step)⟩
end Go.Proofs.Ytfmjckkgnieccaa.P
end
section
namespace Go.Proofs.Ytfmjckkgnieccaa.P
open Go.RowKit Go.Proofs.YtfmjckkgnieccaaW.PrintWords Go.Proofs.YtfmjckkgnieccaaW.PrintLast Go.Proofs.YtfmjckkgnieccaaW.PrintMore
attribute [local go_sem] max2_int min2_int max_two min_two max_three min_three max_four min_four   -- for this text's walks alone
set_option linter.unusedVariables false
set_option linter.unusedSimpArgs false
def impl_sharesOf.l0 : Nat → List Int → List Int → Int → Int → Option (List Int)
  | 0, _, _, _, _ => none
  | k + 1, x0, x3, x7, x8 => if x8 < x7 then ((impl_share.f k x0 x8).bind fun t102 => (if x3.length < 17592186044416 then (impl_sharesOf.l0 k x0 (x3 ++ [t102]) x7 (wrap64 (x8 + 1))) else (none))) else (some x3)
def impl_sharesOf.f (k : Nat) (l0 : List Int) : Option (List Int) := (slices_Max_Sint64_int64.f k l0).bind fun t101 => (impl_sharesOf.l0 k l0 ([] : List Int) (wrap64 (t101 + 1)) 0)
theorem impl_sharesOf.mono_l : ∀ k, (∀ y0 y1 y2 y3, LeO (impl_sharesOf.l0 k y0 y1 y2 y3) (impl_sharesOf.l0 (k + 1) y0 y1 y2 y3))
  | 0 => fun _ _ _ _ r h => by simp [impl_sharesOf.l0] at h
  | k + 1 => by
    have ih0 := impl_sharesOf.mono_l k
    · intro y0 y1 y2 y3
      unfold impl_sharesOf.l0
      repeat' first | (with_reducible exact ih0 _ _ _ _) | (with_reducible exact impl_share.mono _ _ _) | (with_reducible exact slices_Max_Sint64_int64.mono _ _) | (with_reducible exact LeO.refl _) | (with_reducible exact LeO.none _) | (with_reducible refine LeO.ite ?_ ?_) | (with_reducible refine LeO.bind ?_ (fun _ => ?_)) | exact ih0 _ _ _ _ | exact impl_share.mono _ _ _ | exact slices_Max_Sint64_int64.mono _ _ | exact LeO.none _ | refine LeO.ite ?_ ?_ | refine LeO.bind ?_ (fun _ => ?_)
theorem impl_sharesOf.mono : ∀ a0 k, LeO (impl_sharesOf.f k a0) (impl_sharesOf.f (k + 1) a0) := by
  intro a0 k
  have ih0 := impl_sharesOf.mono_l k
  unfold impl_sharesOf.f
  repeat' first | (with_reducible exact ih0 _ _ _ _) | (with_reducible exact impl_share.mono _ _ _) | (with_reducible exact slices_Max_Sint64_int64.mono _ _) | (with_reducible exact LeO.refl _) | (with_reducible exact LeO.none _) | (with_reducible refine LeO.ite ?_ ?_) | (with_reducible refine LeO.bind ?_ (fun _ => ?_)) | exact ih0 _ _ _ _ | exact impl_share.mono _ _ _ | exact slices_Max_Sint64_int64.mono _ _ | exact LeO.none _ | refine LeO.ite ?_ ?_ | refine LeO.bind ?_ (fun _ => ?_)
set_option maxHeartbeats 8000000 in
set_option maxRecDepth 100000 in
theorem impl_sharesOf.calls (k : Nat) (A0 : Option Addr) (c0 : Nat) (l0 : List Int) (r : List Int) (w : World) (hr0 : Kd.C (Kd.int .i64) w A0 l0.length l0) (hc0 : l0.length ≤ c0) (h : impl_sharesOf.f k l0 = some r) :
    Calls Try.prog 49 #[.slice A0 l0.length c0] w fun e w' => ∃ v0_ : Value, e = .returned (v0_) ∧ Kd.R (Kd.int .i64) 2 w' w.heap.size (fun _ => True) v0_ r ∧ Below w.heap.size w w' := by
 have HR0 := Aside0.mk hr0
 have HC0 := Aside0.mk hc0
 clear hr0 hc0
 have HB := Aside0.mk (Below.refl w.heap.size w)
 have H : ((slices_Max_Sint64_int64.f k l0).bind fun t101 => (impl_sharesOf.l0 k l0 ([] : List Int) (wrap64 (t101 + 1)) 0)) = some r := h
 clear h
 replace H := Option.bind_eq_some_iff.mp H
 obtain ⟨t101, A20, H⟩ := H
 replace H : (impl_sharesOf.l0 k l0 ([] : List Int) (wrap64 (t101 + 1)) 0) = some r := H
 have A2 := Aside0.mk A20
 clear A20
 have H' := Aside0.mk H
 clear H
 go_enter Try.func49, Try.ntmps49
 go_wp2_with (first | ((with_reducible refine gate_callee (f := 44) rfl ?_); refine goesL_ (some 6) rfl rfl Try.func44 zk rfl #[.slice A0 l0.length c0] rfl zA ?_; (with_reducible refine (slices_Max_Sint64_int64.calls k _ _ l0 t101 _ ?side1 ?side2 A2.out).mono ?_); (case side1 => exact zC HR0.out); (case side2 => exact HC0.out); rintro e w3 ⟨rfl, hb⟩; refine ⟨_, rfl, ?_⟩; replace HB := Aside0.mk (below_step (zB) hb); (try clear hb); (try clear hb2); (try clear hk); (try clear hi)))
 go_loopg [3, 8] k (fun kq v3 v8 w' => ∃ (x3_1 : List Int) (x8_1 : Int), v8 = .int .i64 x8_1 ∧ Aside0 (impl_sharesOf.l0 kq l0 x3_1 (wrap64 (t101 + 1)) x8_1 = some r) ∧ Aside0 (kq ≤ k) ∧ Aside0 (Kd.R (Kd.int .i64) 2 w' w.heap.size (fun _ => True) v3 x3_1) ∧ Aside0 (Below w.heap.size w w'))
 case atStart => exact ⟨(([] : List Int)), (0), zF, H', ⟨Nat.le_refl _⟩, ⟨zN⟩, ⟨zB⟩⟩
 clear H'
 obtain ⟨x3_1, x8_1, rfl, HA, HK1, HO_3, HB⟩ := hrel
 cases gk with
 | zero => exact absurd HA.out (by simp [impl_sharesOf.l0])
 | succ k1 =>
   have H := HA.out
   clear HA
   simp only [impl_sharesOf.l0] at H
   by_cases c4 : x8_1 < (wrap64 (t101 + 1))
   · rw [if_pos c4] at H
     have c4b0 : decide (x8_1 < (wrap64 (t101 + 1))) = true := decide_eq_true c4
     clear c4
     replace H := Option.bind_eq_some_iff.mp H
     obtain ⟨t102, A50, H⟩ := H
     replace H : (if x3_1.length < 17592186044416 then (impl_sharesOf.l0 k1 l0 (x3_1 ++ [t102]) (wrap64 (t101 + 1)) (wrap64 (x8_1 + 1))) else (none)) = some r := H
     have A5 := Aside0.mk A50
     clear A50
     by_cases c6 : x3_1.length < 17592186044416
     · rw [if_pos c6] at H
       have LMc6 := Aside0.mk c6
       clear c6
       obtain ⟨y103, hy103⟩ : ∃ y_ : List Int, y_ = (x3_1 ++ [t102]) := ⟨_, rfl⟩
       replace H : (impl_sharesOf.l0 k1 l0 y103 (wrap64 (t101 + 1)) (wrap64 (x8_1 + 1))) = some r := zH hy103
       have Ny103 := Aside0.mk hy103
       clear hy103
       have H' := Aside0.mk H
       clear H
       go_wp2_with (first | ((with_reducible refine gate_callee (f := 66) rfl ?_); refine goesL_ (some 14) rfl rfl Try.func66 zk rfl #[.slice A0 l0.length c0, .int .i64 x8_1] rfl zA ?_; (with_reducible refine (impl_share.calls k1 _ _ l0 x8_1 t102 _ ?side1 ?side2 A5.out).mono ?_); (case side1 => exact zC (Kd.C_below HR0.out HB.out)); (case side2 => exact HC0.out); rintro e w' ⟨rfl, ⟨nd, rfl⟩⟩; refine ⟨_, rfl, ?_⟩) | ((with_reducible refine gate_builtin (b := .append) (xs := #[.tmp 11, .tmp 15]) rfl ?_); at_builtin; refine Kd.R_append (Kd.int .i64) (w0 := w) w.heap.size rfl (.tmp 11) (.tmp 15) 24 2 (.int .i64 0) 8 rfl Try.underlying24 info2 rfl (by decide) (by omega) u3 x3_1 t102 [.int .i64 t102] (fun _ => True) (fun _ => False) rfl rfl ?aP (fun _ hk => hk.elim) ?aF ?aO ?aB ?aS ?aL ?_; (case aP => exact rfl); (case aB => exact (zB)); (case aF => exact (fun _ _ => trivial)); (case aO => exact (zR HO_3.out)); (case aS => exact (below_size (zB))); (case aL => have := LMc6.out; omega); intro v104 w7 ho hb hg hat; rw [← Ny103.out] at ho; have n_ := y2 (hb) (ho); clear HB HO_3; obtain ⟨HB, HO105⟩ := n_; clear ho hb hg hat))
       go_roundg k1
       case measure => have := HK1.out; omega
       case rel => exact ⟨(y103), (wrap64 (x8_1 + 1)), zF, H', ⟨by have := HK1.out; omega⟩, ⟨zR HO105.out⟩, ⟨zB⟩⟩
     · rw [if_neg c6] at H
       exact absurd H (by simp)
   · rw [if_neg c4] at H
     have c4b0 : decide (x8_1 < (wrap64 (t101 + 1))) = false := decide_eq_false c4
     clear c4
     obtain rfl := Option.some.inj H
     go_wp2
     go_ret
     exact ⟨_, zE, zR HO_3.out, zB⟩
end Go.Proofs.Ytfmjckkgnieccaa.P
end
section
namespace Go.Proofs.Ytfmjckkgnieccaa.P
open Go.RowKit Go.Proofs.YtfmjckkgnieccaaW.PrintWords Go.Proofs.YtfmjckkgnieccaaW.PrintLast Go.Proofs.YtfmjckkgnieccaaW.PrintMore
attribute [local go_sem] max2_int min2_int max_two min_two max_three min_three max_four min_four   -- for this text's walks alone
set_option linter.unusedVariables false
set_option linter.unusedSimpArgs false
def idxF {α : Type} (p : α → Bool) (l : List α) : Int := if l.any p then (l.findIdx p : Int) else -1
def idxL (p : Int → Bool) (l : List Int) : Nat → Int → Option Int
  | 0, _ => none
  | k + 1, i => if i < (l.length : Int) then (if p (rd l i) = true then some i else idxL p l k (wrap64 (i + 1))) else some (-1)
theorem idxL_at (p : Int → Bool) (l : List Int) (hl : l.length ≤ 9223372036854775807) : ∀ (d n : Nat), n + d = l.length → (∀ x ∈ l.take n, p x = false) → idxL p l (d + 1) (n : Int) = some (idxF p l) := by
  intro d
  induction d with
  | zero =>
    intro n hn hp
    have hno : l.any p = false := by
      rw [List.take_of_length_le (by omega)] at hp
      simpa using hp
    simp only [idxL]
    rw [if_neg (by omega), idxF, if_neg (by simp [hno])]
  | succ d ih =>
    intro n hn hp
    have hlt : n < l.length := by omega
    have hrd : rd l (n : Int) = l[n] := by simp [rd, hlt]
    have htake : l.take (n + 1) = l.take n ++ [l[n]] := by rw [List.take_succ_eq_append_getElem hlt]
    rw [idxL, if_pos (by omega), hrd]
    by_cases h : p l[n] = true
    · rw [if_pos h, idxF, if_pos (by simp only [List.any_eq_true]; exact ⟨l[n], List.getElem_mem _, h⟩)]
      congr 2
      symm
      rw [List.findIdx_eq hlt]
      refine ⟨h, fun j hj => ?_⟩
      exact hp _ (List.mem_take_iff_getElem.2 ⟨j, by omega, rfl⟩)
    · rw [if_neg h, show wrap64 ((n : Int) + 1) = ((n + 1 : Nat) : Int) by unfold wrap64; omega]
      refine ih (n + 1) (by omega) ?_
      rw [htake]
      intro x hx
      rcases List.mem_append.1 hx with hx | hx
      · exact hp x hx
      · rw [List.mem_singleton.1 hx]
        simpa using h
theorem idxF_nonneg {α : Type} (p : α → Bool) (l : List α) : decide (0 ≤ idxF p l) = l.any p := by
  unfold idxF
  by_cases h : l.any p = true
  · rw [if_pos h, h]; simp
  · rw [if_neg h]
    simp only [Bool.not_eq_true] at h
    rw [h]; simp
theorem all_not_any {α : Type} (p : α → Bool) (l : List α) : l.all p = !(l.any fun x => !p x) := by
  induction l with
  | nil => rfl
  | cons x l ih => rw [List.all_cons, List.any_cons, Bool.not_or, Bool.not_not, ih]
theorem rd_mem {l : List Int} {i : Int} (h0 : 0 ≤ i) (h : i < (l.length : Int)) : rd l i ∈ l := by
  have hlt : i.toNat < l.length := by omega
  simp [rd, hlt]
end Go.Proofs.Ytfmjckkgnieccaa.P
end
section
namespace Go.Proofs.Ytfmjckkgnieccaa.P
open Go.RowKit Go.Proofs.YtfmjckkgnieccaaW.PrintWords Go.Proofs.YtfmjckkgnieccaaW.PrintLast Go.Proofs.YtfmjckkgnieccaaW.PrintMore
attribute [local go_sem] max2_int min2_int max_two min_two max_three min_three max_four min_four   -- for this text's walks alone
set_option linter.unusedVariables false
set_option linter.unusedSimpArgs false
set_option maxHeartbeats 4000000 in
set_option maxRecDepth 100000 in
theorem fv_IndexFunc (g : Nat) (lb : Array Value) (eg : ∀ args w, (callFunc g args).run Try.prog w = .ok (.enter g args) w) (p : Int → Bool) (A0 : Option Addr) (c0 : Nat) (l0 : List Int) (w : World)
    (hr0 : Kd.C (Kd.int .i64) w A0 l0.length l0) (hc0 : l0.length ≤ c0)
    (hp : ∀ (W : World) (x : Int), Below w.heap.size w W → x ∈ l0 → Calls Try.prog g (#[.int .i64 x] ++ lb) W fun e w' => e = .returned (.bool (p x)) ∧ Below W.heap.size W w') :
    Calls Try.prog 72 #[.slice A0 l0.length c0, .func (.func g) #[] lb] w fun e w' => e = .returned (.int .i64 (idxF p l0)) ∧ Below w.heap.size w w' := by
  have H : idxL p l0 (l0.length + 1) 0 = some (idxF p l0) := idxL_at p l0 hr0.2.1 l0.length 0 (by omega) (by simp)
  generalize idxF p l0 = r at H ⊢
  have HR0 := Aside0.mk hr0
  have HC0 := Aside0.mk hc0
  have HP := Aside0.mk hp
  clear hr0 hc0 hp
  have H' := Aside0.mk H
  clear H
  have HB := Aside0.mk (Below.refl w.heap.size w)
  go_enter Try.func72, Try.ntmps72
  go_wp2
  go_loopg [5, 8] (l0.length + 1) (fun kq v5 v8 w' => ∃ x8 : Int, v8 = .int .i64 x8 ∧ Aside0 (idxL p l0 kq x8 = some r) ∧ Aside0 (0 ≤ x8) ∧ Aside0 (Below w.heap.size w w'))
  case atStart => exact ⟨0, rfl, H', ⟨by omega⟩, HB⟩
  case round =>
    clear H' HB
    obtain ⟨x8, rfl, HA, H0, HB⟩ := hrel
    cases gk with
    | zero => exact absurd HA.out (by simp [idxL])
    | succ k1 =>
      have H := HA.out
      clear HA
      simp only [idxL] at H
      by_cases c3 : x8 < (l0.length : Int)
      · rw [if_pos c3] at H
        obtain ⟨ad, e1, hx⟩ := Kd.at_int HR0.out x8 H0.out c3
        cases e1
        have hcell := pw_cell_below HB.out hx
        clear hx
        have hcall := HP.out _ (rd l0 x8) HB.out (rd_mem H0.out c3)
        have c3b := decide_eq_true c3
        have c0b := eq_true H0.out
        have c3c := eq_true c3
        have HM : Aside0 (x8 < 9223372036854775807) := ⟨by have := HR0.out.2.1; omega⟩
        clear c3
        generalize rd l0 x8 = y at H hcell hcall
        cases hq : p y with
        | true =>
          rw [hq, if_pos rfl] at H
          rw [hq] at hcall
          obtain rfl := Option.some.inj H
          clear H hq
          have HQ := Aside0.mk hcall
          clear hcall
          go_wp2_with (go_at_fn g; refine HQ.out.mono ?_; rintro e w' ⟨rfl, hb1⟩)
          go_ret
          exact ⟨rfl, below_step HB.out hb1⟩
        | false =>
          rw [hq, if_neg (by simp)] at H
          rw [hq] at hcall
          have H' := Aside0.mk H
          clear H hq
          have HQ := Aside0.mk hcall
          clear hcall
          go_wp2_with (go_at_fn g; refine HQ.out.mono ?_; rintro e w' ⟨rfl, hb1⟩)
          go_roundg k1
          case measure => omega
          case rel => exact ⟨(wrap64 (x8 + 1)), zF, H', ⟨by have h1 := HM.out; have h2 := H0.out; unfold wrap64; omega⟩, ⟨below_step HB.out hb1⟩⟩
      · rw [if_neg c3] at H
        obtain rfl := Option.some.inj H
        have c3b := decide_eq_false c3
        clear c3 H
        go_wp2
        go_ret
        exact ⟨rfl, HB.out⟩
set_option maxHeartbeats 4000000 in
theorem fv_ContainsFunc (g : Nat) (lb : Array Value) (eg : ∀ args w, (callFunc g args).run Try.prog w = .ok (.enter g args) w) (p : Int → Bool) (A0 : Option Addr) (c0 : Nat) (l0 : List Int) (w : World)
    (hr0 : Kd.C (Kd.int .i64) w A0 l0.length l0) (hc0 : l0.length ≤ c0)
    (hp : ∀ (W : World) (x : Int), Below w.heap.size w W → x ∈ l0 → Calls Try.prog g (#[.int .i64 x] ++ lb) W fun e w' => e = .returned (.bool (p x)) ∧ Below W.heap.size W w') :
    Calls Try.prog 70 #[.slice A0 l0.length c0, .func (.func g) #[] lb] w fun e w' => e = .returned (.bool (l0.any p)) ∧ Below w.heap.size w w' := by
  rw [← idxF_nonneg p l0]
  have HQ := Aside0.mk (fv_IndexFunc g lb eg p A0 c0 l0 w hr0 hc0 hp)
  clear hr0 hc0 hp
  go_enter Try.func70, Try.ntmps70
  go_wp2_with (go_at_call 72; refine HQ.out.mono ?_; rintro e w' ⟨rfl, hb1⟩)
  go_ret
  exact ⟨rfl, hb1⟩
set_option maxHeartbeats 4000000 in
theorem fv_areAll_1 (g : Nat) (lb : Array Value) (eg : ∀ args w, (callFunc g args).run Try.prog w = .ok (.enter g args) w) (p : Int → Bool) (B : Nat) (x : Int) (W : World)
    (hc : W.cell? ⟨B, 0, none⟩ = some (.func (.func g) #[] lb))
    (hp : Calls Try.prog g (#[.int .i64 x] ++ lb) W fun e w' => e = .returned (.bool (p x)) ∧ Below W.heap.size W w') :
    Calls Try.prog 71 #[.int .i64 x, .pointer (some ⟨B, 0, none⟩)] W fun e w' => e = .returned (.bool (!p x)) ∧ Below W.heap.size W w' := by
  have HQ := Aside0.mk hp
  clear hp
  generalize p x = b at HQ ⊢
  go_enter Try.func71, Try.ntmps71
  go_wp2_with (go_at_fn g; refine HQ.out.mono ?_; rintro e w' ⟨rfl, hb1⟩)
  go_ret
  exact ⟨rfl, hb1⟩
set_option maxHeartbeats 4000000 in
theorem fv_areAll (g : Nat) (lb : Array Value) (eg : ∀ args w, (callFunc g args).run Try.prog w = .ok (.enter g args) w) (p : Int → Bool) (A0 : Option Addr) (c0 : Nat) (l0 : List Int) (w : World)
    (hr0 : Kd.C (Kd.int .i64) w A0 l0.length l0) (hc0 : l0.length ≤ c0)
    (hp : ∀ (W : World) (x : Int), Below w.heap.size w W → x ∈ l0 → Calls Try.prog g (#[.int .i64 x] ++ lb) W fun e w' => e = .returned (.bool (p x)) ∧ Below W.heap.size W w') :
    Calls Try.prog 64 #[.slice A0 l0.length c0, .func (.func g) #[] lb] w fun e w' => e = .returned (.bool (l0.all p)) ∧ Below w.heap.size w w' := by
  rw [all_not_any p l0]
  have e1 : ∀ args w, (callFunc 71 args).run Try.prog w = .ok (.enter 71 args) w := enters_of Try.func71 zk rfl
  have hB : Below w.heap.size w (w.alloc (.cells #[.func (.func g) #[] lb] 68)) := below_alloc (Below.refl _ _) _
  have HQ := Aside0.mk (fv_ContainsFunc 71 #[.pointer (some ⟨w.heap.size, 0, none⟩)] e1 (fun x => !p x) A0 c0 l0 (w.alloc (.cells #[.func (.func g) #[] lb] 68)) (Kd.C_below hr0 hB) hc0
    (fun W x hb hx => fv_areAll_1 g lb eg p w.heap.size x W ((hb.cell (p := ⟨w.heap.size, 0, none⟩) (by simp)).trans (by simp)) (hp W x (below_step hB hb) hx)))
  have HB := Aside0.mk hB
  clear hr0 hc0 hp hB
  generalize (l0.any fun x => !p x) = b at HQ ⊢
  go_enter Try.func64, Try.ntmps64
  go_wp2_with (go_at_call 70; refine HQ.out.mono ?_; rintro e w' ⟨rfl, hb1⟩)
  go_ret
  exact ⟨rfl, below_step HB.out hb1⟩
end Go.Proofs.Ytfmjckkgnieccaa.P
end
section
namespace Go.Proofs.Ytfmjckkgnieccaa.P
open Go.RowKit Go.Proofs.YtfmjckkgnieccaaW.PrintWords Go.Proofs.YtfmjckkgnieccaaW.PrintLast Go.Proofs.YtfmjckkgnieccaaW.PrintMore
attribute [local go_sem] max2_int min2_int max_two min_two max_three min_three max_four min_four   -- for this text's walks alone
set_option linter.unusedVariables false
set_option linter.unusedSimpArgs false
def impl_within.f (a0 : Int) (a1 : Int) (a2 : Int) : Option (Bool) := if a1 ≤ a0 then (some (decide (a0 ≤ a2))) else (some false)
set_option maxHeartbeats 8000000 in
set_option maxRecDepth 100000 in
theorem impl_within.calls (a0 : Int) (a1 : Int) (a2 : Int) (r : Bool) (w : World) (h : impl_within.f a0 a1 a2 = some r) :
    Calls Try.prog 38 #[.int .i64 a0, .int .i64 a1, .int .i64 a2] w fun e w' => e = .returned (.bool r) ∧ Drawn0 w w' := by
 have H : (if a1 ≤ a0 then (some (decide (a0 ≤ a2))) else (some false)) = some r := h
 clear h
 by_cases c4 : a1 ≤ a0
 ·
  rw [if_pos c4] at H
  have c4b0 : decide (a1 ≤ a0) = true := decide_eq_true c4
  clear c4
  obtain rfl := Option.some.inj H
  go_enter Try.func38, Try.ntmps38
  go_wp2
  go_ret
  exact ⟨by first | rfl | (simp; done) | (simp [*]; done), by repeat (first | exact Drawn0.refl _ | apply Drawn0.step)⟩
 rw [if_neg c4] at H
 have c4b0 : decide (a1 ≤ a0) = false := decide_eq_false c4
 clear c4
 obtain rfl := Option.some.inj H
 go_enter Try.func38, Try.ntmps38
 go_wp2
 go_ret
 exact ⟨by first | rfl | (simp; done) | (simp [*]; done), by repeat (first | exact Drawn0.refl _ | apply Drawn0.step)⟩
end Go.Proofs.Ytfmjckkgnieccaa.P
end
section
namespace Go.Proofs.Ytfmjckkgnieccaa.P
open Go.RowKit Go.Proofs.YtfmjckkgnieccaaW.PrintWords Go.Proofs.YtfmjckkgnieccaaW.PrintLast Go.Proofs.YtfmjckkgnieccaaW.PrintMore
attribute [local go_sem] max2_int min2_int max_two min_two max_three min_three max_four min_four   -- for this text's walks alone
set_option linter.unusedVariables false
set_option linter.unusedSimpArgs false
theorem within_f (n lo hi : Int) : impl_within.f n lo hi = some (decide (lo ≤ n ∧ n ≤ hi)) := by
  unfold impl_within.f
  by_cases h : lo ≤ n
  · rw [if_pos h]; simp [h]
  · rw [if_neg h]; simp [h]
theorem within_yes {n lo hi : Int} (h : lo ≤ n ∧ n ≤ hi) : impl_within.f n lo hi = some true := by rw [within_f, decide_eq_true h]
theorem within_not {n lo hi : Int} (h : ¬ (lo ≤ n ∧ n ≤ hi)) : impl_within.f n lo hi = some false := by rw [within_f, decide_eq_false h]
end Go.Proofs.Ytfmjckkgnieccaa.P
end
section
namespace Go.Proofs.Ytfmjckkgnieccaa.P
open Go.RowKit Go.Proofs.YtfmjckkgnieccaaW.PrintWords Go.Proofs.YtfmjckkgnieccaaW.PrintLast Go.Proofs.YtfmjckkgnieccaaW.PrintMore
attribute [local go_sem] max2_int min2_int max_two min_two max_three min_three max_four min_four   -- for this text's walks alone
set_option linter.unusedVariables false
set_option linter.unusedSimpArgs false
def impl_areTurns.f (l0 : List Int) (a1 : Int) : Option Bool := some (decide (1 ≤ (l0.length : Int) ∧ (l0.length : Int) ≤ 120) && l0.all fun i => decide (-1 ≤ i ∧ i ≤ wrap64 (a1 - 1)))
theorem fv_areTurns_1 (x a : Int) (B : Nat) (W : World) (hc : W.cell? ⟨B, 0, none⟩ = some (.int .i64 a)) :
    Calls Try.prog 65 (#[.int .i64 x] ++ #[.pointer (some ⟨B, 0, none⟩)]) W fun e w' => e = .returned (.bool (decide (-1 ≤ x ∧ x ≤ wrap64 (a - 1)))) ∧ Below W.heap.size W w' := by
  have HQ := Aside0.mk (impl_within.calls x (-1) (wrap64 (a - 1)) _ W (within_f x (-1) (wrap64 (a - 1))))
  generalize decide (-1 ≤ x ∧ x ≤ wrap64 (a - 1)) = b at HQ ⊢
  show Calls Try.prog 65 #[.int .i64 x, .pointer (some ⟨B, 0, none⟩)] W _
  go_enter Try.func65, Try.ntmps65
  go_wp2_with (go_at_call 38; refine HQ.out.mono ?_; rintro e w' ⟨rfl, hb1⟩)
  go_ret
  exact ⟨rfl, hb1.below⟩
set_option maxHeartbeats 4000000 in
set_option maxRecDepth 100000 in
theorem impl_areTurns.calls (A0 : Option Addr) (c0 : Nat) (l0 : List Int) (a1 : Int) (r : Bool) (w : World) (hr0 : Kd.C (Kd.int .i64) w A0 l0.length l0) (hc0 : l0.length ≤ c0) (h : impl_areTurns.f l0 a1 = some r) :
    Calls Try.prog 37 #[.slice A0 l0.length c0, .int .i64 a1] w fun e w' => e = .returned (.bool r) ∧ Below w.heap.size w w' := by
  obtain rfl := Option.some.inj h
  clear h
  have e1 : ∀ args w, (callFunc 65 args).run Try.prog w = .ok (.enter 65 args) w := enters_of Try.func65 zk rfl
  have HQ := Aside0.mk (fun (W : World) (hb : Below w.heap.size w W) (hbk : w.heap.size < W.heap.size) (hcell : W.cell? ⟨w.heap.size, 0, none⟩ = some (.int .i64 a1)) => fv_areAll 65 #[.pointer (some ⟨w.heap.size, 0, none⟩)] e1 (fun i => decide (-1 ≤ i ∧ i ≤ wrap64 (a1 - 1))) A0 c0 l0 W (Kd.C_below hr0 hb) hc0
    (fun W' x hb' _ => fv_areTurns_1 x a1 w.heap.size W' ((hb'.cell (p := ⟨w.heap.size, 0, none⟩) hbk).trans hcell)))
  have HL := Aside0.mk (fun (W : World) (hb : Below w.heap.size w W) => impl_length_int64.calls A0 c0 l0 _ W (Kd.C_below hr0 hb) hc0 rfl)
  clear hr0 hc0 e1
  have HB := Aside0.mk (Below.refl w.heap.size w)
  generalize l0.all (fun i => decide (-1 ≤ i ∧ i ≤ wrap64 (a1 - 1))) = b at HQ ⊢
  by_cases h1 : 1 ≤ (l0.length : Int) ∧ (l0.length : Int) ≤ 120
  · have HW := Aside0.mk (fun W => impl_within.calls (l0.length : Int) 1 120 _ W (within_yes h1))
    rw [decide_eq_true h1, Bool.true_and]
    clear h1
    go_enter Try.func37, Try.ntmps37
    go_wp2_with (first
      | (go_at_call 39; refine (HL.out _ (by repeat (first | exact HB.out | apply below_alloc | apply pw_below_drewN | apply below_drew1))).mono ?_; rintro e w' ⟨rfl, ⟨n1, rfl⟩⟩)
      | (go_at_call 38; refine (HW.out _).mono ?_; rintro e w' ⟨rfl, ⟨n2, rfl⟩⟩)
      | (go_at_call 64; refine (HQ.out _ (by repeat (first | exact HB.out | apply below_alloc | apply pw_below_drewN | apply below_drew1)) (by simp) (by simp)).mono ?_; rintro e w' ⟨rfl, hb1⟩))
    go_ret
    exact ⟨rfl, below_step (by repeat (first | exact HB.out | apply below_alloc | apply pw_below_drewN | apply below_drew1)) hb1⟩
  · have HW := Aside0.mk (fun W => impl_within.calls (l0.length : Int) 1 120 _ W (within_not h1))
    rw [decide_eq_false h1, Bool.false_and]
    clear h1
    go_enter Try.func37, Try.ntmps37
    go_wp2_with (first
      | (go_at_call 39; refine (HL.out _ (by repeat (first | exact HB.out | apply below_alloc | apply pw_below_drewN | apply below_drew1))).mono ?_; rintro e w' ⟨rfl, ⟨n1, rfl⟩⟩)
      | (go_at_call 38; refine (HW.out _).mono ?_; rintro e w' ⟨rfl, ⟨n2, rfl⟩⟩))
    go_ret
    exact ⟨rfl, by repeat (first | exact HB.out | apply below_alloc | apply pw_below_drewN | apply below_drew1)⟩
end Go.Proofs.Ytfmjckkgnieccaa.P
end
section
namespace Go.Proofs.Ytfmjckkgnieccaa.P
open Go.RowKit Go.Proofs.YtfmjckkgnieccaaW.PrintWords Go.Proofs.YtfmjckkgnieccaaW.PrintLast Go.Proofs.YtfmjckkgnieccaaW.PrintMore
attribute [local go_sem] max2_int min2_int max_two min_two max_three min_three max_four min_four   -- for this text's walks alone
set_option linter.unusedVariables false
set_option linter.unusedSimpArgs false
def slices_Index_Sint64_int64.l0 : Nat → List Int → Int → Int → Int → Option (Int)
  | 0, _, _, _, _ => none
  | k + 1, x0, x1, x7, x8 => if x8 < x7 then (if 0 ≤ x8 then (if x8 < (x0.length : Int) then (if x1 = (rd x0 x8) then (some x8) else (slices_Index_Sint64_int64.l0 k x0 x1 x7 (wrap64 (x8 + 1)))) else (none)) else (none)) else (some (-1))
def slices_Index_Sint64_int64.f (k : Nat) (l0 : List Int) (a1 : Int) : Option (Int) := slices_Index_Sint64_int64.l0 k l0 a1 (l0.length : Int) 0
theorem slices_Index_Sint64_int64.mono_l : ∀ k, (∀ y0 y1 y2 y3, LeO (slices_Index_Sint64_int64.l0 k y0 y1 y2 y3) (slices_Index_Sint64_int64.l0 (k + 1) y0 y1 y2 y3))
  | 0 => fun _ _ _ _ r h => by simp [slices_Index_Sint64_int64.l0] at h
  | k + 1 => by
    have ih0 := slices_Index_Sint64_int64.mono_l k
    · intro y0 y1 y2 y3
      unfold slices_Index_Sint64_int64.l0
      repeat' first | (with_reducible exact ih0 _ _ _ _) | (with_reducible exact LeO.refl _) | (with_reducible exact LeO.none _) | (with_reducible refine LeO.ite ?_ ?_) | (with_reducible refine LeO.bind ?_ (fun _ => ?_)) | exact ih0 _ _ _ _ | exact LeO.none _ | refine LeO.ite ?_ ?_ | refine LeO.bind ?_ (fun _ => ?_)
theorem slices_Index_Sint64_int64.mono : ∀ a0 a1 k, LeO (slices_Index_Sint64_int64.f k a0 a1) (slices_Index_Sint64_int64.f (k + 1) a0 a1) := by
  intro a0 a1 k
  have ih0 := slices_Index_Sint64_int64.mono_l k
  unfold slices_Index_Sint64_int64.f
  repeat' first | (with_reducible exact ih0 _ _ _ _) | (with_reducible exact LeO.refl _) | (with_reducible exact LeO.none _) | (with_reducible refine LeO.ite ?_ ?_) | (with_reducible refine LeO.bind ?_ (fun _ => ?_)) | exact ih0 _ _ _ _ | exact LeO.none _ | refine LeO.ite ?_ ?_ | refine LeO.bind ?_ (fun _ => ?_)
set_option maxHeartbeats 8000000 in
set_option maxRecDepth 100000 in
theorem slices_Index_Sint64_int64.calls (k : Nat) (A0 : Option Addr) (c0 : Nat) (l0 : List Int) (a1 : Int) (r : Int) (w : World) (hr0 : Kd.C (Kd.int .i64) w A0 l0.length l0) (hc0 : l0.length ≤ c0) (h : slices_Index_Sint64_int64.f k l0 a1 = some r) :
    Calls Try.prog 69 #[.slice A0 l0.length c0, .int .i64 a1] w fun e w' => e = .returned (.int .i64 r) ∧ Drawn0 w w' := by
 have HR0 := Aside0.mk hr0
 have HC0 := Aside0.mk hc0
 clear hr0 hc0
 have H : (slices_Index_Sint64_int64.l0 k l0 a1 (l0.length : Int) 0) = some r := h
 clear h
 have H' := Aside0.mk H
 clear H
 go_enter Try.func69, Try.ntmps69
 go_wp2
 go_loopg [8] k (fun kq v8 w' => ∃ (x8_1 : Int), v8 = .int .i64 x8_1 ∧ Aside0 (slices_Index_Sint64_int64.l0 kq l0 a1 (l0.length : Int) x8_1 = some r) ∧ Aside0 (kq ≤ k) ∧ Drawn0 w w')
 case atStart => exact ⟨(0), zF, H', ⟨Nat.le_refl _⟩, by repeat (first | exact Drawn0.refl _ | apply Drawn0.step)⟩
 clear H'
 obtain ⟨x8_1, rfl, HA, HK1, ⟨m1, rfl⟩⟩ := hrel
 cases gk with
 | zero => exact absurd HA.out (by simp [slices_Index_Sint64_int64.l0])
 | succ k1 =>
   have H := HA.out
   clear HA
   simp only [slices_Index_Sint64_int64.l0] at H
   by_cases c3 : x8_1 < (l0.length : Int)
   · rw [if_pos c3] at H
     have c3b0 : decide (x8_1 < (l0.length : Int)) = true := decide_eq_true c3
     clear c3
     by_cases c4 : 0 ≤ x8_1
     · rw [if_pos c4] at H
       have c4b0 : decide (0 ≤ x8_1) = true := decide_eq_true c4
       clear c4
       by_cases c5 : x8_1 < (l0.length : Int)
       · rw [if_pos c5] at H
         have c5b0 : decide (x8_1 < (l0.length : Int)) = true := decide_eq_true c5
         clear c5
         by_cases c6 : a1 = (rd l0 x8_1)
         · rw [if_pos c6] at H
           have c6b0 : (a1 == (rd l0 x8_1)) = true := beq_iff_eq.mpr c6
           have c6b1 : (a1 != (rd l0 x8_1)) = false := bne_eq_false_iff_eq.mpr c6
           clear c6
           obtain rfl := Option.some.inj H
           have p101 : 0 ≤ (x8_1 : Int) := zD
           have q101 : x8_1 < (l0.length : Int) := zD
           obtain ⟨ad101, e101, hx101_0⟩ := Kd.at_int HR0.out x8_1 p101 q101
           cases e101
           replace p101 := eq_true p101
           replace q101 := eq_true q101
           go_wp2
           go_ret
           exact ⟨by first | rfl | (simp; done) | (simp [*]; done), by repeat (first | exact Drawn0.refl _ | apply Drawn0.step)⟩
         · rw [if_neg c6] at H
           have c6b0 : (a1 == (rd l0 x8_1)) = false := beq_eq_false_iff_ne.mpr c6
           have c6b1 : (a1 != (rd l0 x8_1)) = true := bne_iff_ne.mpr c6
           have H' := Aside0.mk H
           clear H
           have p101 : 0 ≤ (x8_1 : Int) := zD
           have q101 : x8_1 < (l0.length : Int) := zD
           obtain ⟨ad101, e101, hx101_0⟩ := Kd.at_int HR0.out x8_1 p101 q101
           cases e101
           replace p101 := eq_true p101
           replace q101 := eq_true q101
           go_wp2
           go_roundg k1
           case measure => have := HK1.out; omega
           case rel => exact ⟨(wrap64 (x8_1 + 1)), zF, H', ⟨by have := HK1.out; omega⟩, by repeat (first | exact Drawn0.refl _ | apply Drawn0.step)⟩
       · rw [if_neg c5] at H
         exact absurd H (by simp)
     · rw [if_neg c4] at H
       exact absurd H (by simp)
   · rw [if_neg c3] at H
     have c3b0 : decide (x8_1 < (l0.length : Int)) = false := decide_eq_false c3
     clear c3
     obtain rfl := Option.some.inj H
     go_wp2
     go_ret
     exact ⟨by first | rfl | (simp; done) | (simp [*]; done), by repeat (first | exact Drawn0.refl _ | apply Drawn0.step)⟩
end Go.Proofs.Ytfmjckkgnieccaa.P
end
section
namespace Go.Proofs.Ytfmjckkgnieccaa.P
open Go.RowKit Go.Proofs.YtfmjckkgnieccaaW.PrintWords Go.Proofs.YtfmjckkgnieccaaW.PrintLast Go.Proofs.YtfmjckkgnieccaaW.PrintMore
attribute [local go_sem] max2_int min2_int max_two min_two max_three min_three max_four min_four   -- for this text's walks alone
set_option linter.unusedVariables false
set_option linter.unusedSimpArgs false
def slices_Contains_Sint64_int64.f (k : Nat) (l0 : List Int) (a1 : Int) : Option (Bool) := (slices_Index_Sint64_int64.f k l0 a1).bind fun t101 => (some (decide (t101 ≥ 0)))
theorem slices_Contains_Sint64_int64.mono : ∀ a0 a1 k, LeO (slices_Contains_Sint64_int64.f k a0 a1) (slices_Contains_Sint64_int64.f (k + 1) a0 a1) := by
  intro a0 a1 k
  unfold slices_Contains_Sint64_int64.f
  repeat' first | (with_reducible exact slices_Index_Sint64_int64.mono _ _ _) | (with_reducible exact LeO.refl _) | (with_reducible exact LeO.none _) | (with_reducible refine LeO.ite ?_ ?_) | (with_reducible refine LeO.bind ?_ (fun _ => ?_)) | exact slices_Index_Sint64_int64.mono _ _ _ | exact LeO.none _ | refine LeO.ite ?_ ?_ | refine LeO.bind ?_ (fun _ => ?_)
set_option maxHeartbeats 8000000 in
set_option maxRecDepth 100000 in
theorem slices_Contains_Sint64_int64.calls (k : Nat) (A0 : Option Addr) (c0 : Nat) (l0 : List Int) (a1 : Int) (r : Bool) (w : World) (hr0 : Kd.C (Kd.int .i64) w A0 l0.length l0) (hc0 : l0.length ≤ c0) (h : slices_Contains_Sint64_int64.f k l0 a1 = some r) :
    Calls Try.prog 60 #[.slice A0 l0.length c0, .int .i64 a1] w fun e w' => e = .returned (.bool r) ∧ Drawn0 w w' := by
 have HR0 := Aside0.mk hr0
 have HC0 := Aside0.mk hc0
 clear hr0 hc0
 have H : ((slices_Index_Sint64_int64.f k l0 a1).bind fun t101 => (some (decide (t101 ≥ 0)))) = some r := h
 clear h
 replace H := Option.bind_eq_some_iff.mp H
 obtain ⟨t101, A30, H⟩ := H
 replace H : (some (decide (t101 ≥ 0))) = some r := H
 have A3 := Aside0.mk A30
 clear A30
 obtain rfl := Option.some.inj H
 go_enter Try.func60, Try.ntmps60
 go_wp2_with (first | ((with_reducible refine gate_callee (f := 69) rfl ?_); refine goesL_ (some 7) rfl rfl Try.func69 zk rfl #[.slice A0 l0.length c0, .int .i64 a1] rfl zA ?_; (with_reducible refine (slices_Index_Sint64_int64.calls k _ _ l0 a1 t101 _ ?side1 ?side2 A3.out).mono ?_); (case side1 => exact zC HR0.out); (case side2 => exact HC0.out); rintro e w' ⟨rfl, ⟨nd, rfl⟩⟩; refine ⟨_, rfl, ?_⟩))
 go_ret
 exact ⟨by first | rfl | (simp; done) | (simp [*]; done), by repeat (first | exact Drawn0.refl _ | apply Drawn0.step)⟩
end Go.Proofs.Ytfmjckkgnieccaa.P
end
section
namespace Go.Proofs.Ytfmjckkgnieccaa.P
open Go.RowKit Go.Proofs.YtfmjckkgnieccaaW.PrintWords Go.Proofs.YtfmjckkgnieccaaW.PrintLast Go.Proofs.YtfmjckkgnieccaaW.PrintMore
attribute [local go_sem] max2_int min2_int max_two min_two max_three min_three max_four min_four   -- for this text's walks alone
set_option linter.unusedVariables false
set_option linter.unusedSimpArgs false
def impl_levelCode.f (k : Nat) (l0 : List Int) : Option (Int) := (impl_areTurns.f l0 8).bind fun t101 => (if t101 = true then ((slices_Contains_Sint64_int64.f k l0 (-1)).bind fun t102 => (if t102 = true then (some 5) else ((impl_sharesOf.f k l0).bind fun t103 => ((slices_Contains_Sint64_int64.f k t103 0).bind fun t106 => (if t106 = true then (some 5) else (if (l0.length : Int) > 60 then (some 5) else (some 0))))))) else (some 2))
theorem impl_levelCode.mono : ∀ a0 k, LeO (impl_levelCode.f k a0) (impl_levelCode.f (k + 1) a0) := by
  intro a0 k
  unfold impl_levelCode.f
  repeat' first | (with_reducible exact impl_sharesOf.mono _ _) | (with_reducible exact slices_Contains_Sint64_int64.mono _ _ _) | (with_reducible exact LeO.refl _) | (with_reducible exact LeO.none _) | (with_reducible refine LeO.ite ?_ ?_) | (with_reducible refine LeO.bind ?_ (fun _ => ?_)) | exact impl_sharesOf.mono _ _ | exact slices_Contains_Sint64_int64.mono _ _ _ | exact LeO.none _ | refine LeO.ite ?_ ?_ | refine LeO.bind ?_ (fun _ => ?_)
set_option maxHeartbeats 8000000 in
set_option maxRecDepth 100000 in
theorem impl_levelCode.calls (k : Nat) (A0 : Option Addr) (c0 : Nat) (l0 : List Int) (r : Int) (w : World) (hr0 : Kd.C (Kd.int .i64) w A0 l0.length l0) (hc0 : l0.length ≤ c0) (h : impl_levelCode.f k l0 = some r) :
    Calls Try.prog 27 #[.slice A0 l0.length c0] w fun e w' => e = .returned (.int .i64 r) ∧ Below w.heap.size w w' := by
 have HR0 := Aside0.mk hr0
 have HC0 := Aside0.mk hc0
 clear hr0 hc0
 have HB := Aside0.mk (Below.refl w.heap.size w)
 have H : ((impl_areTurns.f l0 8).bind fun t101 => (if t101 = true then ((slices_Contains_Sint64_int64.f k l0 (-1)).bind fun t102 => (if t102 = true then (some 5) else ((impl_sharesOf.f k l0).bind fun t103 => ((slices_Contains_Sint64_int64.f k t103 0).bind fun t106 => (if t106 = true then (some 5) else (if (l0.length : Int) > 60 then (some 5) else (some 0))))))) else (some 2))) = some r := h
 clear h
 replace H := Option.bind_eq_some_iff.mp H
 obtain ⟨t101, A20, H⟩ := H
 replace H : (if t101 = true then ((slices_Contains_Sint64_int64.f k l0 (-1)).bind fun t102 => (if t102 = true then (some 5) else ((impl_sharesOf.f k l0).bind fun t103 => ((slices_Contains_Sint64_int64.f k t103 0).bind fun t106 => (if t106 = true then (some 5) else (if (l0.length : Int) > 60 then (some 5) else (some 0))))))) else (some 2)) = some r := H
 have A2 := Aside0.mk A20
 clear A20
 by_cases c3 : t101 = true
 ·
  subst c3
  have H1 : ((slices_Contains_Sint64_int64.f k l0 (-1)).bind fun t102 => (if t102 = true then (some 5) else ((impl_sharesOf.f k l0).bind fun t103 => ((slices_Contains_Sint64_int64.f k t103 0).bind fun t106 => (if t106 = true then (some 5) else (if (l0.length : Int) > 60 then (some 5) else (some 0))))))) = some r := by rw [if_pos rfl] at H; exact H
  clear H
  have H := H1
  clear H1
  replace H := Option.bind_eq_some_iff.mp H
  obtain ⟨t102, A40, H⟩ := H
  replace H : (if t102 = true then (some 5) else ((impl_sharesOf.f k l0).bind fun t103 => ((slices_Contains_Sint64_int64.f k t103 0).bind fun t106 => (if t106 = true then (some 5) else (if (l0.length : Int) > 60 then (some 5) else (some 0)))))) = some r := H
  have A4 := Aside0.mk A40
  clear A40
  by_cases c5 : t102 = true
  ·
   subst c5
   have H1 : (some 5) = some r := by rw [if_pos rfl] at H; exact H
   clear H
   have H := H1
   clear H1
   obtain rfl := Option.some.inj H
   go_enter Try.func27, Try.ntmps27
   go_wp2_with (first | ((with_reducible refine gate_callee (f := 37) rfl ?_); refine goesL_ (some 5) rfl rfl Try.func37 zk rfl #[.slice A0 l0.length c0, .int .i64 8] rfl zA ?_; (with_reducible refine (impl_areTurns.calls _ _ l0 8 true _ ?side1 ?side2 A2.out).mono ?_); (case side1 => exact zC HR0.out); (case side2 => exact HC0.out); rintro e w6 ⟨rfl, hb⟩; refine ⟨_, rfl, ?_⟩; replace HB := Aside0.mk (below_step (zB) hb); (try clear hb); (try clear hb2); (try clear hk); (try clear hi)) | ((with_reducible refine gate_callee (f := 60) rfl ?_); refine goesL_ (some 9) rfl rfl Try.func60 zk rfl #[.slice A0 l0.length c0, .int .i64 (-1)] rfl zA ?_; (with_reducible refine (slices_Contains_Sint64_int64.calls k _ _ l0 (-1) true _ ?side1 ?side2 A4.out).mono ?_); (case side1 => exact zC (Kd.C_below HR0.out HB.out)); (case side2 => exact HC0.out); rintro e w' ⟨rfl, ⟨nd, rfl⟩⟩; refine ⟨_, rfl, ?_⟩))
   go_ret
   exact ⟨zE, zB⟩
  replace c5 := Bool.eq_false_iff.mpr c5
  subst c5
  have H1 : ((impl_sharesOf.f k l0).bind fun t103 => ((slices_Contains_Sint64_int64.f k t103 0).bind fun t106 => (if t106 = true then (some 5) else (if (l0.length : Int) > 60 then (some 5) else (some 0))))) = some r := by rw [if_neg (show ¬ (false = true) by decide)] at H; exact H
  clear H
  have H := H1
  clear H1
  replace H := Option.bind_eq_some_iff.mp H
  obtain ⟨t103, A70, H⟩ := H
  replace H : ((slices_Contains_Sint64_int64.f k t103 0).bind fun t106 => (if t106 = true then (some 5) else (if (l0.length : Int) > 60 then (some 5) else (some 0)))) = some r := H
  have A7 := Aside0.mk A70
  clear A70
  replace H := Option.bind_eq_some_iff.mp H
  obtain ⟨t106, A80, H⟩ := H
  replace H : (if t106 = true then (some 5) else (if (l0.length : Int) > 60 then (some 5) else (some 0))) = some r := H
  have A8 := Aside0.mk A80
  clear A80
  by_cases c9 : t106 = true
  ·
   subst c9
   have H1 : (some 5) = some r := by rw [if_pos rfl] at H; exact H
   clear H
   have H := H1
   clear H1
   obtain rfl := Option.some.inj H
   go_enter Try.func27, Try.ntmps27
   go_wp2_with (first | ((with_reducible refine gate_callee (f := 37) rfl ?_); refine goesL_ (some 5) rfl rfl Try.func37 zk rfl #[.slice A0 l0.length c0, .int .i64 8] rfl zA ?_; (with_reducible refine (impl_areTurns.calls _ _ l0 8 true _ ?side1 ?side2 A2.out).mono ?_); (case side1 => exact zC HR0.out); (case side2 => exact HC0.out); rintro e w10 ⟨rfl, hb⟩; refine ⟨_, rfl, ?_⟩; replace HB := Aside0.mk (below_step (zB) hb); (try clear hb); (try clear hb2); (try clear hk); (try clear hi)) | ((with_reducible refine gate_callee (f := 60) rfl ?_); refine goesL_ (some 9) rfl rfl Try.func60 zk rfl #[.slice A0 l0.length c0, .int .i64 (-1)] rfl zA ?_; (with_reducible refine (slices_Contains_Sint64_int64.calls k _ _ l0 (-1) false _ ?side1 ?side2 A4.out).mono ?_); (case side1 => exact zC (Kd.C_below HR0.out HB.out)); (case side2 => exact HC0.out); rintro e w' ⟨rfl, ⟨nd, rfl⟩⟩; refine ⟨_, rfl, ?_⟩) | (go_at_call 49; (with_reducible refine (impl_sharesOf.calls k _ _ l0 t103 _ ?side1 ?side2 A7.out).mono ?_); (case side1 => exact zC (Kd.C_below HR0.out (zB))); (case side2 => exact HC0.out); rintro e w11 ⟨v104, rfl, ho0, hb⟩; have n_ := y2 (Kd.R_lower ho0 (below_size (zB))) (below_step (zB) hb); clear HB; obtain ⟨HO105, HB⟩ := n_; (try clear hb); (try clear hb2); (try clear hk); (try clear hi); (try clear ho0); obtain ⟨Ao12, co12, eo12⟩ := Kd.R_slice HO105.out; subst eo12) | (go_at_call 60; (with_reducible refine (slices_Contains_Sint64_int64.calls k _ _ t103 0 true _ ?side1 ?side2 A8.out).mono ?_); (case side1 => exact zC (Kd.R_reads' HO105.out).2.2); (case side2 => exact (Kd.R_reads' HO105.out).2.1); rintro e w' ⟨rfl, ⟨nd, rfl⟩⟩))
   go_ret
   exact ⟨zE, zB⟩
  replace c9 := Bool.eq_false_iff.mpr c9
  subst c9
  have H1 : (if (l0.length : Int) > 60 then (some 5) else (some 0)) = some r := by rw [if_neg (show ¬ (false = true) by decide)] at H; exact H
  clear H
  have H := H1
  clear H1
  by_cases c13 : (l0.length : Int) > 60
  ·
   rw [if_pos c13] at H
   have c13b0 : decide (60 < (l0.length : Int)) = true := decide_eq_true c13
   have c13b1 : decide (60 < l0.length) = true := decide_eq_true (by omega)
   clear c13
   obtain rfl := Option.some.inj H
   go_enter Try.func27, Try.ntmps27
   go_wp2_with (first | ((with_reducible refine gate_callee (f := 37) rfl ?_); refine goesL_ (some 5) rfl rfl Try.func37 zk rfl #[.slice A0 l0.length c0, .int .i64 8] rfl zA ?_; (with_reducible refine (impl_areTurns.calls _ _ l0 8 true _ ?side1 ?side2 A2.out).mono ?_); (case side1 => exact zC HR0.out); (case side2 => exact HC0.out); rintro e w14 ⟨rfl, hb⟩; refine ⟨_, rfl, ?_⟩; replace HB := Aside0.mk (below_step (zB) hb); (try clear hb); (try clear hb2); (try clear hk); (try clear hi)) | ((with_reducible refine gate_callee (f := 60) rfl ?_); refine goesL_ (some 9) rfl rfl Try.func60 zk rfl #[.slice A0 l0.length c0, .int .i64 (-1)] rfl zA ?_; (with_reducible refine (slices_Contains_Sint64_int64.calls k _ _ l0 (-1) false _ ?side1 ?side2 A4.out).mono ?_); (case side1 => exact zC (Kd.C_below HR0.out HB.out)); (case side2 => exact HC0.out); rintro e w' ⟨rfl, ⟨nd, rfl⟩⟩; refine ⟨_, rfl, ?_⟩) | (go_at_call 49; (with_reducible refine (impl_sharesOf.calls k _ _ l0 t103 _ ?side1 ?side2 A7.out).mono ?_); (case side1 => exact zC (Kd.C_below HR0.out (zB))); (case side2 => exact HC0.out); rintro e w15 ⟨v104, rfl, ho0, hb⟩; have n_ := y2 (Kd.R_lower ho0 (below_size (zB))) (below_step (zB) hb); clear HB; obtain ⟨HO105, HB⟩ := n_; (try clear hb); (try clear hb2); (try clear hk); (try clear hi); (try clear ho0); obtain ⟨Ao16, co16, eo16⟩ := Kd.R_slice HO105.out; subst eo16) | (go_at_call 60; (with_reducible refine (slices_Contains_Sint64_int64.calls k _ _ t103 0 false _ ?side1 ?side2 A8.out).mono ?_); (case side1 => exact zC (Kd.R_reads' HO105.out).2.2); (case side2 => exact (Kd.R_reads' HO105.out).2.1); rintro e w' ⟨rfl, ⟨nd, rfl⟩⟩))
   go_ret
   exact ⟨zE, zB⟩
  rw [if_neg c13] at H
  have c13b0 : decide (60 < (l0.length : Int)) = false := decide_eq_false c13
  have c13b1 : decide (60 < l0.length) = false := decide_eq_false (by omega)
  clear c13
  obtain rfl := Option.some.inj H
  go_enter Try.func27, Try.ntmps27
  go_wp2_with (first | ((with_reducible refine gate_callee (f := 37) rfl ?_); refine goesL_ (some 5) rfl rfl Try.func37 zk rfl #[.slice A0 l0.length c0, .int .i64 8] rfl zA ?_; (with_reducible refine (impl_areTurns.calls _ _ l0 8 true _ ?side1 ?side2 A2.out).mono ?_); (case side1 => exact zC HR0.out); (case side2 => exact HC0.out); rintro e w17 ⟨rfl, hb⟩; refine ⟨_, rfl, ?_⟩; replace HB := Aside0.mk (below_step (zB) hb); (try clear hb); (try clear hb2); (try clear hk); (try clear hi)) | ((with_reducible refine gate_callee (f := 60) rfl ?_); refine goesL_ (some 9) rfl rfl Try.func60 zk rfl #[.slice A0 l0.length c0, .int .i64 (-1)] rfl zA ?_; (with_reducible refine (slices_Contains_Sint64_int64.calls k _ _ l0 (-1) false _ ?side1 ?side2 A4.out).mono ?_); (case side1 => exact zC (Kd.C_below HR0.out HB.out)); (case side2 => exact HC0.out); rintro e w' ⟨rfl, ⟨nd, rfl⟩⟩; refine ⟨_, rfl, ?_⟩) | (go_at_call 49; (with_reducible refine (impl_sharesOf.calls k _ _ l0 t103 _ ?side1 ?side2 A7.out).mono ?_); (case side1 => exact zC (Kd.C_below HR0.out (zB))); (case side2 => exact HC0.out); rintro e w18 ⟨v104, rfl, ho0, hb⟩; have n_ := y2 (Kd.R_lower ho0 (below_size (zB))) (below_step (zB) hb); clear HB; obtain ⟨HO105, HB⟩ := n_; (try clear hb); (try clear hb2); (try clear hk); (try clear hi); (try clear ho0); obtain ⟨Ao19, co19, eo19⟩ := Kd.R_slice HO105.out; subst eo19) | (go_at_call 60; (with_reducible refine (slices_Contains_Sint64_int64.calls k _ _ t103 0 false _ ?side1 ?side2 A8.out).mono ?_); (case side1 => exact zC (Kd.R_reads' HO105.out).2.2); (case side2 => exact (Kd.R_reads' HO105.out).2.1); rintro e w' ⟨rfl, ⟨nd, rfl⟩⟩))
  go_ret
  exact ⟨zE, zB⟩
 replace c3 := Bool.eq_false_iff.mpr c3
 subst c3
 have H1 : (some 2) = some r := by rw [if_neg (show ¬ (false = true) by decide)] at H; exact H
 clear H
 have H := H1
 clear H1
 obtain rfl := Option.some.inj H
 go_enter Try.func27, Try.ntmps27
 go_wp2_with (first | ((with_reducible refine gate_callee (f := 37) rfl ?_); refine goesL_ (some 5) rfl rfl Try.func37 zk rfl #[.slice A0 l0.length c0, .int .i64 8] rfl zA ?_; (with_reducible refine (impl_areTurns.calls _ _ l0 8 false _ ?side1 ?side2 A2.out).mono ?_); (case side1 => exact zC HR0.out); (case side2 => exact HC0.out); rintro e w20 ⟨rfl, hb⟩; refine ⟨_, rfl, ?_⟩; replace HB := Aside0.mk (below_step (zB) hb); (try clear hb); (try clear hb2); (try clear hk); (try clear hi)))
 go_ret
 exact ⟨zE, zB⟩
end Go.Proofs.Ytfmjckkgnieccaa.P
end
section
namespace Go.Proofs.Ytfmjckkgnieccaa.P
open Go.RowKit Go.Proofs.YtfmjckkgnieccaaW.PrintWords Go.Proofs.YtfmjckkgnieccaaW.PrintLast Go.Proofs.YtfmjckkgnieccaaW.PrintMore
attribute [local go_sem] max2_int min2_int max_two min_two max_three min_three max_four min_four   -- for this text's walks alone
set_option linter.unusedVariables false
set_option linter.unusedSimpArgs false
def impl_size.f (a0 : Int) : Option (Int) := some (mx a0 (wrap64 (-a0)))
set_option maxHeartbeats 8000000 in
set_option maxRecDepth 100000 in
theorem impl_size.calls (a0 : Int) (r : Int) (w : World) (h : impl_size.f a0 = some r) :
    Calls Try.prog 51 #[.int .i64 a0] w fun e w' => e = .returned (.int .i64 r) ∧ Below w.heap.size w w' := by
 have HB := Aside0.mk (Below.refl w.heap.size w)
 have H : (some (mx a0 (wrap64 (-a0)))) = some r := h
 clear h
 obtain ⟨ji2, hji2⟩ : ∃ j_ : Int, (mx a0 (wrap64 (-a0))) = j_ := ⟨_, rfl⟩
 replace H : (some ji2) = some r := by first | (rw [hji2] at H; exact H) | (simp only [hji2] at H ⊢; exact H)
 have hji2_ : (if a0 < (wrap64 (-a0)) then (wrap64 (-a0)) else a0) = ji2 := hji2
 obtain rfl := Option.some.inj H
 go_enter Try.func51, Try.ntmps51
 go_wp2
 go_ret
 exact ⟨by first | rfl | (simp [errW_none, errW_some] <;> rfl) | (simp only [← hji2]; first | rfl | (simp [errW_none, errW_some] <;> rfl)) | (simp [*, errW_none, errW_some] <;> rfl), zB⟩
end Go.Proofs.Ytfmjckkgnieccaa.P
end
section
namespace Go.Proofs.Ytfmjckkgnieccaa.P
open Go.RowKit Go.Proofs.YtfmjckkgnieccaaW.PrintWords Go.Proofs.YtfmjckkgnieccaaW.PrintLast Go.Proofs.YtfmjckkgnieccaaW.PrintMore
attribute [local go_sem] max2_int min2_int max_two min_two max_three min_three max_four min_four   -- for this text's walks alone
set_option linter.unusedVariables false
set_option linter.unusedSimpArgs false
def mxD (a d : Int) : Int := mx a (mx d (wrap64 (-d)))
set_option maxHeartbeats 4000000 in
set_option maxRecDepth 100000 in
theorem fvD_Greatest_1 (B : Nat) : FnD 50 #[.pointer (some ⟨B, 0, none⟩)] B mxD := by
  intro W d a hc
  show Calls Try.prog 50 #[.int .i64 d, .pointer (some ⟨B, 0, none⟩)] W _
  unfold mxD
  have HM := Aside0.mk (fun W : World => impl_size.calls d _ W rfl)
  have hc0 : W.drew.cell? ⟨B, 0, none⟩ = some (.int .i64 a) := blk_cell hc 0
  have HB := Aside0.mk (below_drew1 (Below.refl W.heap.size W))
  have HC : Aside0 (CellB W.drew B a) := ⟨hc⟩
  clear hc
  go_enter Try.func50, Try.ntmps50
  refine start_ (n := 5) (S := fun w' => w'.cell? ⟨B, 0, none⟩ = some (.int .i64 a)) (ds := [4]) #[false,false,false,false,false] zk rfl rfl hc0 (fun hHeld => ?_)
  generalize W.drew = w1 at HB HC hHeld hc0 ⊢
  refine take_ (i := 0) (N := some 3) (v := ?_) (a' := ?_) #[true,false,false,false,false] rfl rfl zk (fun _ _ _ h => h) (Or.inl ⟨by rfl, ?_⟩) hHeld ?_ ?_
  rotate_left
  · rintro w' s0
    go_simp
    with_reducible rfl
  rotate_left
  · simp only [Act.put, List.setIfInBounds_toArray, List.set_cons_zero, List.set_cons_succ, i64_w, i32_w]
    rfl
  refine pure_ (i := 1) (N := some 4) (v := ?_) (a' := ?_) #[true,true,false,false,false] rfl rfl zk (fun _ _ _ h => h) (Or.inl ⟨by rfl, ?_⟩) ?_ ?_
  rotate_left; exact zp; rotate_left; exact zq
  refine one_ (i := 2) (N := some 5) #[true,true,true,false,false] rfl rfl zk (by decide) (fun K hK => ?_)
  refine goes_ Try.func51 zk rfl #[.int .i64 d] (by rfl) rfl rfl (by (try simp only [List.map_toArray, List.map_cons, List.map_nil]); first | done | rfl) ?_
  refine (HM.out _).mono ?_
  rintro e w2 ⟨rfl, hb⟩
  have hb2 : Below w1.heap.size w1 w2 := by first | exact hb | (obtain ⟨n0, rfl⟩ := hb; exact pw_below_drewN (Below.refl _ _) _)
  have HC2 := Aside0.mk (show CellB w2 B a from blk_below HC.out hb2)
  have HB2 := Aside0.mk (below_step HB.out hb2)
  clear HC HB hb hb2 hc0
  refine ⟨_, rfl, ?_⟩
  have hc3 : w2.cell? ⟨B, 0, none⟩ = some (.int .i64 a) := blk_cell HC2.out 0
  refine hK.out _ _ hc3 (fun hHeld => ?_)
  clear hK K
  refine norm_ (a' := ?_) ?_ ?_
  rotate_left
  · show Act.put _ (some 5) _ = _
    simp only [Act.put, List.setIfInBounds_toArray, List.set_cons_zero, List.set_cons_succ, i64_w, i32_w]
    rfl
  refine pure_ (i := 3) (N := some 6) (v := .int .i64 (mx a (mx d (wrap64 (-d))))) (a' := ?_) #[true,true,true,true,false] rfl rfl zk (fun _ _ _ h => h) (Or.inl ⟨by rfl, ?_⟩) ?_ ?_
  · intro w'
    go_simp
    rfl
  rotate_left
  · simp only [Act.put, List.setIfInBounds_toArray, List.set_cons_zero, List.set_cons_succ, i64_w, i32_w]
    rfl
  have hc2 : w2.cell? ⟨B, 0, none⟩ = some (.int .i64 a) := blk_cell HC2.out 0
  have hf2 : w2.frozen? ⟨B, 0, none⟩ = false := blk_frozen HC2.out 0
  refine last_ (i := 4) (N := none) #[true,true,true,true,true] rfl rfl zk (by decide) (fun K hK => ?_)
  refine skip_ (w1 := ?_) (by rfl) rfl ?_ ?_
  rotate_left
  · go_simp
    rfl
  refine hK.out _ _ ?_
  clear hK K
  refine done_ zk ?_
  try go_wp2
  go_end0
  exact ⟨rfl, blk_put HC2.out 0 _ rfl, Kept.setCell (S := fun k_ => k_ = B) (p := ⟨B, 0, none⟩) (Kept.of_below HB2.out _) (.inl rfl) _, fun w0 hb hl => below_set (below_step hb HB2.out) hl⟩
def impl_GreatestDifference.f (k : Nat) (l0 : List Int) : Option (Int × Int) := (impl_levelCode.f k l0).bind fun c => (if c = 0 then ((impl_sharesOf.f k l0).bind fun s => ((difs.f mxD k l0 s 0).bind fun r => some (r, 0))) else (some (0, c)))
theorem impl_GreatestDifference.mono : ∀ a0 k, LeO (impl_GreatestDifference.f k a0) (impl_GreatestDifference.f (k + 1) a0) := by
  intro a0 k
  unfold impl_GreatestDifference.f
  exact LeO.bind (impl_levelCode.mono _ _) (fun _ => LeO.ite (LeO.bind (impl_sharesOf.mono _ _) (fun _ => LeO.bind (difs.mono _ _ _ _ _) (fun _ => LeO.refl _))) (LeO.refl _))
set_option maxHeartbeats 8000000 in
set_option maxRecDepth 100000 in
theorem impl_GreatestDifference.calls (k : Nat) (A0 : Option Addr) (c0 : Nat) (l0 : List Int) (r1 r2 : Int) (w : World) (hr0 : Kd.C (Kd.int .i64) w A0 l0.length l0) (hc0 : l0.length ≤ c0) (h : impl_GreatestDifference.f k l0 = some (r1, r2)) :
    Calls Try.prog 19 #[.slice A0 l0.length c0] w fun e w' => e = .returned (.tuple #[.int .i64 r1, .int .i64 r2]) ∧ Below w.heap.size w w' := by
  obtain ⟨c, e0, f1⟩ := Option.bind_eq_some_iff.mp h
  have HR0 := Aside0.mk hr0
  have HC0 := Aside0.mk hc0
  have E0 := Aside0.mk e0
  clear hr0 hc0 e0 h
  by_cases cc : c = 0
  · subst cc
    rw [if_pos rfl] at f1
    obtain ⟨s, e1, f2⟩ := Option.bind_eq_some_iff.mp f1
    obtain ⟨rr, e2, e3⟩ := Option.bind_eq_some_iff.mp f2
    clear f1 f2
    obtain ⟨rfl, rfl⟩ : rr = r1 ∧ (0 : Int) = r2 := by simpa using e3
    have eg : ∀ args w, (callFunc 50 args).run Try.prog w = .ok (.enter 50 args) w := enters_of Try.func50 zk rfl
    have E1 := Aside0.mk e1
    have E2 := Aside0.mk e2
    have EG := Aside0.mk eg
    clear e1 e2 e3 eg
    go_enter Try.func19, Try.ntmps19
    go_wp2_with (first
      | (go_at_call 27; refine (impl_levelCode.calls k A0 c0 l0 0 _ HR0.out HC0.out E0.out).mono ?_; rintro e w5 ⟨rfl, hb5⟩; have HB5 := Aside0.mk hb5; clear hb5)
      | (go_at_call 49; refine (impl_sharesOf.calls k A0 c0 l0 s (w5.alloc (.cells #[.int .i64 0] 2)) (Kd.C_below HR0.out (below_alloc HB5.out _)) HC0.out E1.out).mono ?_; rintro e w1 ⟨v1, rfl, hR, hb⟩; obtain ⟨A1, c1, rfl, hl1, _⟩ := Kd.R_reads hR; have HL1 := Aside0.mk hl1; have HCS := Aside0.mk (Kd.C_kept_own (S := fun k_ => k_ = w5.heap.size) (Kd.R_mono (Kd.R_bound hR) (ok' := fun k_ => k_ ≠ w5.heap.size) (fun k_ hk => by have h2 := hk.2.1; rw [show (w5.alloc (.cells #[.int .i64 0] 2)).heap.size = w5.heap.size + 1 by simp] at h2; omega)) (fun k_ h_ => h_)); have HCA := Aside0.mk (Kd.C_kept_came (S := fun k_ => k_ = w5.heap.size) (Kd.heap_int .i64) HR0.out (below_step (below_alloc HB5.out (.cells #[.int .i64 0] 2)) hb) (fun k_ h_ => by have := HB5.out.size; omega)); have HCE := Aside0.mk (show CellB w1 w5.heap.size 0 from blk_below (blk_new w5 _) hb); have HB := Aside0.mk (below_step (below_alloc HB5.out (.cells #[.int .i64 0] 2)) hb); clear hb hR hl1)
      | (go_at_call 48; refine (fvD_differences k _ _ EG.out mxD w5.heap.size (fvD_Greatest_1 w5.heap.size) A0 c0 l0 A1 c1 s 0 rr w _ HB.out HB5.out.size HCA.out HC0.out HCS.out HL1.out HCE.out E2.out).mono ?_; rintro e w2 ⟨rfl, hce, hk, hb⟩; have hcc := blk_cell hce 0; (try simp only [List.getElem?_toArray, List.getElem?_cons_zero] at hcc); have HB2 := Aside0.mk hb; clear hb hk hce))
    go_ret2
    exact ⟨rfl, HB2.out⟩
  · rw [if_neg cc] at f1
    obtain ⟨rfl, rfl⟩ : (0 : Int) = r1 ∧ c = r2 := by simpa using f1
    clear f1
    have cc0 : (c != 0) = true := bne_iff_ne.mpr cc
    go_enter Try.func19, Try.ntmps19
    go_wp2_with (go_at_call 27; refine (impl_levelCode.calls k A0 c0 l0 c _ HR0.out HC0.out E0.out).mono ?_; rintro e w5 ⟨rfl, hb5⟩; have HB5 := Aside0.mk hb5; clear hb5)
    go_ret2
    exact ⟨rfl, HB5.out⟩
end Go.Proofs.Ytfmjckkgnieccaa.P
end
section
namespace Go.Proofs.Ytfmjckkgnieccaa.P
open Go.RowKit Go.Proofs.YtfmjckkgnieccaaW.PrintWords Go.Proofs.YtfmjckkgnieccaaW.PrintLast Go.Proofs.YtfmjckkgnieccaaW.PrintMore
attribute [local go_sem] max2_int min2_int max_two min_two max_three min_three max_four min_four   -- for this text's walks alone
set_option linter.unusedVariables false
set_option linter.unusedSimpArgs false
def laws_big.f (l0 : List Int) : Option (Bool) := some (decide ((l0.length : Int) > 4096))
set_option maxHeartbeats 8000000 in
set_option maxRecDepth 100000 in
theorem laws_big.calls (A0 : Option Addr) (c0 : Nat) (l0 : List Int) (r : Bool) (w : World) (hr0 : Kd.C (Kd.int .u8) w A0 l0.length l0) (hc0 : l0.length ≤ c0) (h : laws_big.f l0 = some r) :
    Calls Try.prog 4 #[.slice A0 l0.length c0] w fun e w' => e = .returned (.bool r) ∧ Drawn0 w w' := by
 have HR0 := Aside0.mk hr0
 have HC0 := Aside0.mk hc0
 clear hr0 hc0
 have H : (some (decide ((l0.length : Int) > 4096))) = some r := h
 clear h
 obtain rfl := Option.some.inj H
 go_enter Try.func4, Try.ntmps4
 go_wp2
 go_ret
 exact ⟨by first | rfl | (simp; done) | (simp [*]; done), by repeat (first | exact Drawn0.refl _ | apply Drawn0.step)⟩
end Go.Proofs.Ytfmjckkgnieccaa.P
end
section
namespace Go.Proofs.Ytfmjckkgnieccaa.P
open Go.RowKit Go.Proofs.YtfmjckkgnieccaaW.PrintWords Go.Proofs.YtfmjckkgnieccaaW.PrintLast Go.Proofs.YtfmjckkgnieccaaW.PrintMore
attribute [local go_sem] max2_int min2_int max_two min_two max_three min_three max_four min_four   -- for this text's walks alone
set_option linter.unusedVariables false
set_option linter.unusedSimpArgs false
/-- A state of type 60 at block g of W; what its slices lead to came in by w0. -/
def IsS60 (w0 W : World) (g : Nat) (f0 : List Int) (f1 : Int) (f2 : Int) : Prop := ∃ A0 c0, W.heap[g]? = some (.cells #[.slice A0 f0.length c0, .int .i64 f1, .int .u64 f2] 60 (0, 0)) ∧ w0.heap.size ≤ g ∧ Kd.C (Kd.int .u8) w0 A0 f0.length f0
theorem IsS60.grown {w0 W : World} {g : Nat} {f0 : List Int} {f1 : Int} {f2 : Int} {W1 : World} {row : Option Nat} (h : IsS60 w0 W g f0 f1 f2) (hw : W.grownBy W1 row) (hne : some g ≠ row) : IsS60 w0 W1 g f0 f1 f2 := by
  obtain ⟨A0, c0, hb, hg, hr0⟩ := h
  exact ⟨A0, c0, blk_grown hb hw hne, hg, hr0⟩
theorem IsS60.kept {w0 W : World} {g : Nat} {f0 : List Int} {f1 : Int} {f2 : Int} {W1 : World} {S : Nat → Prop} (h : IsS60 w0 W g f0 f1 f2) (hk : Kept W W1 S) (hne : ¬ S g) : IsS60 w0 W1 g f0 f1 f2 := by
  obtain ⟨A0, c0, hb, hg, hr0⟩ := h
  exact ⟨A0, c0, blk_kept hb hk hne, hg, hr0⟩
theorem IsS60.below {w0 W : World} {g : Nat} {f0 : List Int} {f1 : Int} {f2 : Int} {W1 : World} (h : IsS60 w0 W g f0 f1 f2) (hw : Below W.heap.size W W1) : IsS60 w0 W1 g f0 f1 f2 := h.grown (grown_of_below hw none) (by simp)
theorem IsS60.alloc {w0 W : World} {g : Nat} {f0 : List Int} {f1 : Int} {f2 : Int} (h : IsS60 w0 W g f0 f1 f2) (o : Obj) : IsS60 w0 (W.alloc o) g f0 f1 f2 := h.below (below_alloc (Below.refl _ _) o)
theorem IsS60.drewN {w0 W : World} {g : Nat} {f0 : List Int} {f1 : Int} {f2 : Int} (h : IsS60 w0 W g f0 f1 f2) (m : Nat) : IsS60 w0 (W.drewN m) g f0 f1 f2 := h
theorem IsS60.drew {w0 W : World} {g : Nat} {f0 : List Int} {f1 : Int} {f2 : Int} (h : IsS60 w0 W g f0 f1 f2) : IsS60 w0 W.drew g f0 f1 f2 := h
theorem IsS60.apart {w0 W : World} {g : Nat} {f0 : List Int} {f1 : Int} {f2 : Int} {α : Type} {d : Kd α} {e : Nat} {base : Nat} {ok : Nat → Prop} {v : Value} {xs : List α} (h : IsS60 w0 W g f0 f1 f2) (ho : d.R e W base ok v xs) (ht : ∀ q, q ∈ e :: d.E → q ≠ 60) : d.R e W base (fun k => ok k ∧ k ≠ g) v xs := by
  obtain ⟨A0, c0, hb, hg, hr0⟩ := h
  exact Kd.R_types ho hb ht
theorem IsS60.own_ne {w0 W : World} {g : Nat} {f0 : List Int} {f1 : Int} {f2 : Int} {α : Type} {d : Kd α} {e : Nat} {base : Nat} {ok : Nat → Prop} {v : Value} {xs : List α} (h : IsS60 w0 W g f0 f1 f2) (ho : d.R e W base ok v xs) (ht : e ≠ 60) : some g ≠ v.ownBlock := by
  obtain ⟨A0, c0, hb, hg, hr0⟩ := h
  exact Kd.R_ne ho hb ht
theorem IsS60.lt {w0 W : World} {g : Nat} {f0 : List Int} {f1 : Int} {f2 : Int} (h : IsS60 w0 W g f0 f1 f2) : g < W.heap.size := by
  obtain ⟨A0, c0, hb, hg, hr0⟩ := h
  exact blk_lt hb
theorem IsS60.ge {w0 W : World} {g : Nat} {f0 : List Int} {f1 : Int} {f2 : Int} (h : IsS60 w0 W g f0 f1 f2) : w0.heap.size ≤ g := by
  obtain ⟨A0, c0, hb, hg, hr0⟩ := h
  exact hg
theorem IsS60.far {w0 W : World} {g : Nat} {f0 : List Int} {f1 : Int} {f2 : Int} {p : Addr} (h : IsS60 w0 W g f0 f1 f2) (hne : g ≠ p.block) (u : Value) : IsS60 w0 (W.setCell p u) g f0 f1 f2 := by
  obtain ⟨A0, c0, hb, hg, hr0⟩ := h
  exact ⟨A0, c0, blk_far hb hne u, hg, hr0⟩
theorem cellS60_0 {W : World} {g : Nat} {A0 : Option Addr} {c0 : Nat} {f0 : List Int} {f1 : Int} {f2 : Int} (h : W.heap[g]? = some (.cells #[.slice A0 f0.length c0, .int .i64 f1, .int .u64 f2] 60 (0, 0))) : W.cell? ⟨g, 0, none⟩ = some (.slice A0 f0.length c0) := (blk_cell h 0).trans rfl
theorem cellS60_1 {W : World} {g : Nat} {A0 : Option Addr} {c0 : Nat} {f0 : List Int} {f1 : Int} {f2 : Int} (h : W.heap[g]? = some (.cells #[.slice A0 f0.length c0, .int .i64 f1, .int .u64 f2] 60 (0, 0))) : W.cell? ⟨g, 1, none⟩ = some (.int .i64 f1) := (blk_cell h 1).trans rfl
theorem IsS60.set_1 {w0 W : World} {g : Nat} {f0 : List Int} {f1 : Int} {f2 : Int} (h : IsS60 w0 W g f0 f1 f2) (x : Int) : IsS60 w0 (W.setCell ⟨g, 1, none⟩ (.int .i64 x)) g f0 x f2 := by
  obtain ⟨A0, c0, hb, hg, hr0⟩ := h
  exact ⟨A0, c0, by simpa using blk_set hb 1 (.int .i64 x), hg, hr0⟩
theorem cellS60_2 {W : World} {g : Nat} {A0 : Option Addr} {c0 : Nat} {f0 : List Int} {f1 : Int} {f2 : Int} (h : W.heap[g]? = some (.cells #[.slice A0 f0.length c0, .int .i64 f1, .int .u64 f2] 60 (0, 0))) : W.cell? ⟨g, 2, none⟩ = some (.int .u64 f2) := (blk_cell h 2).trans rfl
theorem IsS60.set_2 {w0 W : World} {g : Nat} {f0 : List Int} {f1 : Int} {f2 : Int} (h : IsS60 w0 W g f0 f1 f2) (x : Int) : IsS60 w0 (W.setCell ⟨g, 2, none⟩ (.int .u64 x)) g f0 f1 x := by
  obtain ⟨A0, c0, hb, hg, hr0⟩ := h
  exact ⟨A0, c0, by simpa using blk_set hb 2 (.int .u64 x), hg, hr0⟩
def spec_l01From.l0 : Nat → List Int → Int → List Int → Int → Int → Option (List Int × Int × Int)
  | 0, _, _, _, _, _ => none
  | k + 1, x0, x4, x102000, x102001, x102002 => if x4 < (x0.length : Int) then (if x4 < 4096 then (if 0 ≤ x4 then (spec_l01From.l0 k x0 (wrap64 (x4 + 1)) x102000 x102001 (IntKind.u64.wrap ((IntKind.u64.wrap ((IntKind.u64.wrap (x102002 * 1099511628211)) + (IntKind.u64.wrap (rd x0 x4)))) + 241))) else (none)) else (some (x102000, x102001, x102002))) else (some (x102000, x102001, x102002))
def spec_l01From.f (k : Nat) (l0 : List Int) : Option (List Int × Int × Int) := spec_l01From.l0 k l0 0 l0 0 (IntKind.u64.wrap (14041 + (IntKind.u64.wrap ((l0.length : Int)))))
theorem spec_l01From.mono_l : ∀ k, (∀ y0 y1 y2 y3 y4, LeO (spec_l01From.l0 k y0 y1 y2 y3 y4) (spec_l01From.l0 (k + 1) y0 y1 y2 y3 y4))
  | 0 => fun _ _ _ _ _ r h => by simp [spec_l01From.l0] at h
  | k + 1 => by
    have ih0 := spec_l01From.mono_l k
    · intro y0 y1 y2 y3 y4
      unfold spec_l01From.l0
      repeat' first | (with_reducible exact ih0 _ _ _ _ _) | (with_reducible exact LeO.refl _) | (with_reducible exact LeO.none _) | (with_reducible refine LeO.ite ?_ ?_) | (with_reducible refine LeO.bind ?_ (fun _ => ?_)) | exact ih0 _ _ _ _ _ | exact LeO.none _ | refine LeO.ite ?_ ?_ | refine LeO.bind ?_ (fun _ => ?_)
theorem spec_l01From.mono : ∀ a0 k, LeO (spec_l01From.f k a0) (spec_l01From.f (k + 1) a0) := by
  intro a0 k
  have ih0 := spec_l01From.mono_l k
  unfold spec_l01From.f
  repeat' first | (with_reducible exact ih0 _ _ _ _ _) | (with_reducible exact LeO.refl _) | (with_reducible exact LeO.none _) | (with_reducible refine LeO.ite ?_ ?_) | (with_reducible refine LeO.bind ?_ (fun _ => ?_)) | exact ih0 _ _ _ _ _ | exact LeO.none _ | refine LeO.ite ?_ ?_ | refine LeO.bind ?_ (fun _ => ?_)
def spec_l01From.T5 : Bool × List (List Nat × List Nat) := (true, [([], []), ([], []), ([1], [1]), ([2], [2]), ([3], [3]), ([4], [4]), ([], []), ([], []), ([6, 7], [6, 7]), ([8], [8]), ([9], [9]), ([5, 10], [5, 10]), ([11], [11]), ([0, 0, 1, 2, 3, 4, 5, 6, 7, 8, 9, 10, 11, 12], [0]), ([13, 0, 1, 2, 3, 4, 5, 6, 7, 8, 9, 10, 11, 12], [13]), ([14, 12, 0, 1, 2, 3, 4, 5, 6, 7, 8, 9, 10, 11, 12], [12, 14])])
def spec_l01From.B5 : List Nat := [0, 0, 2, 6, 14, 30, 0, 0, 192, 448, 960, 2046, 4094, 8191, 16383, 32767]
theorem spec_l01From.tab5 : rtab .any (opsOf Try.f24 5) = spec_l01From.T5 := by kernel_rfl
theorem spec_l01From.bits5 : waitsOk spec_l01From.T5.2 spec_l01From.B5 = true := by kernel_rfl
set_option maxHeartbeats 8000000 in
set_option maxRecDepth 100000 in
theorem spec_l01From.calls1 (k : Nat) (A0 : Option Addr) (c0 : Nat) (l0 : List Int) (r1 : List Int) (r2 : Int) (r3 : Int) (w0 w : World) (hB : Below w0.heap.size w0 w) (hr0 : Kd.C (Kd.int .u8) w0 A0 l0.length l0) (hc0 : l0.length ≤ c0) (h : spec_l01From.f k l0 = some (r1, r2, r3)) :
    Calls Try.prog 24 #[.slice A0 l0.length c0] w fun e w' => ∃ g_ : Nat, e = .returned (.pointer (some ⟨g_, 0, none⟩)) ∧ IsS60 w0 w' g_ r1 r2 r3 ∧ Below w.heap.size w w' ∧ Below w.heap.size w w' := by
 have hu60 := Try.underlying60
 have HR0 := Aside0.mk hr0
 have HRw0 := Aside0.mk (Kd.C_below hr0 hB)
 have HC0 := Aside0.mk hc0
 clear hr0 hc0
 have HBW := Aside0.mk (Below.refl w.heap.size w)
 have HW0 := Aside0.mk hB.size
 have HB := Aside0.mk (Below.refl w.heap.size w)
 clear hB
 have H : (spec_l01From.l0 k l0 0 l0 0 (IntKind.u64.wrap (14041 + (IntKind.u64.wrap ((l0.length : Int)))))) = some (r1, r2, r3) := h
 clear h
 have H' := Aside0.mk H
 clear H
 go_enter Try.func24, Try.ntmps24
 go_wp2_with (first | ((with_reducible refine gate_dst (N := 11) rfl ?_); refine box_event zr (N := 11) zr (cs := #[.slice A0 l0.length c0, .int .i64 0, .int .u64 (IntKind.u64.wrap (14041 + (IntKind.u64.wrap ((l0.length : Int)))))]) (t := 60) zg ?_; intro gb101 hg w2 hbox hb; have n_ := y5 (below_step HBW.out hb) (below_step (zB) hb) (hbox) ((by rw [hg]; exact (below_size (by repeat (first | (with_reducible first | exact HBW.out | apply below_alloc | apply pw_below_drewN | apply below_drew1) | exact HBW.out))) : w.heap.size ≤ gb101)) ((Nat.le_trans HW0.out (by rw [hg]; exact (below_size (by repeat (first | (with_reducible first | exact HBW.out | apply below_alloc | apply pw_below_drewN | apply below_drew1) | exact HBW.out))) : w.heap.size ≤ gb101) : w0.heap.size ≤ gb101)); clear HBW HB; obtain ⟨HBW, HB, BK101, GW101, GE101⟩ := n_; clear hb hbox hg))
 go_loopg [4] k (fun kq v4 w' => ∃ (x4_1 : Int) (x102002_1 : Int), v4 = .int .i64 x4_1 ∧ Aside0 (spec_l01From.l0 kq l0 x4_1 l0 0 x102002_1 = some (r1, r2, r3)) ∧ Aside0 (kq ≤ k) ∧ Aside0 (w'.heap[gb101]? = some (.cells #[(.slice A0 l0.length c0), .int .i64 0, .int .u64 x102002_1] 60 (0, 0))) ∧ Aside0 (Below w.heap.size w w'))
 case atStart => exact ⟨(0), (IntKind.u64.wrap (14041 + (IntKind.u64.wrap ((l0.length : Int))))), zF, H', ⟨Nat.le_refl _⟩, ⟨zG BK101.out⟩, ⟨zB⟩⟩
 clear H'
 obtain ⟨x4_1, x102002_1, rfl, HA, HK1, BK101, HB⟩ := hrel
 cases gk with
 | zero => exact absurd HA.out (by simp [spec_l01From.l0])
 | succ k1 =>
   have H := HA.out
   clear HA
   simp only [spec_l01From.l0] at H
   by_cases c3 : x4_1 < (l0.length : Int)
   · rw [if_pos c3] at H
     have c3b0 : decide (x4_1 < (l0.length : Int)) = true := decide_eq_true c3
     clear c3
     by_cases c4 : x4_1 < 4096
     · rw [if_pos c4] at H
       have c4b0 : decide (x4_1 < 4096) = true := decide_eq_true c4
       clear c4
       by_cases c5 : 0 ≤ x4_1
       · rw [if_pos c5] at H
         have c5b0 : decide (0 ≤ x4_1) = true := decide_eq_true c5
         clear c5
         have H' := Aside0.mk H
         clear H
         try go_wp2
         have n_ := y2 (blk_drew BK101.out) (below_drew1 HB.out)
         clear BK101 HB
         obtain ⟨BK101, HB⟩ := n_
         have p102 : 0 ≤ (x4_1 : Int) := zD
         have q102 : x4_1 < (l0.length : Int) := zD
         obtain ⟨ad102, e102, hx102_0⟩ := Kd.at_int HRw0.out x4_1 p102 q102
         have hw102_0 := hx102_0
         cases e102
         replace hx102_0 := pw_cell_below HB.out hx102_0
         replace p102 := eq_true p102
         replace q102 := eq_true q102
         refine start_ (n := 16) (S := fun w' => w'.cell? ⟨gb101, 0, none⟩ = some (.slice (some ad102) l0.length c0) ∧ w'.cell? ⟨gb101, 1, none⟩ = some (.int .i64 0) ∧ w'.cell? ⟨gb101, 2, none⟩ = some (.int .u64 x102002_1) ∧ w'.cell? (ad102.add (x4_1).toNat) = some (.int .u8 (rd l0 x4_1))) (ds := [15]) #[false,false,false,false,false,false,false,false,false,false,false,false,false,false,false,false] zk rfl rfl ⟨(blk_cell BK101.out 0).trans rfl, (blk_cell BK101.out 1).trans rfl, (blk_cell BK101.out 2).trans rfl, ((HB.out.cell (World.block_lt_of_cell? w _ hw102_0)).trans hw102_0)⟩ (fun hHeld => ?_); refine with_tabW spec_l01From.tab5 spec_l01From.bits5 (fun HT_ HW_ => ?_)
         generalize wr.drew = w6 at BK101 HB hx102_0 hHeld ⊢
         refine pure_ (i := 0) (N := some 22) (v := ?_) (a' := ?_) #[true,false,false,false,false,false,false,false,false,false,false,false,false,false,false,false] rfl rfl (any_of HT_.out zk) (fun _ _ _ h => h) (Or.inl ⟨by rfl, ?_⟩) ?_ ?_
         rotate_left; exact zp; rotate_left; exact zq
         refine pure_ (i := 1) (N := some 23) (v := ?_) (a' := ?_) #[true,true,false,false,false,false,false,false,false,false,false,false,false,false,false,false] rfl rfl (any_of HT_.out zk) (fun _ _ _ h => h) (Or.inl ⟨by rfl, ?_⟩) ?_ ?_
         rotate_left; exact zp; rotate_left; exact zq
         refine pure_ (i := 2) (N := some 24) (v := ?_) (a' := ?_) #[true,true,true,false,false,false,false,false,false,false,false,false,false,false,false,false] rfl rfl (any_of HT_.out zk) (fun _ _ _ h => h) (Or.inl ⟨by rfl, ?_⟩) ?_ ?_
         rotate_left; exact zp; rotate_left; exact zq
         refine pure_ (i := 3) (N := some 25) (v := ?_) (a' := ?_) #[true,true,true,true,false,false,false,false,false,false,false,false,false,false,false,false] rfl rfl (any_of HT_.out zk) (fun _ _ _ h => h) (Or.inl ⟨by rfl, ?_⟩) ?_ ?_
         rotate_left; exact zp; rotate_left; exact zq
         refine pure_ (i := 6) (N := some 28) (v := ?_) (a' := ?_) #[true,true,true,true,false,false,true,false,false,false,false,false,false,false,false,false] rfl rfl (any_of HT_.out zk) (fun _ _ _ h => h) (Or.inl ⟨by rfl, ?_⟩) ?_ ?_
         rotate_left; exact zp; rotate_left; exact zq
         refine pure_ (i := 7) (N := some 29) (v := ?_) (a' := ?_) #[true,true,true,true,false,false,true,true,false,false,false,false,false,false,false,false] rfl rfl (any_of HT_.out zk) (fun _ _ _ h => h) (Or.inl ⟨by rfl, ?_⟩) ?_ ?_
         rotate_left; exact zp; rotate_left; exact zq
         refine pure_ (i := 8) (N := some 30) (v := ?_) (a' := ?_) #[true,true,true,true,false,false,true,true,true,false,false,false,false,false,false,false] rfl rfl (any_of HT_.out zk) (fun _ _ _ h => h) (Or.inl ⟨by rfl, ?_⟩) ?_ ?_
         rotate_left; exact zp; rotate_left; exact zq
         refine take_ (i := 4) (N := some 26) (v := ?_) (a' := ?_) #[true,true,true,true,true,false,true,true,true,false,false,false,false,false,false,false] rfl rfl (take_ofW HT_.out HW_.out zk) (fun _ _ _ h => h) (Or.inl ⟨by rfl, ?_⟩) hHeld ?_ ?_
         rotate_left
         · rintro w' ⟨s0, s1, s2, s3⟩
           go_simp
           with_reducible rfl
         rotate_left
         · simp only [Act.put, List.setIfInBounds_toArray, List.set_cons_zero, List.set_cons_succ, i64_w, i32_w]
           rfl
         refine pure_ (i := 5) (N := some 27) (v := ?_) (a' := ?_) #[true,true,true,true,true,true,true,true,true,false,false,false,false,false,false,false] rfl rfl (any_of HT_.out zk) (fun _ _ _ h => h) (Or.inl ⟨by rfl, ?_⟩) ?_ ?_
         rotate_left; exact zp; rotate_left; exact zq
         refine take_ (i := 9) (N := some 31) (v := ?_) (a' := ?_) #[true,true,true,true,true,true,true,true,true,true,false,false,false,false,false,false] rfl rfl (take_ofW HT_.out HW_.out zk) (fun _ _ _ h => h) (Or.inl ⟨by rfl, ?_⟩) hHeld ?_ ?_
         rotate_left
         · rintro w' ⟨s0, s1, s2, s3⟩
           go_simp
           with_reducible rfl
         rotate_left
         · simp only [Act.put, List.setIfInBounds_toArray, List.set_cons_zero, List.set_cons_succ, i64_w, i32_w]
           rfl
         refine pure_ (i := 10) (N := some 32) (v := ?_) (a' := ?_) #[true,true,true,true,true,true,true,true,true,true,true,false,false,false,false,false] rfl rfl (any_of HT_.out zk) (fun _ _ _ h => h) (Or.inl ⟨by rfl, ?_⟩) ?_ ?_
         rotate_left; exact zp; rotate_left; exact zq
         refine pure_ (i := 11) (N := some 33) (v := ?_) (a' := ?_) #[true,true,true,true,true,true,true,true,true,true,true,true,false,false,false,false] rfl rfl (any_of HT_.out zk) (fun _ _ _ h => h) (Or.inl ⟨by rfl, ?_⟩) ?_ ?_
         rotate_left; exact zp; rotate_left; exact zq
         refine pure_ (i := 12) (N := some 34) (v := ?_) (a' := ?_) #[true,true,true,true,true,true,true,true,true,true,true,true,true,false,false,false] rfl rfl (any_of HT_.out zk) (fun _ _ _ h => h) (Or.inl ⟨by rfl, ?_⟩) ?_ ?_
         rotate_left; exact zp; rotate_left; exact zq
         refine pure_ (i := 13) (N := some 35) (v := ?_) (a' := ?_) #[true,true,true,true,true,true,true,true,true,true,true,true,true,true,false,false] rfl rfl (any_of HT_.out zk) (fun _ _ _ h => h) (Or.inl ⟨by rfl, ?_⟩) ?_ ?_
         rotate_left; exact zp; rotate_left; exact zq
         refine pure_ (i := 14) (N := some 36) (v := ?_) (a' := ?_) #[true,true,true,true,true,true,true,true,true,true,true,true,true,true,true,false] rfl rfl (any_of HT_.out zk) (fun _ _ _ h => h) (Or.inl ⟨by rfl, ?_⟩) ?_ ?_
         rotate_left; exact zp; rotate_left; exact zq
         refine last_ (i := 15) (N := none) #[true,true,true,true,true,true,true,true,true,true,true,true,true,true,true,true] rfl rfl (one_of HT_.out zk) (by decide) (fun K hK => ?_)
         have hs7 : w6.cell? ⟨gb101, 2, none⟩ = some (.int .u64 x102002_1) := (blk_cell BK101.out 2).trans rfl
         have hfs7 := blk_frozen BK101.out 2
         refine skip_ (w1 := ?_) (by rfl) rfl ?_ ?_
         rotate_left
         · go_simp
           rfl
         refine hK.out _ _ ?_
         clear hK K
         refine done_ (done_of HT_.out zk) ?_
         try go_wp2
         go_roundg k1
         case measure => have := HK1.out; omega
         case rel => exact ⟨(wrap64 (x4_1 + 1)), (IntKind.u64.wrap ((IntKind.u64.wrap ((IntKind.u64.wrap (x102002_1 * 1099511628211)) + (IntKind.u64.wrap (rd l0 x4_1)))) + 241)), zF, H', ⟨by have := HK1.out; omega⟩, ⟨by refine zG ?_; refine blk_put (cs := #[.slice (some ad102) l0.length c0, .int .i64 0, .int .u64 x102002_1]) ?_ 2 _ rfl; refine zG ?_; exact BK101.out⟩, ⟨zB⟩⟩
       · rw [if_neg c5] at H
         exact absurd H (by simp)
     · rw [if_neg c4] at H
       have c4b0 : decide (x4_1 < 4096) = false := decide_eq_false c4
       clear c4
       simp only [Option.some.injEq, Prod.mk.injEq] at H
       obtain ⟨rfl, rfl, rfl⟩ := H
       go_wp2
       go_ret
       exact ⟨_, rfl, (show IsS60 w0 _ gb101 l0 0 x102002_1 from ⟨_, _, zG BK101.out, GE101.out, HR0.out⟩), zB, zB⟩
   · rw [if_neg c3] at H
     have c3b0 : decide (x4_1 < (l0.length : Int)) = false := decide_eq_false c3
     clear c3
     simp only [Option.some.injEq, Prod.mk.injEq] at H
     obtain ⟨rfl, rfl, rfl⟩ := H
     go_wp2
     go_ret
     exact ⟨_, rfl, (show IsS60 w0 _ gb101 l0 0 x102002_1 from ⟨_, _, zG BK101.out, GE101.out, HR0.out⟩), zB, zB⟩
set_option maxHeartbeats 8000000 in
set_option maxRecDepth 100000 in
theorem spec_l01From.calls (k : Nat) (A0 : Option Addr) (c0 : Nat) (l0 : List Int) (r1 : List Int) (r2 : Int) (r3 : Int) (w0 w : World) (hB : Below w0.heap.size w0 w) (hr0 : Kd.C (Kd.int .u8) w0 A0 l0.length l0) (hc0 : l0.length ≤ c0) (h : spec_l01From.f k l0 = some (r1, r2, r3)) :
    Calls Try.prog 24 #[.slice A0 l0.length c0] w fun e w' => ∃ g_ : Nat, e = .returned (.pointer (some ⟨g_, 0, none⟩)) ∧ IsS60 w0 w' g_ r1 r2 r3 ∧ Below w0.heap.size w0 w' ∧ Below w.heap.size w w' := by
 refine (spec_l01From.calls1 k A0 c0 l0 r1 r2 r3 w0 w hB hr0 hc0 h).mono ?_
 rintro e w' ⟨g, he, hi, hb1, hb2⟩
 exact ⟨g, he, hi, below_step hB hb1, hb2⟩
end Go.Proofs.Ytfmjckkgnieccaa.P
end
section
namespace Go.Proofs.Ytfmjckkgnieccaa.P
open Go.RowKit Go.Proofs.YtfmjckkgnieccaaW.PrintWords Go.Proofs.YtfmjckkgnieccaaW.PrintLast Go.Proofs.YtfmjckkgnieccaaW.PrintMore
attribute [local go_sem] max2_int min2_int max_two min_two max_three min_three max_four min_four   -- for this text's walks alone
set_option linter.unusedVariables false
set_option linter.unusedSimpArgs false
def spec_l01Next.f (s0_0 : List Int) (s0_1 : Int) (s0_2 : Int) (a1 : Int) : Option (Int × Int × Int) := if a1 < 1 then (some (0, s0_1, s0_2)) else (if s0_1 < (s0_0.length : Int) then (if 0 ≤ s0_1 then (if a1 = 0 then (none) else (some (Int.tmod (wrap64 ((wrap64 (Go.bits .and .u64 ((IntKind.u64.wrap ((IntKind.u64.wrap (s0_2 * 6364136223846793005)) + 1442695040888963407)) / 8589934592) 16777215)) + (wrap64 (rd s0_0 s0_1)))) a1, wrap64 (s0_1 + 1), IntKind.u64.wrap ((IntKind.u64.wrap (s0_2 * 6364136223846793005)) + 1442695040888963407)))) else (none)) else (if a1 = 0 then (none) else (some (Int.tmod (wrap64 (Go.bits .and .u64 ((IntKind.u64.wrap ((IntKind.u64.wrap (s0_2 * 6364136223846793005)) + 1442695040888963407)) / 8589934592) 16777215)) a1, s0_1, IntKind.u64.wrap ((IntKind.u64.wrap (s0_2 * 6364136223846793005)) + 1442695040888963407)))))
set_option maxHeartbeats 8000000 in
set_option maxRecDepth 100000 in
theorem spec_l01Next.calls (g : Nat) (s0_0 : List Int) (s0_1 : Int) (s0_2 : Int) (a1 : Int) (r1 : Int) (r2 : Int) (r3 : Int) (w0 w : World) (hI : IsS60 w0 w g s0_0 s0_1 s0_2) (hB : Below w0.heap.size w0 w) (h : spec_l01Next.f s0_0 s0_1 s0_2 a1 = some (r1, r2, r3)) :
    Calls Try.prog 55 #[.pointer (some ⟨g, 0, none⟩), .int .i64 a1] w fun e w' => e = .returned (.int .i64 r1) ∧ IsS60 w0 w' g s0_0 r2 r3 ∧ Below w0.heap.size w0 w' ∧ KeepBut w w' g none := by
 have HI0 := Aside0.mk hI
 have HK := Aside0.mk (KeepBut.refl w g none)
 have HL := Aside0.mk hB.size
 clear hI
 have HW0 := Aside0.mk hB.size
 have HB := Aside0.mk hB
 clear hB
 have H : (if a1 < 1 then (some (0, s0_1, s0_2)) else (if s0_1 < (s0_0.length : Int) then (if 0 ≤ s0_1 then (if a1 = 0 then (none) else (some (Int.tmod (wrap64 ((wrap64 (Go.bits .and .u64 ((IntKind.u64.wrap ((IntKind.u64.wrap (s0_2 * 6364136223846793005)) + 1442695040888963407)) / 8589934592) 16777215)) + (wrap64 (rd s0_0 s0_1)))) a1, wrap64 (s0_1 + 1), IntKind.u64.wrap ((IntKind.u64.wrap (s0_2 * 6364136223846793005)) + 1442695040888963407)))) else (none)) else (if a1 = 0 then (none) else (some (Int.tmod (wrap64 (Go.bits .and .u64 ((IntKind.u64.wrap ((IntKind.u64.wrap (s0_2 * 6364136223846793005)) + 1442695040888963407)) / 8589934592) 16777215)) a1, s0_1, IntKind.u64.wrap ((IntKind.u64.wrap (s0_2 * 6364136223846793005)) + 1442695040888963407)))))) = some (r1, r2, r3) := h
 clear h
 by_cases c3 : a1 < 1
 ·
  rw [if_pos c3] at H
  have c3b0 : decide (a1 < 1) = true := decide_eq_true c3
  clear c3
  simp only [Option.some.injEq, Prod.mk.injEq] at H
  obtain ⟨rfl, rfl, rfl⟩ := H
  go_enter Try.func55, Try.ntmps55
  go_wp2
  repeat (go_quiet (fail); try go_wp2)
  go_ret
  exact ⟨zE, zI, zB, zK⟩
 rw [if_neg c3] at H
 have c3b0 : decide (a1 < 1) = false := decide_eq_false c3
 clear c3
 by_cases c4 : s0_1 < (s0_0.length : Int)
 ·
  rw [if_pos c4] at H
  have c4b0 : decide (s0_1 < (s0_0.length : Int)) = true := decide_eq_true c4
  clear c4
  by_cases c5 : 0 ≤ s0_1
  case neg => rw [if_neg c5] at H; exact absurd H (by simp)
  rw [if_pos c5] at H
  have c5b0 : decide (0 ≤ s0_1) = true := decide_eq_true c5
  clear c5
  by_cases c6 : a1 = 0
  ·
   rw [if_pos c6] at H
   exact absurd H (by simp)
  rw [if_neg c6] at H
  have c6b0 : (a1 == 0) = false := beq_eq_false_iff_ne.mpr c6
  have c6b1 : (a1 != 0) = true := bne_iff_ne.mpr c6
  simp only [Option.some.injEq, Prod.mk.injEq] at H
  obtain ⟨rfl, rfl, rfl⟩ := H
  obtain ⟨ASz7_0, cSz7_0, HGz7, hgz7, HSz7_0⟩ := HI0.out
  have hcz7_0 := cellS60_0 HGz7
  have hcz7_1 := cellS60_1 HGz7
  have hcz7_2 := cellS60_2 HGz7
  have hfz7_1 := blk_frozen HGz7 1
  have hfz7_2 := blk_frozen HGz7 2
  clear HGz7 hgz7
  have p101 : 0 ≤ (s0_1 : Int) := zD
  have q101 : s0_1 < (s0_0.length : Int) := zD
  obtain ⟨ad101, e101, hx101_0⟩ := Kd.at_int HSz7_0 s0_1 p101 q101
  cases e101
  have hn101_0 : ad101.block ≠ g := Nat.ne_of_lt (Nat.lt_of_lt_of_le (by have := World.block_lt_of_cell? _ _ hx101_0; first | rwa [add_block] at this | exact this) (IsS60.ge HI0.out))
  replace hx101_0 := pw_cell_below HB.out hx101_0
  replace hx101_0 := (cell_far (p := ⟨g, 2, none⟩) (by first | (rw [add_block]; exact hn101_0) | (show (Addr.add _ _).block ≠ _; rw [add_block]; exact hn101_0) | exact hn101_0) (.int .u64 (IntKind.u64.wrap ((IntKind.u64.wrap (s0_2 * 6364136223846793005)) + 1442695040888963407)))).trans hx101_0
  (try have hy101_0 := fun (n_ : Nat) => (show (((w.drewN n_).setCell ⟨g, 2, none⟩ (.int .u64 (IntKind.u64.wrap ((IntKind.u64.wrap (s0_2 * 6364136223846793005)) + 1442695040888963407))))).cell? _ = some _ from hx101_0))
  clear hn101_0
  replace p101 := eq_true p101
  replace q101 := eq_true q101
  go_enter Try.func55, Try.ntmps55
  go_wp2
  repeat (go_quiet (fail); try go_wp2)
  go_ret
  exact ⟨zE, zI, zB, zK⟩
 rw [if_neg c4] at H
 have c4b0 : decide (s0_1 < (s0_0.length : Int)) = false := decide_eq_false c4
 clear c4
 by_cases c8 : a1 = 0
 ·
  rw [if_pos c8] at H
  exact absurd H (by simp)
 rw [if_neg c8] at H
 have c8b0 : (a1 == 0) = false := beq_eq_false_iff_ne.mpr c8
 have c8b1 : (a1 != 0) = true := bne_iff_ne.mpr c8
 simp only [Option.some.injEq, Prod.mk.injEq] at H
 obtain ⟨rfl, rfl, rfl⟩ := H
 obtain ⟨ASz9_0, cSz9_0, HGz9, hgz9, HSz9_0⟩ := HI0.out
 have hcz9_0 := cellS60_0 HGz9
 have hcz9_1 := cellS60_1 HGz9
 have hcz9_2 := cellS60_2 HGz9
 have hfz9_1 := blk_frozen HGz9 1
 have hfz9_2 := blk_frozen HGz9 2
 clear HGz9 hgz9
 go_enter Try.func55, Try.ntmps55
 go_wp2
 repeat (go_quiet (fail); try go_wp2)
 go_ret
 exact ⟨zE, zI, zB, zK⟩
end Go.Proofs.Ytfmjckkgnieccaa.P
end
section
namespace Go.Proofs.Ytfmjckkgnieccaa.P
open Go.RowKit Go.Proofs.YtfmjckkgnieccaaW.PrintWords Go.Proofs.YtfmjckkgnieccaaW.PrintLast Go.Proofs.YtfmjckkgnieccaaW.PrintMore
attribute [local go_sem] max2_int min2_int max_two min_two max_three min_three max_four min_four   -- for this text's walks alone
set_option linter.unusedVariables false
set_option linter.unusedSimpArgs false
def spec_l01Pick.f (s0_0 : List Int) (s0_1 : Int) (s0_2 : Int) (l1 : List Int) : Option (Int × Int × Int) := (spec_l01Next.f s0_0 s0_1 s0_2 (l1.length : Int)).bind fun bt101 => (if 0 ≤ bt101.1 then (if bt101.1 < (l1.length : Int) then (some (rd l1 bt101.1, bt101.2.1, bt101.2.2)) else (none)) else (none))
set_option maxHeartbeats 8000000 in
set_option maxRecDepth 100000 in
theorem spec_l01Pick.calls (g : Nat) (s0_0 : List Int) (s0_1 : Int) (s0_2 : Int) (A1 : Option Addr) (c1 : Nat) (l1 : List Int) (r1 : Int) (r2 : Int) (r3 : Int) (w0 w : World) (hI : IsS60 w0 w g s0_0 s0_1 s0_2) (hB : Below w0.heap.size w0 w) (hr1 : Kd.C (Kd.int .i64) w A1 l1.length l1) (hc1 : l1.length ≤ c1) (hf1 : ∀ ad, A1 = some ad → 0 < l1.length → ad.block ≠ g) (h : spec_l01Pick.f s0_0 s0_1 s0_2 l1 = some (r1, r2, r3)) :
    Calls Try.prog 26 #[.pointer (some ⟨g, 0, none⟩), .slice A1 l1.length c1] w fun e w' => e = .returned (.int .i64 r1) ∧ IsS60 w0 w' g s0_0 r2 r3 ∧ Below w0.heap.size w0 w' ∧ KeepBut w w' g none := by
 have HR1 := Aside0.mk hr1
 have HC1 := Aside0.mk hc1
 clear hr1 hc1
 have HI0 := Aside0.mk hI
 have HK := Aside0.mk (KeepBut.refl w g none)
 have HL := Aside0.mk hB.size
 clear hI
 have HW0 := Aside0.mk hB.size
 have HB := Aside0.mk hB
 clear hB
 have H : ((spec_l01Next.f s0_0 s0_1 s0_2 (l1.length : Int)).bind fun bt101 => (if 0 ≤ bt101.1 then (if bt101.1 < (l1.length : Int) then (some (rd l1 bt101.1, bt101.2.1, bt101.2.2)) else (none)) else (none))) = some (r1, r2, r3) := h
 clear h
 replace H := Option.bind_eq_some_iff.mp H
 obtain ⟨⟨t101, t102, t103⟩, A30, H⟩ := H
 replace H : (if 0 ≤ t101 then (if t101 < (l1.length : Int) then (some (rd l1 t101, t102, t103)) else (none)) else (none)) = some (r1, r2, r3) := H
 have A3 := Aside0.mk A30
 clear A30
 by_cases c4 : 0 ≤ t101
 case neg => rw [if_neg c4] at H; exact absurd H (by simp)
 rw [if_pos c4] at H
 have c4b0 : decide (0 ≤ t101) = true := decide_eq_true c4
 clear c4
 by_cases c5 : t101 < (l1.length : Int)
 case neg => rw [if_neg c5] at H; exact absurd H (by simp)
 rw [if_pos c5] at H
 have c5b0 : decide (t101 < (l1.length : Int)) = true := decide_eq_true c5
 clear c5
 simp only [Option.some.injEq, Prod.mk.injEq] at H
 obtain ⟨rfl, rfl, rfl⟩ := H
 go_enter Try.func26, Try.ntmps26
 go_wp2_with (first | ((with_reducible refine gate_callee (f := 55) rfl ?_); refine goesL_ (some 9) rfl rfl Try.func55 zk rfl #[.pointer (some ⟨g, 0, none⟩), .int .i64 (l1.length : Int)] rfl zA ?_; (with_reducible refine (spec_l01Next.calls g s0_0 s0_1 s0_2 (l1.length : Int) t101 t102 t103 w0 _ ?side1 ?side2 A3.out).mono ?_); (case side1 => exact zI); (case side2 => exact zB); rintro e w6 ⟨rfl, hi, hb, hk⟩; refine ⟨_, rfl, ?_⟩; have n_ := y3 (KeepBut.trans (zK) hk (.inl rfl)) (hb) (hi); clear HK HB HI0; obtain ⟨HK, HB, HI0⟩ := n_; (try clear hb); (try clear hb2); (try clear hk); (try clear hi); have p104 : 0 ≤ (t101 : Int) := zD; have q104 : t101 < (l1.length : Int) := zD; obtain ⟨ad104, e104, hx104_0⟩ := Kd.at_int HR1.out t101 p104 q104; cases e104; replace hx104_0 := keep_cell HK.out hx104_0 (by first | (rw [add_block]; exact hf1 _ rfl (by omega)) | exact hf1 _ rfl (by omega) | exact hf1 ad104 rfl (by omega)); replace p104 := eq_true p104; replace q104 := eq_true q104))
 go_ret
 exact ⟨zE, zI, zB, zK⟩
end Go.Proofs.Ytfmjckkgnieccaa.P
end
section
namespace Go.Proofs.Ytfmjckkgnieccaa.P
open Go.RowKit Go.Proofs.YtfmjckkgnieccaaW.PrintWords Go.Proofs.YtfmjckkgnieccaaW.PrintLast Go.Proofs.YtfmjckkgnieccaaW.PrintMore
attribute [local go_sem] max2_int min2_int max_two min_two max_three min_three max_four min_four   -- for this text's walks alone
set_option linter.unusedVariables false
set_option linter.unusedSimpArgs false
def spec_l01Own.f (l0 : List Int) : Option (List Int) := (some (([] : List Int) : List Int)).bind fun y101 => (if y101.length + l0.length < 17592186044416 then (some (y101 ++ l0)) else (none))
set_option maxHeartbeats 8000000 in
set_option maxRecDepth 100000 in
theorem spec_l01Own.calls (A0 : Option Addr) (c0 : Nat) (l0 : List Int) (r : List Int) (w : World) (hr0 : Kd.C (Kd.int .i64) w A0 l0.length l0) (hc0 : l0.length ≤ c0) (h : spec_l01Own.f l0 = some r) :
    Calls Try.prog 32 #[.slice A0 l0.length c0] w fun e w' => ∃ v0_ : Value, e = .returned (v0_) ∧ Kd.R (Kd.int .i64) 2 w' w.heap.size (fun _ => True) v0_ r ∧ Below w.heap.size w w' := by
 have HR0 := Aside0.mk hr0
 have HC0 := Aside0.mk hc0
 clear hr0 hc0
 have HB := Aside0.mk (Below.refl w.heap.size w)
 have H : ((some (([] : List Int) : List Int)).bind fun y101 => (if y101.length + l0.length < 17592186044416 then (some (y101 ++ l0)) else (none))) = some r := h
 clear h
 obtain ⟨y101, hy101⟩ : ∃ y_ : List Int, y_ = (([] : List Int)) := ⟨_, rfl⟩
 replace H : (if y101.length + l0.length < 17592186044416 then (some (y101 ++ l0)) else (none)) = some r := zH hy101
 have Ny101 := Aside0.mk hy101
 clear hy101
 by_cases c2 : y101.length + l0.length < 17592186044416
 case neg => rw [if_neg c2] at H; exact absurd H (by simp)
 rw [if_pos c2] at H
 have LMc2 := Aside0.mk c2
 clear c2
 obtain ⟨y104, hy104⟩ : ∃ y_ : List Int, y_ = (y101 ++ l0) := ⟨_, rfl⟩
 replace H : (some y104) = some r := zH hy104
 have Ny104 := Aside0.mk hy104
 clear hy104
 obtain rfl := Option.some.inj H
 go_enter Try.func32, Try.ntmps32
 go_wp2_with (first | ((with_reducible refine gate_dst (N := 3) rfl ?_); refine Kd.R_lit (Kd.int .i64) _ 2 ?hg (N := 3) ?hd (xs := ([] : List Int)) (inner := []) (ok := fun _ => True) (okp := fun _ => True) ?hr ?hp (fun _ hk => hk) trivial (Below.refl _ _) (Nat.le_refl _) (by simp) ?_; (case hd => rfl); (case hg => rfl); (case hr => first | (go_simp; done) | (go_simp; rfl)); (case hp => exact (Reps.none _ _)); intro v102 w3 ho4 hb hg_ hnew_; clear hg_ hnew_; (first | rw [← Ny101.out] at ho4 | (simp only [Int.reduceToNat] at ho4; rw [← Ny101.out] at ho4)); have n_ := y2 (Kd.R_lower ho4 (below_size (zB))) (below_step (zB) hb); clear HB; obtain ⟨HO103, HB⟩ := n_; clear hb ho4) | ((with_reducible refine gate_builtin (b := .append) (xs := #[.tmp 3, .tmp 4]) rfl ?_); at_builtin; refine Kd.R_append_rows (Kd.int .i64) (w0 := w) w.heap.size rfl (.tmp 3) (.tmp 4) 24 2 (.int .i64 0) 8 rfl Try.underlying24 info2 rfl (by decide) (by omega) v102 y101 l0 _ _ _ (fun _ => True) (fun _ => False) rfl rfl ?aO ?aR (fun _ _ h => h) (fun _ h => h.elim) ?aF ?aB ?aS ?aL ?_; (case aR => repeat (first | exact (Kd.C_below HR0.out HB.out) | (with_reducible refine Kd.C_alloc ?_ _) | (with_reducible refine Kd.C_drewN ?_ _) | (with_reducible refine Kd.C_drew ?_))); (case aB => exact (zB)); (case aF => exact (fun _ _ => trivial)); (case aO => exact (zR HO103.out)); (case aS => exact (below_size (zB))); (case aL => have := LMc2.out; omega); intro v105 w5 ho hb hg hat; rw [← Ny104.out] at ho; have n_ := y2 (hb) (ho); clear HB HO103; obtain ⟨HB, HO106⟩ := n_; clear ho hb hg hat))
 go_ret
 exact ⟨_, zE, zR HO106.out, zB⟩
end Go.Proofs.Ytfmjckkgnieccaa.P
end
section
namespace Go.Proofs.Ytfmjckkgnieccaa.P
open Go.RowKit Go.Proofs.YtfmjckkgnieccaaW.PrintWords Go.Proofs.YtfmjckkgnieccaaW.PrintLast Go.Proofs.YtfmjckkgnieccaaW.PrintMore
attribute [local go_sem] max2_int min2_int max_two min_two max_three min_three max_four min_four   -- for this text's walks alone
set_option linter.unusedVariables false
set_option linter.unusedSimpArgs false
mutual
def spec_l07DrawShares.l0 : Nat → List Int → Int → Int → List Int → Int → Int → Option (List Int × Int × Int)
  | 0, _, _, _, _, _, _ => none
  | k + 1, x5, x6, x7, x1000, x1001, x1002 => if x7 > 0 then (spec_l07DrawShares.j1 k x5 x6 x7 (decide (x6 > 0)) x1000 x1001 x1002) else (spec_l07DrawShares.j1 k x5 x6 x7 false x1000 x1001 x1002)
def spec_l07DrawShares.j1 : Nat → List Int → Int → Int → Bool → List Int → Int → Int → Option (List Int × Int × Int)
  | 0, _, _, _, _, _, _, _ => none
  | k + 1, x5, x6, x7, x22, x1000, x1001, x1002 => if x22 = true then ((spec_l01Pick.f x1000 x1001 x1002 (([2, 4, 12] : List Int))).bind fun bt113 => ((spec_l01Next.f x1000 bt113.2.1 bt113.2.2 (mn x6 bt113.1)).bind fun bt116 => (if x5.length < 17592186044416 then (spec_l07DrawShares.l0 k (x5 ++ [wrap64 (1 + bt116.1)]) (wrap64 (x6 - (wrap64 (1 + bt116.1)))) (wrap64 (x7 - 1)) x1000 bt116.2.1 bt116.2.2) else (none)))) else (some (x5, x1001, x1002))
end
def spec_l07DrawShares.f (k : Nat) (s0_0 : List Int) (s0_1 : Int) (s0_2 : Int) (a1 : Int) : Option (List Int × Int × Int) := (spec_l01Next.f s0_0 s0_1 s0_2 5).bind fun bt101 => ((spec_l01Next.f s0_0 bt101.2.1 bt101.2.2 6).bind fun bt107 => (spec_l07DrawShares.l0 k (([wrap64 (1 + bt101.1)] : List Int)) (wrap64 (a1 - 5)) bt107.1 s0_0 bt107.2.1 bt107.2.2))
theorem spec_l07DrawShares.mono_l : ∀ k, (∀ y0 y1 y2 y3 y4 y5, LeO (spec_l07DrawShares.l0 k y0 y1 y2 y3 y4 y5) (spec_l07DrawShares.l0 (k + 1) y0 y1 y2 y3 y4 y5)) ∧ (∀ y0 y1 y2 y3 y4 y5 y6, LeO (spec_l07DrawShares.j1 k y0 y1 y2 y3 y4 y5 y6) (spec_l07DrawShares.j1 (k + 1) y0 y1 y2 y3 y4 y5 y6))
  | 0 => ⟨fun _ _ _ _ _ _ r h => by simp [spec_l07DrawShares.l0] at h, fun _ _ _ _ _ _ _ r h => by simp [spec_l07DrawShares.j1] at h⟩
  | k + 1 => by
    obtain ⟨ih0, ih1⟩ := spec_l07DrawShares.mono_l k
    refine ⟨?_, ?_⟩ <;> intros <;> (first | unfold spec_l07DrawShares.l0 | unfold spec_l07DrawShares.j1) <;> repeat' first | (with_reducible exact ih0 _ _ _ _ _ _) | (with_reducible exact ih1 _ _ _ _ _ _ _) | (with_reducible exact LeO.refl _) | (with_reducible exact LeO.none _) | (with_reducible refine LeO.ite ?_ ?_) | (with_reducible refine LeO.bind ?_ (fun _ => ?_)) | exact ih0 _ _ _ _ _ _ | exact ih1 _ _ _ _ _ _ _ | exact LeO.none _ | refine LeO.ite ?_ ?_ | refine LeO.bind ?_ (fun _ => ?_)
theorem spec_l07DrawShares.mono : ∀ a0 a1 a2 a3 k, LeO (spec_l07DrawShares.f k a0 a1 a2 a3) (spec_l07DrawShares.f (k + 1) a0 a1 a2 a3) := by
  intro a0 a1 a2 a3 k
  obtain ⟨ih0, ih1⟩ := spec_l07DrawShares.mono_l k
  unfold spec_l07DrawShares.f
  repeat' first | (with_reducible exact ih0 _ _ _ _ _ _) | (with_reducible exact ih1 _ _ _ _ _ _ _) | (with_reducible exact LeO.refl _) | (with_reducible exact LeO.none _) | (with_reducible refine LeO.ite ?_ ?_) | (with_reducible refine LeO.bind ?_ (fun _ => ?_)) | exact ih0 _ _ _ _ _ _ | exact ih1 _ _ _ _ _ _ _ | exact LeO.none _ | refine LeO.ite ?_ ?_ | refine LeO.bind ?_ (fun _ => ?_)
set_option maxHeartbeats 8000000 in
set_option maxRecDepth 100000 in
theorem spec_l07DrawShares.calls (k : Nat) (g : Nat) (s0_0 : List Int) (s0_1 : Int) (s0_2 : Int) (a1 : Int) (r1 : List Int) (r2 : Int) (r3 : Int) (w0 w : World) (hI : IsS60 w0 w g s0_0 s0_1 s0_2) (hB : Below w0.heap.size w0 w) (h : spec_l07DrawShares.f k s0_0 s0_1 s0_2 a1 = some (r1, r2, r3)) :
    Calls Try.prog 54 #[.pointer (some ⟨g, 0, none⟩), .int .i64 a1] w fun e w' => ∃ v0_ : Value, e = .returned (v0_) ∧ Kd.R (Kd.int .i64) 2 w' w.heap.size (fun _ => True) v0_ r1 ∧ IsS60 w0 w' g s0_0 r2 r3 ∧ Below w0.heap.size w0 w' ∧ KeepBut w w' g none := by
 have HI0 := Aside0.mk hI
 have HK := Aside0.mk (KeepBut.refl w g none)
 have HL := Aside0.mk hB.size
 clear hI
 have HW0 := Aside0.mk hB.size
 have HB := Aside0.mk hB
 clear hB
 have H : ((spec_l01Next.f s0_0 s0_1 s0_2 5).bind fun bt101 => ((spec_l01Next.f s0_0 bt101.2.1 bt101.2.2 6).bind fun bt107 => (spec_l07DrawShares.l0 k (([wrap64 (1 + bt101.1)] : List Int)) (wrap64 (a1 - 5)) bt107.1 s0_0 bt107.2.1 bt107.2.2))) = some (r1, r2, r3) := h
 clear h
 replace H := Option.bind_eq_some_iff.mp H
 obtain ⟨⟨t101, t102, t103⟩, A30, H⟩ := H
 replace H : ((spec_l01Next.f s0_0 t102 t103 6).bind fun bt107 => (spec_l07DrawShares.l0 k (([wrap64 (1 + t101)] : List Int)) (wrap64 (a1 - 5)) bt107.1 s0_0 bt107.2.1 bt107.2.2)) = some (r1, r2, r3) := H
 have A3 := Aside0.mk A30
 clear A30
 obtain ⟨y104, hy104⟩ : ∃ y_ : List Int, y_ = (([wrap64 (1 + t101)] : List Int)) := ⟨_, rfl⟩
 replace H : ((spec_l01Next.f s0_0 t102 t103 6).bind fun bt107 => (spec_l07DrawShares.l0 k y104 (wrap64 (a1 - 5)) bt107.1 s0_0 bt107.2.1 bt107.2.2)) = some (r1, r2, r3) := zH hy104
 have Ny104 := Aside0.mk hy104
 clear hy104
 replace H := Option.bind_eq_some_iff.mp H
 obtain ⟨⟨t107, t108, t109⟩, A40, H⟩ := H
 replace H : (spec_l07DrawShares.l0 k y104 (wrap64 (a1 - 5)) t107 s0_0 t108 t109) = some (r1, r2, r3) := H
 have A4 := Aside0.mk A40
 clear A40
 have H' := Aside0.mk H
 clear H
 go_enter Try.func54, Try.ntmps54
 go_wp2_with (first | ((with_reducible refine gate_callee (f := 55) rfl ?_); refine goesL_ (some 10) rfl rfl Try.func55 zk rfl #[.pointer (some ⟨g, 0, none⟩), .int .i64 5] rfl zA ?_; (with_reducible refine (spec_l01Next.calls g s0_0 s0_1 s0_2 5 t101 t102 t103 w0 _ ?side1 ?side2 A3.out).mono ?_); (case side1 => exact zI); (case side2 => exact zB); rintro e w5 ⟨rfl, hi, hb, hk⟩; refine ⟨_, rfl, ?_⟩; have n_ := y3 (KeepBut.trans (zK) hk (.inl rfl)) (hb) (hi); clear HK HB HI0; obtain ⟨HK, HB, HI0⟩ := n_; (try clear hb); (try clear hb2); (try clear hk); (try clear hi)) | ((with_reducible refine gate_dst (N := 12) rfl ?_); refine Kd.R_lit (Kd.int .i64) _ 2 ?hg (N := 12) ?hd (xs := ([wrap64 (1 + t101)] : List Int)) (inner := [.int .i64 (wrap64 (1 + t101))]) (ok := fun _ => True) (okp := fun _ => True) ?hr ?hp (fun _ hk => hk) trivial (Below.refl _ _) (Nat.le_refl _) (by simp) ?_; (case hd => rfl); (case hg => rfl); (case hr => first | (go_simp; done) | (go_simp; rfl)); (case hp => exact (Reps.one (show Kd.M (Kd.int .i64) _ _ _ (wrap64 (1 + t101)) [.int .i64 (wrap64 (1 + t101))] from rfl) (Reps.none _ _))); intro v105 w6 ho7 hb hg_ hnew_; clear hg_ hnew_; (first | rw [← Ny104.out] at ho7 | (simp only [Int.reduceToNat] at ho7; rw [← Ny104.out] at ho7)); have n_ := y4 (Kd.R_lower ho7 (keep_size (w := w) (g := g) (row := none) (zK))) (IsS60.below (zI) hb) (KeepBut.trans (zK) (KeepBut.of_below hb g none) (.inl rfl)) (below_step (zB) hb); clear HI0 HK HB; obtain ⟨HO106, HI0, HK, HB⟩ := n_; clear hb ho7) | ((with_reducible refine gate_callee (f := 55) rfl ?_); refine goesL_ (some 16) rfl rfl Try.func55 zk rfl #[.pointer (some ⟨g, 0, none⟩), .int .i64 6] rfl zA ?_; (with_reducible refine (spec_l01Next.calls g s0_0 t102 t103 6 t107 t108 t109 w0 _ ?side1 ?side2 A4.out).mono ?_); (case side1 => exact zI); (case side2 => exact zB); rintro e w8 ⟨rfl, hi, hb, hk⟩; refine ⟨_, rfl, ?_⟩; have n_ := y4 (Kd.R_mono (Kd.R_keep (IsS60.apart (show IsS60 w0 _ g s0_0 t102 t103 from zI) (zR HO106.out) (by decide)) hk (fun _ h => h.2)) (fun _ h => h.1)) (KeepBut.trans (zK) hk (.inl rfl)) (hb) (hi); clear HO106 HK HB HI0; obtain ⟨HO106, HK, HB, HI0⟩ := n_; (try clear hb); (try clear hb2); (try clear hk); (try clear hi)))
 go_loopg [5, 6, 7] k (fun kq v5 v6 v7 w' => ∃ (x5_1 : List Int) (x6_1 : Int) (x7_1 : Int) (x1001_1 : Int) (x1002_1 : Int), v6 = .int .i64 x6_1 ∧ v7 = .int .i64 x7_1 ∧ Aside0 (spec_l07DrawShares.l0 kq x5_1 x6_1 x7_1 s0_0 x1001_1 x1002_1 = some (r1, r2, r3)) ∧ Aside0 (kq ≤ k) ∧ Aside0 (Kd.R (Kd.int .i64) 2 w' w.heap.size (fun _ => True) v5 x5_1) ∧ Aside0 (IsS60 w0 w' g s0_0 x1001_1 x1002_1) ∧ Aside0 (KeepBut w w' g none) ∧ Aside0 (Below w0.heap.size w0 w'))
 case atStart => exact ⟨(y104), (wrap64 (a1 - 5)), (t107), (t108), (t109), zF, zF, H', ⟨Nat.le_refl _⟩, ⟨zR HO106.out⟩, ⟨zI⟩, ⟨zK⟩, ⟨zB⟩⟩
 clear H'
 obtain ⟨x5_1, x6_1, x7_1, x1001_1, x1002_1, rfl, rfl, HA, HK1, HO_5, HI0, HK, HB⟩ := hrel
 cases gk with
 | zero => exact absurd HA.out (by simp [spec_l07DrawShares.l0])
 | succ k1 =>
   have H := HA.out
   clear HA
   simp only [spec_l07DrawShares.l0] at H
   have HC9 := Aside0.mk H
   clear H
   go_upto_region 3 with (fail)
   go_cut [22] (fun v22 wc => ∃ (kq : Nat) (x22_8 : Bool), v22 = .bool x22_8 ∧ Aside0 (spec_l07DrawShares.j1 kq x5_1 x6_1 x7_1 x22_8 s0_0 x1001_1 x1002_1 = some (r1, r2, r3)) ∧ Aside0 (kq ≤ k1) ∧ Aside0 (Kd.R (Kd.int .i64) 2 wc w.heap.size (fun _ => True) u5 x5_1) ∧ Aside0 (IsS60 w0 wc g s0_0 x1001_1 x1002_1) ∧ Aside0 (KeepBut w wc g none) ∧ Aside0 (Below w0.heap.size w0 wc))
   case first =>
     have H := HC9.out
     clear HC9
     by_cases c10 : x7_1 > 0
     · rw [if_pos c10] at H
       have c10b0 : decide (0 < x7_1) = true := decide_eq_true c10
       clear c10
       (first | rw [c10b0] | (simp only [i64_w, i32_w]; rw [c10b0]) | skip)
       have H' := Aside0.mk H
       clear H
       go_wp2
       go_meet
       case rel => exact ⟨_, (decide (x6_1 > 0)), zF, H', ⟨by have := HK1.out; first | omega | exact Nat.le_refl _⟩, ⟨zR HO_5.out⟩, ⟨zI⟩, ⟨zK⟩, ⟨zB⟩⟩
     · rw [if_neg c10] at H
       have c10b0 : decide (0 < x7_1) = false := decide_eq_false c10
       clear c10
       (first | rw [c10b0] | (simp only [i64_w, i32_w]; rw [c10b0]) | skip)
       have H' := Aside0.mk H
       clear H
       go_wp2
       go_meet
       case rel => exact ⟨_, (false), zF, H', ⟨by have := HK1.out; first | omega | exact Nat.le_refl _⟩, ⟨zR HO_5.out⟩, ⟨zI⟩, ⟨zK⟩, ⟨zB⟩⟩
   case rest =>
     clear HC9
     obtain ⟨kq, x22_8, rfl, HA, HJ8, HO_5, HI0, HK, HB⟩ := hcut
     cases kq with
     | zero => exact absurd HA.out (by simp [spec_l07DrawShares.j1])
     | succ kj8 =>
       have H := HA.out
       clear HA
       simp only [spec_l07DrawShares.j1] at H
       by_cases c11 : x22_8 = true
       · subst c11
         have H1 : ((spec_l01Pick.f s0_0 x1001_1 x1002_1 (([2, 4, 12] : List Int))).bind fun bt113 => ((spec_l01Next.f s0_0 bt113.2.1 bt113.2.2 (mn x6_1 bt113.1)).bind fun bt116 => (if x5_1.length < 17592186044416 then (spec_l07DrawShares.l0 kj8 (x5_1 ++ [wrap64 (1 + bt116.1)]) (wrap64 (x6_1 - (wrap64 (1 + bt116.1)))) (wrap64 (x7_1 - 1)) s0_0 bt116.2.1 bt116.2.2) else (none)))) = some (r1, r2, r3) := by rw [if_pos rfl] at H; exact H
         clear H
         have H := H1
         clear H1
         obtain ⟨y110, hy110⟩ : ∃ y_ : List Int, y_ = (([2, 4, 12] : List Int)) := ⟨_, rfl⟩
         replace H : ((spec_l01Pick.f s0_0 x1001_1 x1002_1 y110).bind fun bt113 => ((spec_l01Next.f s0_0 bt113.2.1 bt113.2.2 (mn x6_1 bt113.1)).bind fun bt116 => (if x5_1.length < 17592186044416 then (spec_l07DrawShares.l0 kj8 (x5_1 ++ [wrap64 (1 + bt116.1)]) (wrap64 (x6_1 - (wrap64 (1 + bt116.1)))) (wrap64 (x7_1 - 1)) s0_0 bt116.2.1 bt116.2.2) else (none)))) = some (r1, r2, r3) := zH hy110
         have Ny110 := Aside0.mk hy110
         clear hy110
         replace H := Option.bind_eq_some_iff.mp H
         obtain ⟨⟨t113, t114, t115⟩, A120, H⟩ := H
         replace H : ((spec_l01Next.f s0_0 t114 t115 (mn x6_1 t113)).bind fun bt116 => (if x5_1.length < 17592186044416 then (spec_l07DrawShares.l0 kj8 (x5_1 ++ [wrap64 (1 + bt116.1)]) (wrap64 (x6_1 - (wrap64 (1 + bt116.1)))) (wrap64 (x7_1 - 1)) s0_0 bt116.2.1 bt116.2.2) else (none))) = some (r1, r2, r3) := H
         have A12 := Aside0.mk A120
         clear A120
         obtain ⟨ji13, hji13⟩ : ∃ j_ : Int, (mn x6_1 t113) = j_ := ⟨_, rfl⟩
         replace H : ((spec_l01Next.f s0_0 t114 t115 (ji13)).bind fun bt116 => (if x5_1.length < 17592186044416 then (spec_l07DrawShares.l0 kj8 (x5_1 ++ [wrap64 (1 + bt116.1)]) (wrap64 (x6_1 - (wrap64 (1 + bt116.1)))) (wrap64 (x7_1 - 1)) s0_0 bt116.2.1 bt116.2.2) else (none))) = some (r1, r2, r3) := by first | (rw [hji13] at H; exact H) | (simp only [hji13] at H ⊢; exact H)
         (try rw [hji13] at A12)
         have hji13_ : (if t113 < x6_1 then t113 else x6_1) = ji13 := hji13
         replace H := Option.bind_eq_some_iff.mp H
         obtain ⟨⟨t116, t117, t118⟩, A140, H⟩ := H
         replace H : (if x5_1.length < 17592186044416 then (spec_l07DrawShares.l0 kj8 (x5_1 ++ [wrap64 (1 + t116)]) (wrap64 (x6_1 - (wrap64 (1 + t116)))) (wrap64 (x7_1 - 1)) s0_0 t117 t118) else (none)) = some (r1, r2, r3) := H
         have A14 := Aside0.mk A140
         clear A140
         by_cases c15 : x5_1.length < 17592186044416
         · rw [if_pos c15] at H
           have LMc15 := Aside0.mk c15
           clear c15
           obtain ⟨y119, hy119⟩ : ∃ y_ : List Int, y_ = (x5_1 ++ [wrap64 (1 + t116)]) := ⟨_, rfl⟩
           replace H : (spec_l07DrawShares.l0 kj8 y119 (wrap64 (x6_1 - (wrap64 (1 + t116)))) (wrap64 (x7_1 - 1)) s0_0 t117 t118) = some (r1, r2, r3) := zH hy119
           have Ny119 := Aside0.mk hy119
           clear hy119
           have H' := Aside0.mk H
           clear H
           go_wp2_with (first | ((with_reducible refine gate_dst (N := 28) rfl ?_); refine Kd.R_lit (Kd.int .i64) _ 2 ?hg (N := 28) ?hd (xs := ([2, 4, 12] : List Int)) (inner := [.int .i64 2, .int .i64 4, .int .i64 12]) (ok := fun _ => True) (okp := fun _ => True) ?hr ?hp (fun _ hk => hk) trivial (Below.refl _ _) (Nat.le_refl _) (by simp) ?_; (case hd => rfl); (case hg => rfl); (case hr => first | (go_simp; done) | (go_simp; rfl)); (case hp => exact (Reps.one (show Kd.M (Kd.int .i64) _ _ _ 2 [.int .i64 2] from rfl) (Reps.one (show Kd.M (Kd.int .i64) _ _ _ 4 [.int .i64 4] from rfl) (Reps.one (show Kd.M (Kd.int .i64) _ _ _ 12 [.int .i64 12] from rfl) (Reps.none _ _))))); intro v111 w16 ho17 hb hg_ hnew_; clear hg_ hnew_; (first | rw [← Ny110.out] at ho17 | (simp only [Int.reduceToNat] at ho17; rw [← Ny110.out] at ho17)); have n_ := y5 (Kd.R_elder' (zR HO_5.out) (Kd.R_base ho17) hb) (Kd.R_lower (Kd.R_new' ho17 (Kd.R_lt (zR HO_5.out))) (keep_size (w := w) (g := g) (row := none) (zK))) (IsS60.below (zI) hb) (KeepBut.trans (zK) (KeepBut.of_below hb g none) (.inl rfl)) (below_step (zB) hb); clear HO_5 HI0 HK HB; obtain ⟨HO_5, HO112, HI0, HK, HB⟩ := n_; clear hb ho17; obtain ⟨Ao18, co18, eo18⟩ := Kd.R_slice HO112.out; subst eo18) | ((with_reducible refine gate_callee (f := 26) rfl ?_); refine goesL_ (some 29) rfl rfl Try.func26 zk rfl #[.pointer (some ⟨g, 0, none⟩), .slice Ao18 y110.length co18] rfl zA ?_; (with_reducible refine (spec_l01Pick.calls g s0_0 x1001_1 x1002_1 _ _ y110 t113 t114 t115 w0 _ ?side1 ?side2 ?side3 ?side4 ?side5 A12.out).mono ?_); (case side1 => exact zI); (case side2 => exact zB); (case side3 => exact zC (Kd.R_reads' HO112.out).2.2); (case side4 => exact (Kd.R_reads' HO112.out).2.1); (case side5 => exact far_slice (IsS60.own_ne HI0.out HO112.out (by decide))); rintro e w19 ⟨rfl, hi, hb, hk⟩; refine ⟨_, rfl, ?_⟩; have n_ := y5 (Kd.R_mono (Kd.R_keep (IsS60.apart (show IsS60 w0 _ g s0_0 x1001_1 x1002_1 from zI) (zR HO_5.out) (by decide)) hk (fun _ h => h.2)) (fun _ h => h.1)) (Kd.R_mono (Kd.R_keep (IsS60.apart (show IsS60 w0 _ g s0_0 x1001_1 x1002_1 from zI) (zR HO112.out) (by decide)) hk (fun _ h => h.2)) (fun _ h => h.1)) (KeepBut.trans (zK) hk (.inl rfl)) (hb) (hi); clear HO_5 HO112 HK HB HI0; obtain ⟨HO_5, HO112, HK, HB, HI0⟩ := n_; (try clear hb); (try clear hb2); (try clear hk); (try clear hi)) | ((with_reducible refine gate_callee (f := 55) rfl ?_); refine goesL_ (some 31) rfl rfl Try.func55 zk rfl #[.pointer (some ⟨g, 0, none⟩), .int .i64 ji13] rfl (by (try simp only [List.map_toArray, List.map_cons, List.map_nil]); first | done | (simp only [hji13]; rfl) | rfl | (simp only [List.length_drop, List.length_take]; rfl)) ?_; (with_reducible refine (spec_l01Next.calls g s0_0 t114 t115 ji13 t116 t117 t118 w0 _ ?side1 ?side2 A14.out).mono ?_); (case side1 => exact zI); (case side2 => exact zB); rintro e w20 ⟨rfl, hi, hb, hk⟩; refine ⟨_, rfl, ?_⟩; have n_ := y5 (Kd.R_mono (Kd.R_keep (IsS60.apart (show IsS60 w0 _ g s0_0 t114 t115 from zI) (zR HO_5.out) (by decide)) hk (fun _ h => h.2)) (fun _ h => h.1)) (Kd.R_mono (Kd.R_keep (IsS60.apart (show IsS60 w0 _ g s0_0 t114 t115 from zI) (zR HO112.out) (by decide)) hk (fun _ h => h.2)) (fun _ h => h.1)) (KeepBut.trans (zK) hk (.inl rfl)) (hb) (hi); clear HO_5 HO112 HK HB HI0; obtain ⟨HO_5, HO112, HK, HB, HI0⟩ := n_; (try clear hb); (try clear hb2); (try clear hk); (try clear hi)) | ((with_reducible refine gate_builtin (b := .append) (xs := #[.tmp 33, .tmp 35]) rfl ?_); at_builtin; refine Kd.R_append (Kd.int .i64) w.heap.size rfl (.tmp 33) (.tmp 35) 24 2 (.int .i64 0) 8 rfl Try.underlying24 info2 rfl (by decide) (by omega) u5 x5_1 (wrap64 (1 + t116)) [.int .i64 (wrap64 (1 + t116))] (fun k_ => some k_ ≠ (.slice Ao18 y110.length co18 : Value).ownBlock) (fun _ => False) rfl rfl ?aP (fun _ hk => hk.elim) ?aF ?aO (Below.refl _ _) ?aS ?aL ?_; (case aP => exact rfl); (case aF => exact (fun k_ hk => Kd.fresh' (Kd.R_lt (zR HO112.out)) k_ hk)); (case aO => exact (by refine zR ?_; exact Kd.R_mono HO_5.out (fun _ hk => hk.2))); (case aS => exact (keep_size (w := w) (g := g) (row := none) (zK))); (case aL => have := LMc15.out; omega); intro v120 w21 ho hb hg hat; rw [← Ny119.out] at ho; have n_ := y5 (IsS60.grown (zI) hg (IsS60.own_ne HI0.out HO_5.out (by decide))) (Kd.R_after (ok := (fun _ => True)) (zR HO112.out) hg hat) (below_weaken (zB) HL.out hb) (KeepBut.trans (zK) (KeepBut.of_grown hg g) (Kd.R_base2 HO_5.out)) (ho); clear HI0 HO112 HB HK HO_5; obtain ⟨HI0, HO112, HB, HK, HO121⟩ := n_; clear ho hb hg hat))
           go_roundg kj8
           case measure => have := HK1.out; have := HJ8.out; omega
           case rel => exact ⟨(y119), (wrap64 (x6_1 - (wrap64 (1 + t116)))), (wrap64 (x7_1 - 1)), (t117), (t118), zF, zF, H', ⟨by have := HK1.out; have := HJ8.out; omega⟩, ⟨by refine zR ?_; exact Kd.R_mono HO121.out (fun _ hk => trivial)⟩, ⟨zI⟩, ⟨zK⟩, ⟨zB⟩⟩
         · rw [if_neg c15] at H
           exact absurd H (by simp)
       · replace c11 := Bool.eq_false_iff.mpr c11
         subst c11
         have H1 : (some (x5_1, x1001_1, x1002_1)) = some (r1, r2, r3) := by rw [if_neg (show ¬ (false = true) by decide)] at H; exact H
         clear H
         have H := H1
         clear H1
         simp only [Option.some.injEq, Prod.mk.injEq] at H
         obtain ⟨rfl, rfl, rfl⟩ := H
         go_wp2
         go_ret
         exact ⟨_, zE, zR HO_5.out, zI, zB, zK⟩
end Go.Proofs.Ytfmjckkgnieccaa.P
end
section
namespace Go.Proofs.Ytfmjckkgnieccaa.P
open Go.RowKit Go.Proofs.YtfmjckkgnieccaaW.PrintWords Go.Proofs.YtfmjckkgnieccaaW.PrintLast Go.Proofs.YtfmjckkgnieccaaW.PrintMore
attribute [local go_sem] max2_int min2_int max_two min_two max_three min_three max_four min_four   -- for this text's walks alone
set_option linter.unusedVariables false
set_option linter.unusedSimpArgs false
def spec_l01In.f (a0 : Int) (a1 : Int) (a2 : Int) : Option (Bool) := if a0 ≥ a1 then (some (decide (a0 ≤ a2))) else (some false)
set_option maxHeartbeats 8000000 in
set_option maxRecDepth 100000 in
theorem spec_l01In.calls (a0 : Int) (a1 : Int) (a2 : Int) (r : Bool) (w : World) (h : spec_l01In.f a0 a1 a2 = some r) :
    Calls Try.prog 42 #[.int .i64 a0, .int .i64 a1, .int .i64 a2] w fun e w' => e = .returned (.bool r) ∧ Drawn0 w w' := by
 have H : (if a0 ≥ a1 then (some (decide (a0 ≤ a2))) else (some false)) = some r := h
 clear h
 by_cases c4 : a0 ≥ a1
 ·
  rw [if_pos c4] at H
  have c4b0 : decide (a1 ≤ a0) = true := decide_eq_true c4
  clear c4
  obtain rfl := Option.some.inj H
  go_enter Try.func42, Try.ntmps42
  go_wp2
  go_ret
  exact ⟨by first | rfl | (simp; done) | (simp [*]; done), by repeat (first | exact Drawn0.refl _ | apply Drawn0.step)⟩
 rw [if_neg c4] at H
 have c4b0 : decide (a1 ≤ a0) = false := decide_eq_false c4
 clear c4
 obtain rfl := Option.some.inj H
 go_enter Try.func42, Try.ntmps42
 go_wp2
 go_ret
 exact ⟨by first | rfl | (simp; done) | (simp [*]; done), by repeat (first | exact Drawn0.refl _ | apply Drawn0.step)⟩
end Go.Proofs.Ytfmjckkgnieccaa.P
end
section
namespace Go.Proofs.Ytfmjckkgnieccaa.P
open Go.RowKit Go.Proofs.YtfmjckkgnieccaaW.PrintWords Go.Proofs.YtfmjckkgnieccaaW.PrintLast Go.Proofs.YtfmjckkgnieccaaW.PrintMore
attribute [local go_sem] max2_int min2_int max_two min_two max_three min_three max_four min_four   -- for this text's walks alone
set_option linter.unusedVariables false
set_option linter.unusedSimpArgs false
def spec_l07Sum.l0 : Nat → List Int → Int → Int → Option (Int)
  | 0, _, _, _ => none
  | k + 1, x0, x3, x4 => if x4 < (x0.length : Int) then (if 0 ≤ x4 then ((spec_l01In.f (rd x0 x4) 1 60).bind fun t102 => (if t102 = true then (spec_l07Sum.l0 k x0 (wrap64 (x3 + (rd x0 x4))) (wrap64 (x4 + 1))) else (some 0))) else (none)) else (if (x0.length : Int) > 8 then (some 0) else (if x3 > 60 then (some 0) else (some x3)))
def spec_l07Sum.f (k : Nat) (l0 : List Int) : Option (Int) := spec_l07Sum.l0 k l0 0 0
theorem spec_l07Sum.mono_l : ∀ k, (∀ y0 y1 y2, LeO (spec_l07Sum.l0 k y0 y1 y2) (spec_l07Sum.l0 (k + 1) y0 y1 y2))
  | 0 => fun _ _ _ r h => by simp [spec_l07Sum.l0] at h
  | k + 1 => by
    have ih0 := spec_l07Sum.mono_l k
    · intro y0 y1 y2
      unfold spec_l07Sum.l0
      repeat' first | (with_reducible exact ih0 _ _ _) | (with_reducible exact LeO.refl _) | (with_reducible exact LeO.none _) | (with_reducible refine LeO.ite ?_ ?_) | (with_reducible refine LeO.bind ?_ (fun _ => ?_)) | exact ih0 _ _ _ | exact LeO.none _ | refine LeO.ite ?_ ?_ | refine LeO.bind ?_ (fun _ => ?_)
theorem spec_l07Sum.mono : ∀ a0 k, LeO (spec_l07Sum.f k a0) (spec_l07Sum.f (k + 1) a0) := by
  intro a0 k
  have ih0 := spec_l07Sum.mono_l k
  unfold spec_l07Sum.f
  repeat' first | (with_reducible exact ih0 _ _ _) | (with_reducible exact LeO.refl _) | (with_reducible exact LeO.none _) | (with_reducible refine LeO.ite ?_ ?_) | (with_reducible refine LeO.bind ?_ (fun _ => ?_)) | exact ih0 _ _ _ | exact LeO.none _ | refine LeO.ite ?_ ?_ | refine LeO.bind ?_ (fun _ => ?_)
set_option maxHeartbeats 8000000 in
set_option maxRecDepth 100000 in
theorem spec_l07Sum.calls (k : Nat) (A0 : Option Addr) (c0 : Nat) (l0 : List Int) (r : Int) (w : World) (hr0 : Kd.C (Kd.int .i64) w A0 l0.length l0) (hc0 : l0.length ≤ c0) (h : spec_l07Sum.f k l0 = some r) :
    Calls Try.prog 67 #[.slice A0 l0.length c0] w fun e w' => e = .returned (.int .i64 r) ∧ Drawn0 w w' := by
 have HR0 := Aside0.mk hr0
 have HC0 := Aside0.mk hc0
 clear hr0 hc0
 have H : (spec_l07Sum.l0 k l0 0 0) = some r := h
 clear h
 have H' := Aside0.mk H
 clear H
 go_enter Try.func67, Try.ntmps67
 go_wp2
 go_loopg [3, 4] k (fun kq v3 v4 w' => ∃ (x3_1 : Int) (x4_1 : Int), v3 = .int .i64 x3_1 ∧ v4 = .int .i64 x4_1 ∧ Aside0 (spec_l07Sum.l0 kq l0 x3_1 x4_1 = some r) ∧ Aside0 (kq ≤ k) ∧ Drawn0 w w')
 case atStart => exact ⟨(0), (0), zF, zF, H', ⟨Nat.le_refl _⟩, by repeat (first | exact Drawn0.refl _ | apply Drawn0.step)⟩
 clear H'
 obtain ⟨x3_1, x4_1, rfl, rfl, HA, HK1, ⟨m1, rfl⟩⟩ := hrel
 cases gk with
 | zero => exact absurd HA.out (by simp [spec_l07Sum.l0])
 | succ k1 =>
   have H := HA.out
   clear HA
   simp only [spec_l07Sum.l0] at H
   by_cases c2 : x4_1 < (l0.length : Int)
   · rw [if_pos c2] at H
     have c2b0 : decide (x4_1 < (l0.length : Int)) = true := decide_eq_true c2
     clear c2
     by_cases c3 : 0 ≤ x4_1
     · rw [if_pos c3] at H
       have c3b0 : decide (0 ≤ x4_1) = true := decide_eq_true c3
       clear c3
       replace H := Option.bind_eq_some_iff.mp H
       obtain ⟨t102, A40, H⟩ := H
       replace H : (if t102 = true then (spec_l07Sum.l0 k1 l0 (wrap64 (x3_1 + (rd l0 x4_1))) (wrap64 (x4_1 + 1))) else (some 0)) = some r := H
       have A4 := Aside0.mk A40
       clear A40
       by_cases c5 : t102 = true
       · subst c5
         have H1 : (spec_l07Sum.l0 k1 l0 (wrap64 (x3_1 + (rd l0 x4_1))) (wrap64 (x4_1 + 1))) = some r := by rw [if_pos rfl] at H; exact H
         clear H
         have H := H1
         clear H1
         have H' := Aside0.mk H
         clear H
         have p101 : 0 ≤ (x4_1 : Int) := zD
         have q101 : x4_1 < (l0.length : Int) := zD
         obtain ⟨ad101, e101, hx101_0⟩ := Kd.at_int HR0.out x4_1 p101 q101
         cases e101
         replace p101 := eq_true p101
         replace q101 := eq_true q101
         go_wp2_with (first | ((with_reducible refine gate_callee (f := 42) rfl ?_); refine goesL_ (some 15) rfl rfl Try.func42 zk rfl #[.int .i64 (rd l0 x4_1), .int .i64 1, .int .i64 60] rfl zA ?_; (with_reducible refine (spec_l01In.calls (rd l0 x4_1) 1 60 true _ A4.out).mono ?_); rintro e w' ⟨rfl, ⟨nd, rfl⟩⟩; refine ⟨_, rfl, ?_⟩; have p103 : 0 ≤ (x4_1 : Int) := zD; have q103 : x4_1 < (l0.length : Int) := zD; obtain ⟨ad103, e103, hx103_0⟩ := Kd.at_int HR0.out x4_1 p103 q103; obtain rfl : ad101 = ad103 := (by injection e103); replace p103 := eq_true p103; replace q103 := eq_true q103))
         go_roundg k1
         case measure => have := HK1.out; omega
         case rel => exact ⟨(wrap64 (x3_1 + (rd l0 x4_1))), (wrap64 (x4_1 + 1)), zF, zF, H', ⟨by have := HK1.out; omega⟩, by repeat (first | exact Drawn0.refl _ | apply Drawn0.step)⟩
       · replace c5 := Bool.eq_false_iff.mpr c5
         subst c5
         have H1 : (some 0) = some r := by rw [if_neg (show ¬ (false = true) by decide)] at H; exact H
         clear H
         have H := H1
         clear H1
         obtain rfl := Option.some.inj H
         have p101 : 0 ≤ (x4_1 : Int) := zD
         have q101 : x4_1 < (l0.length : Int) := zD
         obtain ⟨ad101, e101, hx101_0⟩ := Kd.at_int HR0.out x4_1 p101 q101
         cases e101
         replace p101 := eq_true p101
         replace q101 := eq_true q101
         go_wp2_with (first | ((with_reducible refine gate_callee (f := 42) rfl ?_); refine goesL_ (some 15) rfl rfl Try.func42 zk rfl #[.int .i64 (rd l0 x4_1), .int .i64 1, .int .i64 60] rfl zA ?_; (with_reducible refine (spec_l01In.calls (rd l0 x4_1) 1 60 false _ A4.out).mono ?_); rintro e w' ⟨rfl, ⟨nd, rfl⟩⟩; refine ⟨_, rfl, ?_⟩))
         go_ret
         exact ⟨by first | rfl | (simp; done) | (simp [*]; done), by repeat (first | exact Drawn0.refl _ | apply Drawn0.step)⟩
     · rw [if_neg c3] at H
       exact absurd H (by simp)
   · rw [if_neg c2] at H
     have c2b0 : decide (x4_1 < (l0.length : Int)) = false := decide_eq_false c2
     clear c2
     by_cases c6 : (l0.length : Int) > 8
     · rw [if_pos c6] at H
       have c6b0 : decide (8 < (l0.length : Int)) = true := decide_eq_true c6
       have c6b1 : decide (8 < l0.length) = true := decide_eq_true (by omega)
       clear c6
       obtain rfl := Option.some.inj H
       go_wp2
       go_ret
       exact ⟨by first | rfl | (simp; done) | (simp [*]; done), by repeat (first | exact Drawn0.refl _ | apply Drawn0.step)⟩
     · rw [if_neg c6] at H
       have c6b0 : decide (8 < (l0.length : Int)) = false := decide_eq_false c6
       have c6b1 : decide (8 < l0.length) = false := decide_eq_false (by omega)
       clear c6
       by_cases c7 : x3_1 > 60
       · rw [if_pos c7] at H
         have c7b0 : decide (60 < x3_1) = true := decide_eq_true c7
         clear c7
         obtain rfl := Option.some.inj H
         go_wp2
         go_ret
         exact ⟨by first | rfl | (simp; done) | (simp [*]; done), by repeat (first | exact Drawn0.refl _ | apply Drawn0.step)⟩
       · rw [if_neg c7] at H
         have c7b0 : decide (60 < x3_1) = false := decide_eq_false c7
         clear c7
         obtain rfl := Option.some.inj H
         go_wp2
         go_ret
         exact ⟨by first | rfl | (simp; done) | (simp [*]; done), by repeat (first | exact Drawn0.refl _ | apply Drawn0.step)⟩
end Go.Proofs.Ytfmjckkgnieccaa.P
end
section
namespace Go.Proofs.Ytfmjckkgnieccaa.P
open Go.RowKit Go.Proofs.YtfmjckkgnieccaaW.PrintWords Go.Proofs.YtfmjckkgnieccaaW.PrintLast Go.Proofs.YtfmjckkgnieccaaW.PrintMore
attribute [local go_sem] max2_int min2_int max_two min_two max_three min_three max_four min_four   -- for this text's walks alone
set_option linter.unusedVariables false
set_option linter.unusedSimpArgs false
mutual
def spec_GreedyTurns.l0 : Nat → List Int → Int → List Int → List Int → Int → Option (List Int × Int)
  | 0, _, _, _, _, _ => none
  | k + 1, x0, x4, x5, x6, x7 => if x7 < x4 then (spec_GreedyTurns.l1 k x0 x4 x5 x6 x7 0 (x0.length : Int) 0) else (some (x5, 0))
def spec_GreedyTurns.l1 : Nat → List Int → Int → List Int → List Int → Int → Int → Int → Int → Option (List Int × Int)
  | 0, _, _, _, _, _, _, _, _ => none
  | k + 1, x0, x4, x5, x6, x7, x8, x24, x25 => if x25 < x24 then (if 0 ≤ x25 then (if x25 < (x6.length : Int) then (if x25 < (x0.length : Int) then (if 0 ≤ x8 then (if x8 < (x6.length : Int) then (if x8 < (x0.length : Int) then (if (wrap64 ((wrap64 (x4 * (rd x6 x25))) - (wrap64 ((wrap64 (x7 + 1)) * (rd x0 x25))))) < (wrap64 ((wrap64 (x4 * (rd x6 x8))) - (wrap64 ((wrap64 (x7 + 1)) * (rd x0 x8))))) then (spec_GreedyTurns.l1 k x0 x4 x5 x6 x7 x25 x24 (wrap64 (x25 + 1))) else (spec_GreedyTurns.l1 k x0 x4 x5 x6 x7 x8 x24 (wrap64 (x25 + 1)))) else (none)) else (none)) else (none)) else (none)) else (none)) else (none)) else (if 0 ≤ x8 then (if x8 < (x6.length : Int) then (if x5.length < 17592186044416 then (spec_GreedyTurns.l0 k x0 x4 (x5 ++ [x8]) (x6.set (x8 : Int).toNat (wrap64 ((rd x6 x8) + 1))) (wrap64 (x7 + 1))) else (none)) else (none)) else (none))
end
def spec_GreedyTurns.f (k : Nat) (l0 : List Int) : Option (List Int × Int) := (spec_l07Sum.f k l0).bind fun t101 => (if t101 = 0 then (some (([] : List Int), 2)) else (if 0 ≤ (l0.length : Int) then (if ((l0.length : Int) : Int).toNat ≤ 35184372088832 then (spec_GreedyTurns.l0 k l0 t101 (([] : List Int)) (List.replicate ((l0.length : Int) : Int).toNat 0) 0) else (none)) else (none)))
theorem spec_GreedyTurns.mono_l : ∀ k, (∀ y0 y1 y2 y3 y4, LeO (spec_GreedyTurns.l0 k y0 y1 y2 y3 y4) (spec_GreedyTurns.l0 (k + 1) y0 y1 y2 y3 y4)) ∧ (∀ y0 y1 y2 y3 y4 y5 y6 y7, LeO (spec_GreedyTurns.l1 k y0 y1 y2 y3 y4 y5 y6 y7) (spec_GreedyTurns.l1 (k + 1) y0 y1 y2 y3 y4 y5 y6 y7))
  | 0 => ⟨fun _ _ _ _ _ r h => by simp [spec_GreedyTurns.l0] at h, fun _ _ _ _ _ _ _ _ r h => by simp [spec_GreedyTurns.l1] at h⟩
  | k + 1 => by
    obtain ⟨ih0, ih1⟩ := spec_GreedyTurns.mono_l k
    refine ⟨?_, ?_⟩ <;> intros <;> (first | unfold spec_GreedyTurns.l0 | unfold spec_GreedyTurns.l1) <;> repeat' first | (with_reducible exact ih0 _ _ _ _ _) | (with_reducible exact ih1 _ _ _ _ _ _ _ _) | (with_reducible exact spec_l07Sum.mono _ _) | (with_reducible exact LeO.refl _) | (with_reducible exact LeO.none _) | (with_reducible refine LeO.ite ?_ ?_) | (with_reducible refine LeO.bind ?_ (fun _ => ?_)) | exact ih0 _ _ _ _ _ | exact ih1 _ _ _ _ _ _ _ _ | exact spec_l07Sum.mono _ _ | exact LeO.none _ | refine LeO.ite ?_ ?_ | refine LeO.bind ?_ (fun _ => ?_)
theorem spec_GreedyTurns.mono : ∀ a0 k, LeO (spec_GreedyTurns.f k a0) (spec_GreedyTurns.f (k + 1) a0) := by
  intro a0 k
  obtain ⟨ih0, ih1⟩ := spec_GreedyTurns.mono_l k
  unfold spec_GreedyTurns.f
  repeat' first | (with_reducible exact ih0 _ _ _ _ _) | (with_reducible exact ih1 _ _ _ _ _ _ _ _) | (with_reducible exact spec_l07Sum.mono _ _) | (with_reducible exact LeO.refl _) | (with_reducible exact LeO.none _) | (with_reducible refine LeO.ite ?_ ?_) | (with_reducible refine LeO.bind ?_ (fun _ => ?_)) | exact ih0 _ _ _ _ _ | exact ih1 _ _ _ _ _ _ _ _ | exact spec_l07Sum.mono _ _ | exact LeO.none _ | refine LeO.ite ?_ ?_ | refine LeO.bind ?_ (fun _ => ?_)
def spec_GreedyTurns.T12 : Bool × List (List Nat × List Nat) := (true, [([], []), ([], []), ([], []), ([1, 2], [1, 2]), ([3], [3]), ([0, 4], [0, 4]), ([], []), ([6], [6]), ([], []), ([], []), ([8, 9], [8, 9]), ([10], [10]), ([7, 11], [7, 11]), ([5, 12], [5, 12]), ([], []), ([], []), ([], []), ([15, 16], [15, 16]), ([17], [17]), ([14, 18], [14, 18]), ([], []), ([20], [20]), ([], []), ([], []), ([22, 23], [22, 23]), ([24], [24]), ([21, 25], [21, 25]), ([19, 26], [19, 26]), ([13, 27], [13, 27])])
def spec_GreedyTurns.B12 : List Nat := [0, 0, 0, 6, 14, 31, 0, 64, 0, 0, 768, 1792, 4032, 8191, 0, 0, 0, 98304, 229376, 507904, 0, 1048576, 0, 0, 12582912, 29360128, 66060288, 134201344, 268435455]
theorem spec_GreedyTurns.tab12 : rtab .any (opsOf Try.f56 12) = spec_GreedyTurns.T12 := by kernel_rfl
theorem spec_GreedyTurns.bits12 : waitsOk spec_GreedyTurns.T12.2 spec_GreedyTurns.B12 = true := by kernel_rfl
end Go.Proofs.Ytfmjckkgnieccaa.P
end
