/- Lessened gaps are at most the gaps, harmonic turns serve their tasks, and turns by powers and by one number serve. -/
import Derived.Test.YtgbapmmfhdphmaaCFnHarmonic1
import Derived.ArgAppend
import Derived.Below
import Derived.BigQuiet
import Derived.ChangeArms
import Derived.ChangeOld
import Derived.ChangeSame
import Derived.Deep.AppendLies
import Derived.Deep.CutBlock
import Derived.Deep.DeepCutAuto
import Derived.Deep.Draws
import Derived.Deep.Fields
import Derived.Deep.LoopGhost
import Derived.Deep.OwnRows
import Derived.Deep.QuietTactic
import Derived.Deep.RegionHeld3
import Derived.Deep.Slices
import Derived.KernelRfl
import Derived.Laws.BitsLemmas
import Derived.Laws.BytesArg
import Derived.Laws.CopyOwn
import Derived.Laws.IdiomCopy
import Derived.Laws.MakeOwn
import Derived.Laws.OwnMore
import Derived.Laws.Rows
import Derived.Laws.Slices
import Derived.Lib.AppendStr
import Derived.Lib.ConvBytes
import Derived.Lib.SliceRun
import Derived.Lib.SmallJoins
import Derived.Maps.AppendAt
import Derived.OpenShut
import Derived.OrdersHeld
import Derived.OwnWalk
import Derived.ProofKit
import Derived.RowKit
import Derived.RowKit3
import Derived.Shelf.Abstract
import Derived.ShutString
import Derived.SizedLaws
import Derived.Tactics
import Derived.Test.YtgbapmmfhdphmaaProg
import Derived.WalkKit
import Derived.WideLaws
import Derived.WideShapes
section
namespace Go.Proofs.Ytgbapmmfhdphmaa.P
open Go.RowKit Go.Proofs.YtgbapmmfhdphmaaW.PrintWords Go.Proofs.YtgbapmmfhdphmaaW.PrintLast Go.Proofs.YtgbapmmfhdphmaaW.PrintMore
attribute [local go_sem] max2_int min2_int max_two min_two max_three min_three max_four min_four   -- for this text's walks alone
set_option linter.unusedVariables false
set_option linter.unusedSimpArgs false
def errW : Option Int → Value
  | none => .nilIface
  | some c => .iface 0 (.int .i64 c)
theorem errW_none : errW none = .nilIface := rfl
theorem errW_some (c : Int) : errW (some c) = .iface 0 (.int .i64 c) := rfl
theorem info2 : (Try.prog.info? 2).map (fun i => (i.zero, i.size, i.bytes)) = some (some (.int .i64 0), 1, 8) := by kernel_rfl
end Go.Proofs.Ytgbapmmfhdphmaa.P
end
section
namespace Go.Proofs.Ytgbapmmfhdphmaa.P
open Go.RowKit Go.Proofs.YtgbapmmfhdphmaaW.PrintWords Go.Proofs.YtgbapmmfhdphmaaW.PrintLast Go.Proofs.YtgbapmmfhdphmaaW.PrintMore
theorem zA {p : Prop} (h : p := by (try simp only [List.map_toArray, List.map_cons, List.map_nil]); first | done | rfl | (simp only [List.length_drop, List.length_take]; rfl)) : p := h
theorem zB {p : Prop} (h : p := by repeat (first | (with_reducible first | exact HB.out | apply below_alloc | apply pw_below_drewN | apply below_drew1 | refine below_set ?_ (IsS65.ge HI0.out) | refine below_set ?_ (Aside0.out (by assumption : Aside0 (w0.heap.size ≤ _))) | refine below_set ?_ (Aside0.out (by assumption : Aside0 (w.heap.size ≤ _)))) | exact HB.out)) : p := h
theorem zK {p : Prop} (h : p := by repeat (first | (with_reducible first | exact HK.out | apply KeepBut.set_ | apply keep_drewN | apply keep_drew | apply keep_alloc | refine keep_far ?_ (Aside0.out (by assumption : Aside0 (w.heap.size ≤ _))) _) | exact HK.out)) : p := h
theorem zJ {p : Prop} (h : p := by repeat (first | (with_reducible first | exact HK.out | apply Kept.alloc | apply Kept.drewN | apply Kept.drew | refine Kept.setCell ?_ (.inl (.inr rfl)) _ | refine Kept.setCell ?_ (.inr (Aside0.out (by assumption : Aside0 (w.heap.size ≤ _)))) _) | exact HK.out)) : p := h
theorem zI {p : Prop} (h : p := by repeat (first | (with_reducible first | exact HI0.out | apply IsS65.set_1 | apply IsS65.set_2 | apply IsS65.alloc | apply IsS65.drewN | apply IsS65.drew | refine IsS65.far ?_ (Aside0.out (by assumption)) _) | exact HI0.out)) : p := h
theorem zI5 {p : Prop} (h : p := by repeat (first | (with_reducible first | exact HI105.out | apply IsS65.set_1 | apply IsS65.set_2 | apply IsS65.alloc | apply IsS65.drewN | apply IsS65.drew | refine IsS65.far ?_ (Aside0.out (by assumption)) _) | exact HI105.out)) : p := h
theorem zG {p q : Prop} (b : p) (h : p → q := by intro b_; (with_reducible repeat (first | refine blk_drewN ?_ _ | refine blk_drew ?_ | refine blk_alloc ?_ _)); exact b_) : q := h b
theorem zR {p q : Prop} (b : p) (h : p → q := by intro b_; (with_reducible repeat (first | apply Kd.R_alloc | apply Kd.R_drewN | apply Kd.R_drew)); exact b_) : q := h b
theorem zC {p q : Prop} (b : p) (h : p → q := by intro b_; repeat (first | exact b_ | (with_reducible refine Kd.C_alloc ?_ _) | (with_reducible refine Kd.C_drewN ?_ _) | (with_reducible refine Kd.C_drew ?_))) : q := h b
theorem zD {p : Prop} [Decidable p] (h : decide p = true := by first | (with_reducible assumption) | assumption) : p := of_decide_eq_true h
theorem zH {α : Type} {a b : α} {q : Prop} (e : a = b) (h : a = b → q := by intro e_; first | (rw [e_]; with_reducible exact H) | (have H2_ := (Option.bind_some _ _).symm.trans H; rw [e_]; with_reducible exact H2_) | (have H2_ := (Option.bind_some _ _).symm.trans H; with_reducible exact H2_) | with_reducible exact H | (rw [e_]; exact H) | exact H) : q := h e
theorem zE {p : Prop} (h : p := by first | rfl | (simp [errW_none, errW_some] <;> rfl) | (simp [*, errW_none, errW_some] <;> rfl)) : p := h
theorem zF {p : Prop} (h : p := by first | rfl | (simp; done) | (simp [*]; done)) : p := h
theorem zN {p : Prop} (h : p := by first | exact Kd.R_nil _ _ _ _ _ | exact Kd.N_nil _ _ _ _ _ | exact Kd.V_nil _ _ _ _ _ | exact Kd.Q_nil _ _ _ _ _ | exact Kd.S_nil _ _ _ _ _) : p := h
theorem zS {a b c : Nat} (e : b = c) (h : a ≤ c := by exact (below_size zB)) : a ≤ b := e.symm ▸ h
theorem zL {p : Prop} {a b c : Nat} (e : b = c) (k : p) (h : p → a < c := by intro k_; exact blk_lt (zG k_)) : a ≠ b := by have := h k; omega
theorem zM {p : Prop} {a b c : Nat} (e : b = c) (k : p) (h : p → a < c := by intro k_; exact blk_lt (zG k_)) : b ≠ a := by have := h k; omega
theorem zr {p : Prop} (h : p := by rfl) : p := h
theorem zk {p : Prop} (h : p := by kernel_rfl) : p := h
theorem zg {p : Prop} (h : p := by first | (go_simp; done) | (go_simp; rfl)) : p := h
theorem zc {w : World} {g : Nat} {v : Value} {t : TypeId} (h : w.heap[g]? = some (.cells #[v] t (0, 0))) : w.cell? ⟨g, 0, none⟩ = some v := (blk_cell h 0).trans rfl
theorem zb {p : Prop} {w w' : World} {g : Nat} {o : Obj} (b : p) (hb : Below w.heap.size w w') (h : p → w.heap[g]? = some o := by intro b_; exact zG b_) : w'.heap[g]? = some o := blk_below (h b) hb
theorem zp {p : Prop} (h : p := by (intro w'; go_simp; with_reducible rfl)) : p := h
theorem zq {p : Prop} (h : p := by (simp only [Act.put, List.setIfInBounds_toArray, List.set_cons_zero, List.set_cons_succ, i64_w, i32_w]; rfl)) : p := h
theorem zd {p : Prop} (h : p := by first | exact ⟨rfl, _, World.drewN_drewN _ _ _⟩ | exact ⟨rfl, _, Eq.trans (World.drewN_drewN _ _ _) (congrArg (World.drewN _) (Nat.add_assoc _ _ _))⟩) : p := h
theorem y2 {a b : Prop} (xa : a) (xb : b) : Aside0 a ∧ Aside0 b := ⟨⟨xa⟩, ⟨xb⟩⟩
theorem y3 {a b c : Prop} (xa : a) (xb : b) (xc : c) : Aside0 a ∧ Aside0 b ∧ Aside0 c := ⟨⟨xa⟩, ⟨xb⟩, ⟨xc⟩⟩
theorem y4 {a b c d : Prop} (xa : a) (xb : b) (xc : c) (xd : d) : Aside0 a ∧ Aside0 b ∧ Aside0 c ∧ Aside0 d := ⟨⟨xa⟩, ⟨xb⟩, ⟨xc⟩, ⟨xd⟩⟩
theorem y5 {a b c d e : Prop} (xa : a) (xb : b) (xc : c) (xd : d) (xe : e) : Aside0 a ∧ Aside0 b ∧ Aside0 c ∧ Aside0 d ∧ Aside0 e := ⟨⟨xa⟩, ⟨xb⟩, ⟨xc⟩, ⟨xd⟩, ⟨xe⟩⟩
theorem y6 {a b c d e f : Prop} (xa : a) (xb : b) (xc : c) (xd : d) (xe : e) (xf : f) : Aside0 a ∧ Aside0 b ∧ Aside0 c ∧ Aside0 d ∧ Aside0 e ∧ Aside0 f := ⟨⟨xa⟩, ⟨xb⟩, ⟨xc⟩, ⟨xd⟩, ⟨xe⟩, ⟨xf⟩⟩
theorem y7 {a b c d e f g : Prop} (xa : a) (xb : b) (xc : c) (xd : d) (xe : e) (xf : f) (xg : g) : Aside0 a ∧ Aside0 b ∧ Aside0 c ∧ Aside0 d ∧ Aside0 e ∧ Aside0 f ∧ Aside0 g := ⟨⟨xa⟩, ⟨xb⟩, ⟨xc⟩, ⟨xd⟩, ⟨xe⟩, ⟨xf⟩, ⟨xg⟩⟩
theorem y8 {a b c d e f g h : Prop} (xa : a) (xb : b) (xc : c) (xd : d) (xe : e) (xf : f) (xg : g) (xh : h) : Aside0 a ∧ Aside0 b ∧ Aside0 c ∧ Aside0 d ∧ Aside0 e ∧ Aside0 f ∧ Aside0 g ∧ Aside0 h := ⟨⟨xa⟩, ⟨xb⟩, ⟨xc⟩, ⟨xd⟩, ⟨xe⟩, ⟨xf⟩, ⟨xg⟩, ⟨xh⟩⟩
theorem y9 {a b c d e f g h i : Prop} (xa : a) (xb : b) (xc : c) (xd : d) (xe : e) (xf : f) (xg : g) (xh : h) (xi : i) : Aside0 a ∧ Aside0 b ∧ Aside0 c ∧ Aside0 d ∧ Aside0 e ∧ Aside0 f ∧ Aside0 g ∧ Aside0 h ∧ Aside0 i := ⟨⟨xa⟩, ⟨xb⟩, ⟨xc⟩, ⟨xd⟩, ⟨xe⟩, ⟨xf⟩, ⟨xg⟩, ⟨xh⟩, ⟨xi⟩⟩
theorem y10 {a b c d e f g h i j : Prop} (xa : a) (xb : b) (xc : c) (xd : d) (xe : e) (xf : f) (xg : g) (xh : h) (xi : i) (xj : j) : Aside0 a ∧ Aside0 b ∧ Aside0 c ∧ Aside0 d ∧ Aside0 e ∧ Aside0 f ∧ Aside0 g ∧ Aside0 h ∧ Aside0 i ∧ Aside0 j := ⟨⟨xa⟩, ⟨xb⟩, ⟨xc⟩, ⟨xd⟩, ⟨xe⟩, ⟨xf⟩, ⟨xg⟩, ⟨xh⟩, ⟨xi⟩, ⟨xj⟩⟩
theorem y11 {a b c d e f g h i j k : Prop} (xa : a) (xb : b) (xc : c) (xd : d) (xe : e) (xf : f) (xg : g) (xh : h) (xi : i) (xj : j) (xk : k) : Aside0 a ∧ Aside0 b ∧ Aside0 c ∧ Aside0 d ∧ Aside0 e ∧ Aside0 f ∧ Aside0 g ∧ Aside0 h ∧ Aside0 i ∧ Aside0 j ∧ Aside0 k := ⟨⟨xa⟩, ⟨xb⟩, ⟨xc⟩, ⟨xd⟩, ⟨xe⟩, ⟨xf⟩, ⟨xg⟩, ⟨xh⟩, ⟨xi⟩, ⟨xj⟩, ⟨xk⟩⟩
theorem y12 {a b c d e f g h i j k l : Prop} (xa : a) (xb : b) (xc : c) (xd : d) (xe : e) (xf : f) (xg : g) (xh : h) (xi : i) (xj : j) (xk : k) (xl : l) : Aside0 a ∧ Aside0 b ∧ Aside0 c ∧ Aside0 d ∧ Aside0 e ∧ Aside0 f ∧ Aside0 g ∧ Aside0 h ∧ Aside0 i ∧ Aside0 j ∧ Aside0 k ∧ Aside0 l := ⟨⟨xa⟩, ⟨xb⟩, ⟨xc⟩, ⟨xd⟩, ⟨xe⟩, ⟨xf⟩, ⟨xg⟩, ⟨xh⟩, ⟨xi⟩, ⟨xj⟩, ⟨xk⟩, ⟨xl⟩⟩
theorem y13 {a b c d e f g h i j k l m : Prop} (xa : a) (xb : b) (xc : c) (xd : d) (xe : e) (xf : f) (xg : g) (xh : h) (xi : i) (xj : j) (xk : k) (xl : l) (xm : m) : Aside0 a ∧ Aside0 b ∧ Aside0 c ∧ Aside0 d ∧ Aside0 e ∧ Aside0 f ∧ Aside0 g ∧ Aside0 h ∧ Aside0 i ∧ Aside0 j ∧ Aside0 k ∧ Aside0 l ∧ Aside0 m := ⟨⟨xa⟩, ⟨xb⟩, ⟨xc⟩, ⟨xd⟩, ⟨xe⟩, ⟨xf⟩, ⟨xg⟩, ⟨xh⟩, ⟨xi⟩, ⟨xj⟩, ⟨xk⟩, ⟨xl⟩, ⟨xm⟩⟩
theorem y14 {a b c d e f g h i j k l m n : Prop} (xa : a) (xb : b) (xc : c) (xd : d) (xe : e) (xf : f) (xg : g) (xh : h) (xi : i) (xj : j) (xk : k) (xl : l) (xm : m) (xn : n) : Aside0 a ∧ Aside0 b ∧ Aside0 c ∧ Aside0 d ∧ Aside0 e ∧ Aside0 f ∧ Aside0 g ∧ Aside0 h ∧ Aside0 i ∧ Aside0 j ∧ Aside0 k ∧ Aside0 l ∧ Aside0 m ∧ Aside0 n := ⟨⟨xa⟩, ⟨xb⟩, ⟨xc⟩, ⟨xd⟩, ⟨xe⟩, ⟨xf⟩, ⟨xg⟩, ⟨xh⟩, ⟨xi⟩, ⟨xj⟩, ⟨xk⟩, ⟨xl⟩, ⟨xm⟩, ⟨xn⟩⟩
end Go.Proofs.Ytgbapmmfhdphmaa.P
end
section
namespace Go.Proofs.Ytgbapmmfhdphmaa.P
open Go.RowKit Go.Proofs.YtgbapmmfhdphmaaW.PrintWords Go.Proofs.YtgbapmmfhdphmaaW.PrintLast Go.Proofs.YtgbapmmfhdphmaaW.PrintMore
attribute [local go_sem] max2_int min2_int max_two min_two max_three min_three max_four min_four   -- for this text's walks alone
set_option linter.unusedVariables false
set_option linter.unusedSimpArgs false
def laws_big.f (l0 : List Int) : Option (Bool) := some (decide ((l0.length : Int) > 4096))
set_option maxHeartbeats 8000000 in
set_option maxRecDepth 100000 in
theorem laws_big.calls (A0 : Option Addr) (c0 : Nat) (l0 : List Int) (r : Bool) (w : World) (hr0 : Kd.C (Kd.int .u8) w A0 l0.length l0) (hc0 : l0.length ≤ c0) (h : laws_big.f l0 = some r) :
    Calls Try.prog 4 #[.slice A0 l0.length c0] w fun e w' => e = .returned (.bool r) ∧ Drawn0 w w' := by
 have HR0 := Aside0.mk hr0
 have HC0 := Aside0.mk hc0
 clear hr0 hc0
 have H : (some (decide ((l0.length : Int) > 4096))) = some r := h
 clear h
 obtain rfl := Option.some.inj H
 go_enter Try.func4, Try.ntmps4
 go_wp2
 go_ret
 exact ⟨by first | rfl | (simp; done) | (simp [*]; done), by repeat (first | exact Drawn0.refl _ | apply Drawn0.step)⟩
end Go.Proofs.Ytgbapmmfhdphmaa.P
end
section
namespace Go.Proofs.Ytgbapmmfhdphmaa.P
open Go.RowKit Go.Proofs.YtgbapmmfhdphmaaW.PrintWords Go.Proofs.YtgbapmmfhdphmaaW.PrintLast Go.Proofs.YtgbapmmfhdphmaaW.PrintMore
attribute [local go_sem] max2_int min2_int max_two min_two max_three min_three max_four min_four   -- for this text's walks alone
set_option linter.unusedVariables false
set_option linter.unusedSimpArgs false
/-- A state of type 65 at block g of W; what its slices lead to came in by w0. -/
def IsS65 (w0 W : World) (g : Nat) (f0 : List Int) (f1 : Int) (f2 : Int) : Prop := ∃ A0 c0, W.heap[g]? = some (.cells #[.slice A0 f0.length c0, .int .i64 f1, .int .u64 f2] 65 (0, 0)) ∧ w0.heap.size ≤ g ∧ Kd.C (Kd.int .u8) w0 A0 f0.length f0
theorem IsS65.grown {w0 W : World} {g : Nat} {f0 : List Int} {f1 : Int} {f2 : Int} {W1 : World} {row : Option Nat} (h : IsS65 w0 W g f0 f1 f2) (hw : W.grownBy W1 row) (hne : some g ≠ row) : IsS65 w0 W1 g f0 f1 f2 := by
  obtain ⟨A0, c0, hb, hg, hr0⟩ := h
  exact ⟨A0, c0, blk_grown hb hw hne, hg, hr0⟩
theorem IsS65.kept {w0 W : World} {g : Nat} {f0 : List Int} {f1 : Int} {f2 : Int} {W1 : World} {S : Nat → Prop} (h : IsS65 w0 W g f0 f1 f2) (hk : Kept W W1 S) (hne : ¬ S g) : IsS65 w0 W1 g f0 f1 f2 := by
  obtain ⟨A0, c0, hb, hg, hr0⟩ := h
  exact ⟨A0, c0, blk_kept hb hk hne, hg, hr0⟩
theorem IsS65.below {w0 W : World} {g : Nat} {f0 : List Int} {f1 : Int} {f2 : Int} {W1 : World} (h : IsS65 w0 W g f0 f1 f2) (hw : Below W.heap.size W W1) : IsS65 w0 W1 g f0 f1 f2 := h.grown (grown_of_below hw none) (by simp)
theorem IsS65.alloc {w0 W : World} {g : Nat} {f0 : List Int} {f1 : Int} {f2 : Int} (h : IsS65 w0 W g f0 f1 f2) (o : Obj) : IsS65 w0 (W.alloc o) g f0 f1 f2 := h.below (below_alloc (Below.refl _ _) o)
theorem IsS65.drewN {w0 W : World} {g : Nat} {f0 : List Int} {f1 : Int} {f2 : Int} (h : IsS65 w0 W g f0 f1 f2) (m : Nat) : IsS65 w0 (W.drewN m) g f0 f1 f2 := h
theorem IsS65.drew {w0 W : World} {g : Nat} {f0 : List Int} {f1 : Int} {f2 : Int} (h : IsS65 w0 W g f0 f1 f2) : IsS65 w0 W.drew g f0 f1 f2 := h
theorem IsS65.apart {w0 W : World} {g : Nat} {f0 : List Int} {f1 : Int} {f2 : Int} {α : Type} {d : Kd α} {e : Nat} {base : Nat} {ok : Nat → Prop} {v : Value} {xs : List α} (h : IsS65 w0 W g f0 f1 f2) (ho : d.R e W base ok v xs) (ht : ∀ q, q ∈ e :: d.E → q ≠ 65) : d.R e W base (fun k => ok k ∧ k ≠ g) v xs := by
  obtain ⟨A0, c0, hb, hg, hr0⟩ := h
  exact Kd.R_types ho hb ht
theorem IsS65.own_ne {w0 W : World} {g : Nat} {f0 : List Int} {f1 : Int} {f2 : Int} {α : Type} {d : Kd α} {e : Nat} {base : Nat} {ok : Nat → Prop} {v : Value} {xs : List α} (h : IsS65 w0 W g f0 f1 f2) (ho : d.R e W base ok v xs) (ht : e ≠ 65) : some g ≠ v.ownBlock := by
  obtain ⟨A0, c0, hb, hg, hr0⟩ := h
  exact Kd.R_ne ho hb ht
theorem IsS65.lt {w0 W : World} {g : Nat} {f0 : List Int} {f1 : Int} {f2 : Int} (h : IsS65 w0 W g f0 f1 f2) : g < W.heap.size := by
  obtain ⟨A0, c0, hb, hg, hr0⟩ := h
  exact blk_lt hb
theorem IsS65.ge {w0 W : World} {g : Nat} {f0 : List Int} {f1 : Int} {f2 : Int} (h : IsS65 w0 W g f0 f1 f2) : w0.heap.size ≤ g := by
  obtain ⟨A0, c0, hb, hg, hr0⟩ := h
  exact hg
theorem IsS65.ne_blk {w0 W : World} {g : Nat} {f0 : List Int} {f1 : Int} {f2 : Int} {a : Nat} {cs : Array Value} {t : TypeId} {fr : Nat × Nat} (h : IsS65 w0 W g f0 f1 f2) (hb2 : W.heap[a]? = some (.cells cs t fr)) (ht : t ≠ 65) : g ≠ a := by
  obtain ⟨A0, c0, hb, hg, hr0⟩ := h
  rintro rfl
  rw [hb] at hb2
  injection hb2 with hb2
  injection hb2 with _ ht2
  exact ht ht2.symm
theorem IsS65.far {w0 W : World} {g : Nat} {f0 : List Int} {f1 : Int} {f2 : Int} {p : Addr} (h : IsS65 w0 W g f0 f1 f2) (hne : g ≠ p.block) (u : Value) : IsS65 w0 (W.setCell p u) g f0 f1 f2 := by
  obtain ⟨A0, c0, hb, hg, hr0⟩ := h
  exact ⟨A0, c0, blk_far hb hne u, hg, hr0⟩
theorem cellS65_0 {W : World} {g : Nat} {A0 : Option Addr} {c0 : Nat} {f0 : List Int} {f1 : Int} {f2 : Int} (h : W.heap[g]? = some (.cells #[.slice A0 f0.length c0, .int .i64 f1, .int .u64 f2] 65 (0, 0))) : W.cell? ⟨g, 0, none⟩ = some (.slice A0 f0.length c0) := (blk_cell h 0).trans rfl
theorem cellS65_1 {W : World} {g : Nat} {A0 : Option Addr} {c0 : Nat} {f0 : List Int} {f1 : Int} {f2 : Int} (h : W.heap[g]? = some (.cells #[.slice A0 f0.length c0, .int .i64 f1, .int .u64 f2] 65 (0, 0))) : W.cell? ⟨g, 1, none⟩ = some (.int .i64 f1) := (blk_cell h 1).trans rfl
theorem IsS65.set_1 {w0 W : World} {g : Nat} {f0 : List Int} {f1 : Int} {f2 : Int} (h : IsS65 w0 W g f0 f1 f2) (x : Int) : IsS65 w0 (W.setCell ⟨g, 1, none⟩ (.int .i64 x)) g f0 x f2 := by
  obtain ⟨A0, c0, hb, hg, hr0⟩ := h
  exact ⟨A0, c0, by simpa using blk_set hb 1 (.int .i64 x), hg, hr0⟩
theorem cellS65_2 {W : World} {g : Nat} {A0 : Option Addr} {c0 : Nat} {f0 : List Int} {f1 : Int} {f2 : Int} (h : W.heap[g]? = some (.cells #[.slice A0 f0.length c0, .int .i64 f1, .int .u64 f2] 65 (0, 0))) : W.cell? ⟨g, 2, none⟩ = some (.int .u64 f2) := (blk_cell h 2).trans rfl
theorem IsS65.set_2 {w0 W : World} {g : Nat} {f0 : List Int} {f1 : Int} {f2 : Int} (h : IsS65 w0 W g f0 f1 f2) (x : Int) : IsS65 w0 (W.setCell ⟨g, 2, none⟩ (.int .u64 x)) g f0 f1 x := by
  obtain ⟨A0, c0, hb, hg, hr0⟩ := h
  exact ⟨A0, c0, by simpa using blk_set hb 2 (.int .u64 x), hg, hr0⟩
def spec_l01From.l0 : Nat → List Int → Int → List Int → Int → Int → Option (List Int × Int × Int)
  | 0, _, _, _, _, _ => none
  | k + 1, x0, x4, x102000, x102001, x102002 => if x4 < (x0.length : Int) then (if x4 < 4096 then (if 0 ≤ x4 then (spec_l01From.l0 k x0 (wrap64 (x4 + 1)) x102000 x102001 (IntKind.u64.wrap ((IntKind.u64.wrap ((IntKind.u64.wrap (x102002 * 1099511628211)) + (IntKind.u64.wrap (rd x0 x4)))) + 241))) else (none)) else (some (x102000, x102001, x102002))) else (some (x102000, x102001, x102002))
def spec_l01From.f (k : Nat) (l0 : List Int) : Option (List Int × Int × Int) := spec_l01From.l0 k l0 0 l0 0 (IntKind.u64.wrap (14041 + (IntKind.u64.wrap ((l0.length : Int)))))
theorem spec_l01From.mono_l : ∀ k, (∀ y0 y1 y2 y3 y4, LeO (spec_l01From.l0 k y0 y1 y2 y3 y4) (spec_l01From.l0 (k + 1) y0 y1 y2 y3 y4))
  | 0 => fun _ _ _ _ _ r h => by simp [spec_l01From.l0] at h
  | k + 1 => by
    have ih0 := spec_l01From.mono_l k
    · intro y0 y1 y2 y3 y4
      unfold spec_l01From.l0
      repeat' first | (with_reducible exact ih0 _ _ _ _ _) | (with_reducible exact LeO.refl _) | (with_reducible exact LeO.none _) | (with_reducible refine LeO.ite ?_ ?_) | (with_reducible refine LeO.bind ?_ (fun _ => ?_)) | exact ih0 _ _ _ _ _ | exact LeO.none _ | refine LeO.ite ?_ ?_ | refine LeO.bind ?_ (fun _ => ?_)
theorem spec_l01From.mono : ∀ a0 k, LeO (spec_l01From.f k a0) (spec_l01From.f (k + 1) a0) := by
  intro a0 k
  have ih0 := spec_l01From.mono_l k
  unfold spec_l01From.f
  repeat' first | (with_reducible exact ih0 _ _ _ _ _) | (with_reducible exact LeO.refl _) | (with_reducible exact LeO.none _) | (with_reducible refine LeO.ite ?_ ?_) | (with_reducible refine LeO.bind ?_ (fun _ => ?_)) | exact ih0 _ _ _ _ _ | exact LeO.none _ | refine LeO.ite ?_ ?_ | refine LeO.bind ?_ (fun _ => ?_)
def spec_l01From.T5 : Bool × List (List Nat × List Nat) := (true, [([], []), ([], []), ([1], [1]), ([2], [2]), ([3], [3]), ([4], [4]), ([], []), ([], []), ([6, 7], [6, 7]), ([8], [8]), ([9], [9]), ([5, 10], [5, 10]), ([11], [11]), ([0, 0, 1, 2, 3, 4, 5, 6, 7, 8, 9, 10, 11, 12], [0]), ([13, 0, 1, 2, 3, 4, 5, 6, 7, 8, 9, 10, 11, 12], [13]), ([14, 12, 0, 1, 2, 3, 4, 5, 6, 7, 8, 9, 10, 11, 12], [12, 14])])
def spec_l01From.B5 : List Nat := [0, 0, 2, 6, 14, 30, 0, 0, 192, 448, 960, 2046, 4094, 8191, 16383, 32767]
theorem spec_l01From.tab5 : rtab .any (opsOf Try.f22 5) = spec_l01From.T5 := by kernel_rfl
theorem spec_l01From.bits5 : waitsOk spec_l01From.T5.2 spec_l01From.B5 = true := by kernel_rfl
set_option maxHeartbeats 8000000 in
set_option maxRecDepth 100000 in
theorem spec_l01From.calls1 (k : Nat) (A0 : Option Addr) (c0 : Nat) (l0 : List Int) (r1 : List Int) (r2 : Int) (r3 : Int) (w0 w : World) (hB : Below w0.heap.size w0 w) (hr0 : Kd.C (Kd.int .u8) w0 A0 l0.length l0) (hc0 : l0.length ≤ c0) (h : spec_l01From.f k l0 = some (r1, r2, r3)) :
    Calls Try.prog 22 #[.slice A0 l0.length c0] w fun e w' => ∃ g_ : Nat, e = .returned (.pointer (some ⟨g_, 0, none⟩)) ∧ IsS65 w0 w' g_ r1 r2 r3 ∧ Below w.heap.size w w' ∧ Below w.heap.size w w' := by
 have hu65 := Try.underlying65
 have HR0 := Aside0.mk hr0
 have HRw0 := Aside0.mk (Kd.C_below hr0 hB)
 have HC0 := Aside0.mk hc0
 clear hr0 hc0
 have HBW := Aside0.mk (Below.refl w.heap.size w)
 have HW0 := Aside0.mk hB.size
 have HB := Aside0.mk (Below.refl w.heap.size w)
 clear hB
 have H : (spec_l01From.l0 k l0 0 l0 0 (IntKind.u64.wrap (14041 + (IntKind.u64.wrap ((l0.length : Int)))))) = some (r1, r2, r3) := h
 clear h
 have H' := Aside0.mk H
 clear H
 go_enter Try.func22, Try.ntmps22
 go_wp2_with (first | ((with_reducible refine gate_dst (N := 11) rfl ?_); refine box_event zr (N := 11) zr (cs := #[.slice A0 l0.length c0, .int .i64 0, .int .u64 (IntKind.u64.wrap (14041 + (IntKind.u64.wrap ((l0.length : Int)))))]) (t := 65) zg ?_; intro gb101 hg w2 hbox hb; have n_ := y5 (below_step HBW.out hb) (below_step (zB) hb) (hbox) ((by rw [hg]; exact (below_size (by repeat (first | (with_reducible first | exact HBW.out | apply below_alloc | apply pw_below_drewN | apply below_drew1) | exact HBW.out))) : w.heap.size ≤ gb101)) ((Nat.le_trans HW0.out (by rw [hg]; exact (below_size (by repeat (first | (with_reducible first | exact HBW.out | apply below_alloc | apply pw_below_drewN | apply below_drew1) | exact HBW.out))) : w.heap.size ≤ gb101) : w0.heap.size ≤ gb101)); clear HBW HB; obtain ⟨HBW, HB, BK101, GW101, GE101⟩ := n_; clear hb hbox hg))
 go_loopg [4] k (fun kq v4 w' => ∃ (x4_1 : Int) (x102002_1 : Int), v4 = .int .i64 x4_1 ∧ Aside0 (spec_l01From.l0 kq l0 x4_1 l0 0 x102002_1 = some (r1, r2, r3)) ∧ Aside0 (kq ≤ k) ∧ Aside0 (w'.heap[gb101]? = some (.cells #[(.slice A0 l0.length c0), .int .i64 0, .int .u64 x102002_1] 65 (0, 0))) ∧ Aside0 (Below w.heap.size w w'))
 case atStart => exact ⟨(0), (IntKind.u64.wrap (14041 + (IntKind.u64.wrap ((l0.length : Int))))), zF, H', ⟨Nat.le_refl _⟩, ⟨zG BK101.out⟩, ⟨zB⟩⟩
 clear H'
 obtain ⟨x4_1, x102002_1, rfl, HA, HK1, BK101, HB⟩ := hrel
 cases gk with
 | zero => exact absurd HA.out (by simp [spec_l01From.l0])
 | succ k1 =>
   have H := HA.out
   clear HA
   simp only [spec_l01From.l0] at H
   by_cases c3 : x4_1 < (l0.length : Int)
   · rw [if_pos c3] at H
     have c3b0 : decide (x4_1 < (l0.length : Int)) = true := decide_eq_true c3
     clear c3
     by_cases c4 : x4_1 < 4096
     · rw [if_pos c4] at H
       have c4b0 : decide (x4_1 < 4096) = true := decide_eq_true c4
       clear c4
       by_cases c5 : 0 ≤ x4_1
       · rw [if_pos c5] at H
         have c5b0 : decide (0 ≤ x4_1) = true := decide_eq_true c5
         clear c5
         have H' := Aside0.mk H
         clear H
         try go_wp2
         have n_ := y2 (blk_drew BK101.out) (below_drew1 HB.out)
         clear BK101 HB
         obtain ⟨BK101, HB⟩ := n_
         have p102 : 0 ≤ (x4_1 : Int) := zD
         have q102 : x4_1 < (l0.length : Int) := zD
         obtain ⟨ad102, e102, hx102_0⟩ := Kd.at_int HRw0.out x4_1 p102 q102
         have hw102_0 := hx102_0
         cases e102
         replace hx102_0 := pw_cell_below HB.out hx102_0
         replace p102 := eq_true p102
         replace q102 := eq_true q102
         refine start_ (n := 16) (S := fun w' => w'.cell? ⟨gb101, 0, none⟩ = some (.slice (some ad102) l0.length c0) ∧ w'.cell? ⟨gb101, 1, none⟩ = some (.int .i64 0) ∧ w'.cell? ⟨gb101, 2, none⟩ = some (.int .u64 x102002_1) ∧ w'.cell? (ad102.add (x4_1).toNat) = some (.int .u8 (rd l0 x4_1))) (ds := [15]) #[false,false,false,false,false,false,false,false,false,false,false,false,false,false,false,false] zk rfl rfl ⟨(blk_cell BK101.out 0).trans rfl, (blk_cell BK101.out 1).trans rfl, (blk_cell BK101.out 2).trans rfl, ((HB.out.cell (World.block_lt_of_cell? w _ hw102_0)).trans hw102_0)⟩ (fun hHeld => ?_); refine with_tabW spec_l01From.tab5 spec_l01From.bits5 (fun HT_ HW_ => ?_)
         generalize wr.drew = w6 at BK101 HB hx102_0 hHeld ⊢
         refine pure_ (i := 0) (N := some 22) (v := ?_) (a' := ?_) #[true,false,false,false,false,false,false,false,false,false,false,false,false,false,false,false] rfl rfl (any_of HT_.out zk) (fun _ _ _ h => h) (Or.inl ⟨by rfl, ?_⟩) ?_ ?_
         rotate_left; exact zp; rotate_left; exact zq
         refine pure_ (i := 1) (N := some 23) (v := ?_) (a' := ?_) #[true,true,false,false,false,false,false,false,false,false,false,false,false,false,false,false] rfl rfl (any_of HT_.out zk) (fun _ _ _ h => h) (Or.inl ⟨by rfl, ?_⟩) ?_ ?_
         rotate_left; exact zp; rotate_left; exact zq
         refine pure_ (i := 2) (N := some 24) (v := ?_) (a' := ?_) #[true,true,true,false,false,false,false,false,false,false,false,false,false,false,false,false] rfl rfl (any_of HT_.out zk) (fun _ _ _ h => h) (Or.inl ⟨by rfl, ?_⟩) ?_ ?_
         rotate_left; exact zp; rotate_left; exact zq
         refine pure_ (i := 3) (N := some 25) (v := ?_) (a' := ?_) #[true,true,true,true,false,false,false,false,false,false,false,false,false,false,false,false] rfl rfl (any_of HT_.out zk) (fun _ _ _ h => h) (Or.inl ⟨by rfl, ?_⟩) ?_ ?_
         rotate_left; exact zp; rotate_left; exact zq
         refine pure_ (i := 6) (N := some 28) (v := ?_) (a' := ?_) #[true,true,true,true,false,false,true,false,false,false,false,false,false,false,false,false] rfl rfl (any_of HT_.out zk) (fun _ _ _ h => h) (Or.inl ⟨by rfl, ?_⟩) ?_ ?_
         rotate_left; exact zp; rotate_left; exact zq
         refine pure_ (i := 7) (N := some 29) (v := ?_) (a' := ?_) #[true,true,true,true,false,false,true,true,false,false,false,false,false,false,false,false] rfl rfl (any_of HT_.out zk) (fun _ _ _ h => h) (Or.inl ⟨by rfl, ?_⟩) ?_ ?_
         rotate_left; exact zp; rotate_left; exact zq
         refine pure_ (i := 8) (N := some 30) (v := ?_) (a' := ?_) #[true,true,true,true,false,false,true,true,true,false,false,false,false,false,false,false] rfl rfl (any_of HT_.out zk) (fun _ _ _ h => h) (Or.inl ⟨by rfl, ?_⟩) ?_ ?_
         rotate_left; exact zp; rotate_left; exact zq
         refine take_ (i := 4) (N := some 26) (v := ?_) (a' := ?_) #[true,true,true,true,true,false,true,true,true,false,false,false,false,false,false,false] rfl rfl (take_ofW HT_.out HW_.out zk) (fun _ _ _ h => h) (Or.inl ⟨by rfl, ?_⟩) hHeld ?_ ?_
         rotate_left
         · rintro w' ⟨s0, s1, s2, s3⟩
           go_simp
           with_reducible rfl
         rotate_left
         · simp only [Act.put, List.setIfInBounds_toArray, List.set_cons_zero, List.set_cons_succ, i64_w, i32_w]
           rfl
         refine pure_ (i := 5) (N := some 27) (v := ?_) (a' := ?_) #[true,true,true,true,true,true,true,true,true,false,false,false,false,false,false,false] rfl rfl (any_of HT_.out zk) (fun _ _ _ h => h) (Or.inl ⟨by rfl, ?_⟩) ?_ ?_
         rotate_left; exact zp; rotate_left; exact zq
         refine take_ (i := 9) (N := some 31) (v := ?_) (a' := ?_) #[true,true,true,true,true,true,true,true,true,true,false,false,false,false,false,false] rfl rfl (take_ofW HT_.out HW_.out zk) (fun _ _ _ h => h) (Or.inl ⟨by rfl, ?_⟩) hHeld ?_ ?_
         rotate_left
         · rintro w' ⟨s0, s1, s2, s3⟩
           go_simp
           with_reducible rfl
         rotate_left
         · simp only [Act.put, List.setIfInBounds_toArray, List.set_cons_zero, List.set_cons_succ, i64_w, i32_w]
           rfl
         refine pure_ (i := 10) (N := some 32) (v := ?_) (a' := ?_) #[true,true,true,true,true,true,true,true,true,true,true,false,false,false,false,false] rfl rfl (any_of HT_.out zk) (fun _ _ _ h => h) (Or.inl ⟨by rfl, ?_⟩) ?_ ?_
         rotate_left; exact zp; rotate_left; exact zq
         refine pure_ (i := 11) (N := some 33) (v := ?_) (a' := ?_) #[true,true,true,true,true,true,true,true,true,true,true,true,false,false,false,false] rfl rfl (any_of HT_.out zk) (fun _ _ _ h => h) (Or.inl ⟨by rfl, ?_⟩) ?_ ?_
         rotate_left; exact zp; rotate_left; exact zq
         refine pure_ (i := 12) (N := some 34) (v := ?_) (a' := ?_) #[true,true,true,true,true,true,true,true,true,true,true,true,true,false,false,false] rfl rfl (any_of HT_.out zk) (fun _ _ _ h => h) (Or.inl ⟨by rfl, ?_⟩) ?_ ?_
         rotate_left; exact zp; rotate_left; exact zq
         refine pure_ (i := 13) (N := some 35) (v := ?_) (a' := ?_) #[true,true,true,true,true,true,true,true,true,true,true,true,true,true,false,false] rfl rfl (any_of HT_.out zk) (fun _ _ _ h => h) (Or.inl ⟨by rfl, ?_⟩) ?_ ?_
         rotate_left; exact zp; rotate_left; exact zq
         refine pure_ (i := 14) (N := some 36) (v := ?_) (a' := ?_) #[true,true,true,true,true,true,true,true,true,true,true,true,true,true,true,false] rfl rfl (any_of HT_.out zk) (fun _ _ _ h => h) (Or.inl ⟨by rfl, ?_⟩) ?_ ?_
         rotate_left; exact zp; rotate_left; exact zq
         refine last_ (i := 15) (N := none) #[true,true,true,true,true,true,true,true,true,true,true,true,true,true,true,true] rfl rfl (one_of HT_.out zk) (by decide) (fun K hK => ?_)
         have hs7 : w6.cell? ⟨gb101, 2, none⟩ = some (.int .u64 x102002_1) := (blk_cell BK101.out 2).trans rfl
         have hfs7 := blk_frozen BK101.out 2
         refine skip_ (w1 := ?_) (by rfl) rfl ?_ ?_
         rotate_left
         · go_simp
           rfl
         refine hK.out _ _ ?_
         clear hK K
         refine done_ (done_of HT_.out zk) ?_
         try go_wp2
         go_roundg k1
         case measure => have := HK1.out; omega
         case rel => exact ⟨(wrap64 (x4_1 + 1)), (IntKind.u64.wrap ((IntKind.u64.wrap ((IntKind.u64.wrap (x102002_1 * 1099511628211)) + (IntKind.u64.wrap (rd l0 x4_1)))) + 241)), zF, H', ⟨by have := HK1.out; omega⟩, ⟨by refine zG ?_; refine blk_put (cs := #[.slice (some ad102) l0.length c0, .int .i64 0, .int .u64 x102002_1]) ?_ 2 _ rfl; refine zG ?_; exact BK101.out⟩, ⟨zB⟩⟩
       · rw [if_neg c5] at H
         exact absurd H (by simp)
     · rw [if_neg c4] at H
       have c4b0 : decide (x4_1 < 4096) = false := decide_eq_false c4
       clear c4
       simp only [Option.some.injEq, Prod.mk.injEq] at H
       obtain ⟨rfl, rfl, rfl⟩ := H
       go_wp2
       go_ret
       exact ⟨_, rfl, (show IsS65 w0 _ gb101 l0 0 x102002_1 from ⟨_, _, zG BK101.out, GE101.out, HR0.out⟩), zB, zB⟩
   · rw [if_neg c3] at H
     have c3b0 : decide (x4_1 < (l0.length : Int)) = false := decide_eq_false c3
     clear c3
     simp only [Option.some.injEq, Prod.mk.injEq] at H
     obtain ⟨rfl, rfl, rfl⟩ := H
     go_wp2
     go_ret
     exact ⟨_, rfl, (show IsS65 w0 _ gb101 l0 0 x102002_1 from ⟨_, _, zG BK101.out, GE101.out, HR0.out⟩), zB, zB⟩
set_option maxHeartbeats 8000000 in
set_option maxRecDepth 100000 in
theorem spec_l01From.calls (k : Nat) (A0 : Option Addr) (c0 : Nat) (l0 : List Int) (r1 : List Int) (r2 : Int) (r3 : Int) (w0 w : World) (hB : Below w0.heap.size w0 w) (hr0 : Kd.C (Kd.int .u8) w0 A0 l0.length l0) (hc0 : l0.length ≤ c0) (h : spec_l01From.f k l0 = some (r1, r2, r3)) :
    Calls Try.prog 22 #[.slice A0 l0.length c0] w fun e w' => ∃ g_ : Nat, e = .returned (.pointer (some ⟨g_, 0, none⟩)) ∧ IsS65 w0 w' g_ r1 r2 r3 ∧ Below w0.heap.size w0 w' ∧ Below w.heap.size w w' := by
 refine (spec_l01From.calls1 k A0 c0 l0 r1 r2 r3 w0 w hB hr0 hc0 h).mono ?_
 rintro e w' ⟨g, he, hi, hb1, hb2⟩
 exact ⟨g, he, hi, below_step hB hb1, hb2⟩
end Go.Proofs.Ytgbapmmfhdphmaa.P
end
section
namespace Go.Proofs.Ytgbapmmfhdphmaa.P
open Go.RowKit Go.Proofs.YtgbapmmfhdphmaaW.PrintWords Go.Proofs.YtgbapmmfhdphmaaW.PrintLast Go.Proofs.YtgbapmmfhdphmaaW.PrintMore
attribute [local go_sem] max2_int min2_int max_two min_two max_three min_three max_four min_four   -- for this text's walks alone
set_option linter.unusedVariables false
set_option linter.unusedSimpArgs false
def spec_l01Next.f (s0_0 : List Int) (s0_1 : Int) (s0_2 : Int) (a1 : Int) : Option (Int × Int × Int) := if a1 < 1 then (some (0, s0_1, s0_2)) else (if s0_1 < (s0_0.length : Int) then (if 0 ≤ s0_1 then (if a1 = 0 then (none) else (some (Int.tmod (wrap64 ((wrap64 (Go.bits .and .u64 ((IntKind.u64.wrap ((IntKind.u64.wrap (s0_2 * 6364136223846793005)) + 1442695040888963407)) / 8589934592) 16777215)) + (wrap64 (rd s0_0 s0_1)))) a1, wrap64 (s0_1 + 1), IntKind.u64.wrap ((IntKind.u64.wrap (s0_2 * 6364136223846793005)) + 1442695040888963407)))) else (none)) else (if a1 = 0 then (none) else (some (Int.tmod (wrap64 (Go.bits .and .u64 ((IntKind.u64.wrap ((IntKind.u64.wrap (s0_2 * 6364136223846793005)) + 1442695040888963407)) / 8589934592) 16777215)) a1, s0_1, IntKind.u64.wrap ((IntKind.u64.wrap (s0_2 * 6364136223846793005)) + 1442695040888963407)))))
set_option maxHeartbeats 8000000 in
set_option maxRecDepth 100000 in
theorem spec_l01Next.calls (g : Nat) (s0_0 : List Int) (s0_1 : Int) (s0_2 : Int) (a1 : Int) (r1 : Int) (r2 : Int) (r3 : Int) (w0 w : World) (hI : IsS65 w0 w g s0_0 s0_1 s0_2) (hB : Below w0.heap.size w0 w) (h : spec_l01Next.f s0_0 s0_1 s0_2 a1 = some (r1, r2, r3)) :
    Calls Try.prog 45 #[.pointer (some ⟨g, 0, none⟩), .int .i64 a1] w fun e w' => e = .returned (.int .i64 r1) ∧ IsS65 w0 w' g s0_0 r2 r3 ∧ Below w0.heap.size w0 w' ∧ KeepBut w w' g none := by
 have HI0 := Aside0.mk hI
 have HK := Aside0.mk (KeepBut.refl w g none)
 have HL := Aside0.mk hB.size
 clear hI
 have HW0 := Aside0.mk hB.size
 have HB := Aside0.mk hB
 clear hB
 have H : (if a1 < 1 then (some (0, s0_1, s0_2)) else (if s0_1 < (s0_0.length : Int) then (if 0 ≤ s0_1 then (if a1 = 0 then (none) else (some (Int.tmod (wrap64 ((wrap64 (Go.bits .and .u64 ((IntKind.u64.wrap ((IntKind.u64.wrap (s0_2 * 6364136223846793005)) + 1442695040888963407)) / 8589934592) 16777215)) + (wrap64 (rd s0_0 s0_1)))) a1, wrap64 (s0_1 + 1), IntKind.u64.wrap ((IntKind.u64.wrap (s0_2 * 6364136223846793005)) + 1442695040888963407)))) else (none)) else (if a1 = 0 then (none) else (some (Int.tmod (wrap64 (Go.bits .and .u64 ((IntKind.u64.wrap ((IntKind.u64.wrap (s0_2 * 6364136223846793005)) + 1442695040888963407)) / 8589934592) 16777215)) a1, s0_1, IntKind.u64.wrap ((IntKind.u64.wrap (s0_2 * 6364136223846793005)) + 1442695040888963407)))))) = some (r1, r2, r3) := h
 clear h
 by_cases c3 : a1 < 1
 ·
  rw [if_pos c3] at H
  have c3b0 : decide (a1 < 1) = true := decide_eq_true c3
  clear c3
  simp only [Option.some.injEq, Prod.mk.injEq] at H
  obtain ⟨rfl, rfl, rfl⟩ := H
  go_enter Try.func45, Try.ntmps45
  go_wp2
  repeat (go_quiet (fail); try go_wp2)
  go_ret
  exact ⟨zE, zI, zB, zK⟩
 rw [if_neg c3] at H
 have c3b0 : decide (a1 < 1) = false := decide_eq_false c3
 clear c3
 by_cases c4 : s0_1 < (s0_0.length : Int)
 ·
  rw [if_pos c4] at H
  have c4b0 : decide (s0_1 < (s0_0.length : Int)) = true := decide_eq_true c4
  clear c4
  by_cases c5 : 0 ≤ s0_1
  case neg => rw [if_neg c5] at H; exact absurd H (by simp)
  rw [if_pos c5] at H
  have c5b0 : decide (0 ≤ s0_1) = true := decide_eq_true c5
  clear c5
  by_cases c6 : a1 = 0
  ·
   rw [if_pos c6] at H
   exact absurd H (by simp)
  rw [if_neg c6] at H
  have c6b0 : (a1 == 0) = false := beq_eq_false_iff_ne.mpr c6
  have c6b1 : (a1 != 0) = true := bne_iff_ne.mpr c6
  simp only [Option.some.injEq, Prod.mk.injEq] at H
  obtain ⟨rfl, rfl, rfl⟩ := H
  obtain ⟨ASz7_0, cSz7_0, HGz7, hgz7, HSz7_0⟩ := HI0.out
  have hcz7_0 := cellS65_0 HGz7
  have hcz7_1 := cellS65_1 HGz7
  have hcz7_2 := cellS65_2 HGz7
  have hfz7_1 := blk_frozen HGz7 1
  have hfz7_2 := blk_frozen HGz7 2
  clear HGz7 hgz7
  have p101 : 0 ≤ (s0_1 : Int) := zD
  have q101 : s0_1 < (s0_0.length : Int) := zD
  obtain ⟨ad101, e101, hx101_0⟩ := Kd.at_int HSz7_0 s0_1 p101 q101
  cases e101
  have hn101_0 : ad101.block ≠ g := Nat.ne_of_lt (Nat.lt_of_lt_of_le (by have := World.block_lt_of_cell? _ _ hx101_0; first | rwa [add_block] at this | exact this) (IsS65.ge HI0.out))
  replace hx101_0 := pw_cell_below HB.out hx101_0
  replace hx101_0 := (cell_far (p := ⟨g, 2, none⟩) (by first | (rw [add_block]; exact hn101_0) | (show (Addr.add _ _).block ≠ _; rw [add_block]; exact hn101_0) | exact hn101_0) (.int .u64 (IntKind.u64.wrap ((IntKind.u64.wrap (s0_2 * 6364136223846793005)) + 1442695040888963407)))).trans hx101_0
  (try have hy101_0 := fun (n_ : Nat) => (show (((w.drewN n_).setCell ⟨g, 2, none⟩ (.int .u64 (IntKind.u64.wrap ((IntKind.u64.wrap (s0_2 * 6364136223846793005)) + 1442695040888963407))))).cell? _ = some _ from hx101_0))
  clear hn101_0
  replace p101 := eq_true p101
  replace q101 := eq_true q101
  go_enter Try.func45, Try.ntmps45
  go_wp2
  repeat (go_quiet (fail); try go_wp2)
  go_ret
  exact ⟨zE, zI, zB, zK⟩
 rw [if_neg c4] at H
 have c4b0 : decide (s0_1 < (s0_0.length : Int)) = false := decide_eq_false c4
 clear c4
 by_cases c8 : a1 = 0
 ·
  rw [if_pos c8] at H
  exact absurd H (by simp)
 rw [if_neg c8] at H
 have c8b0 : (a1 == 0) = false := beq_eq_false_iff_ne.mpr c8
 have c8b1 : (a1 != 0) = true := bne_iff_ne.mpr c8
 simp only [Option.some.injEq, Prod.mk.injEq] at H
 obtain ⟨rfl, rfl, rfl⟩ := H
 obtain ⟨ASz9_0, cSz9_0, HGz9, hgz9, HSz9_0⟩ := HI0.out
 have hcz9_0 := cellS65_0 HGz9
 have hcz9_1 := cellS65_1 HGz9
 have hcz9_2 := cellS65_2 HGz9
 have hfz9_1 := blk_frozen HGz9 1
 have hfz9_2 := blk_frozen HGz9 2
 clear HGz9 hgz9
 go_enter Try.func45, Try.ntmps45
 go_wp2
 repeat (go_quiet (fail); try go_wp2)
 go_ret
 exact ⟨zE, zI, zB, zK⟩
end Go.Proofs.Ytgbapmmfhdphmaa.P
end
section
namespace Go.Proofs.Ytgbapmmfhdphmaa.P
open Go.RowKit Go.Proofs.YtgbapmmfhdphmaaW.PrintWords Go.Proofs.YtgbapmmfhdphmaaW.PrintLast Go.Proofs.YtgbapmmfhdphmaaW.PrintMore
attribute [local go_sem] max2_int min2_int max_two min_two max_three min_three max_four min_four   -- for this text's walks alone
set_option linter.unusedVariables false
set_option linter.unusedSimpArgs false
def spec_l01Pick.f (s0_0 : List Int) (s0_1 : Int) (s0_2 : Int) (l1 : List Int) : Option (Int × Int × Int) := (spec_l01Next.f s0_0 s0_1 s0_2 (l1.length : Int)).bind fun bt101 => (if 0 ≤ bt101.1 then (if bt101.1 < (l1.length : Int) then (some (rd l1 bt101.1, bt101.2.1, bt101.2.2)) else (none)) else (none))
set_option maxHeartbeats 8000000 in
set_option maxRecDepth 100000 in
theorem spec_l01Pick.calls (g : Nat) (s0_0 : List Int) (s0_1 : Int) (s0_2 : Int) (A1 : Option Addr) (c1 : Nat) (l1 : List Int) (r1 : Int) (r2 : Int) (r3 : Int) (w0 w : World) (hI : IsS65 w0 w g s0_0 s0_1 s0_2) (hB : Below w0.heap.size w0 w) (hr1 : Kd.C (Kd.int .i64) w A1 l1.length l1) (hc1 : l1.length ≤ c1) (hf1 : ∀ ad, A1 = some ad → 0 < l1.length → ad.block ≠ g) (h : spec_l01Pick.f s0_0 s0_1 s0_2 l1 = some (r1, r2, r3)) :
    Calls Try.prog 37 #[.pointer (some ⟨g, 0, none⟩), .slice A1 l1.length c1] w fun e w' => e = .returned (.int .i64 r1) ∧ IsS65 w0 w' g s0_0 r2 r3 ∧ Below w0.heap.size w0 w' ∧ KeepBut w w' g none := by
 have HR1 := Aside0.mk hr1
 have HC1 := Aside0.mk hc1
 clear hr1 hc1
 have HI0 := Aside0.mk hI
 have HK := Aside0.mk (KeepBut.refl w g none)
 have HL := Aside0.mk hB.size
 clear hI
 have HW0 := Aside0.mk hB.size
 have HB := Aside0.mk hB
 clear hB
 have H : ((spec_l01Next.f s0_0 s0_1 s0_2 (l1.length : Int)).bind fun bt101 => (if 0 ≤ bt101.1 then (if bt101.1 < (l1.length : Int) then (some (rd l1 bt101.1, bt101.2.1, bt101.2.2)) else (none)) else (none))) = some (r1, r2, r3) := h
 clear h
 replace H := Option.bind_eq_some_iff.mp H
 obtain ⟨⟨t101, t102, t103⟩, A30, H⟩ := H
 replace H : (if 0 ≤ t101 then (if t101 < (l1.length : Int) then (some (rd l1 t101, t102, t103)) else (none)) else (none)) = some (r1, r2, r3) := H
 have A3 := Aside0.mk A30
 clear A30
 by_cases c4 : 0 ≤ t101
 case neg => rw [if_neg c4] at H; exact absurd H (by simp)
 rw [if_pos c4] at H
 have c4b0 : decide (0 ≤ t101) = true := decide_eq_true c4
 clear c4
 by_cases c5 : t101 < (l1.length : Int)
 case neg => rw [if_neg c5] at H; exact absurd H (by simp)
 rw [if_pos c5] at H
 have c5b0 : decide (t101 < (l1.length : Int)) = true := decide_eq_true c5
 clear c5
 simp only [Option.some.injEq, Prod.mk.injEq] at H
 obtain ⟨rfl, rfl, rfl⟩ := H
 go_enter Try.func37, Try.ntmps37
 go_wp2_with (first | ((with_reducible refine gate_callee (f := 45) rfl ?_); refine goesL_ (some 9) rfl rfl Try.func45 zk rfl #[.pointer (some ⟨g, 0, none⟩), .int .i64 (l1.length : Int)] rfl zA ?_; (with_reducible refine (spec_l01Next.calls g s0_0 s0_1 s0_2 (l1.length : Int) t101 t102 t103 w0 _ ?side1 ?side2 A3.out).mono ?_); (case side1 => exact zI); (case side2 => exact zB); rintro e w6 ⟨rfl, hi, hb, hk⟩; refine ⟨_, rfl, ?_⟩; have n_ := y3 (KeepBut.trans (zK) hk (.inl rfl)) (hb) (hi); clear HK HB HI0; obtain ⟨HK, HB, HI0⟩ := n_; (try clear hb); (try clear hb2); (try clear hk); (try clear hi); have p104 : 0 ≤ (t101 : Int) := zD; have q104 : t101 < (l1.length : Int) := zD; obtain ⟨ad104, e104, hx104_0⟩ := Kd.at_int HR1.out t101 p104 q104; cases e104; replace hx104_0 := keep_cell HK.out hx104_0 (by first | (rw [add_block]; exact hf1 _ rfl (by omega)) | exact hf1 _ rfl (by omega) | exact hf1 ad104 rfl (by omega)); replace p104 := eq_true p104; replace q104 := eq_true q104))
 go_ret
 exact ⟨zE, zI, zB, zK⟩
end Go.Proofs.Ytgbapmmfhdphmaa.P
end
section
namespace Go.Proofs.Ytgbapmmfhdphmaa.P
open Go.RowKit Go.Proofs.YtgbapmmfhdphmaaW.PrintWords Go.Proofs.YtgbapmmfhdphmaaW.PrintLast Go.Proofs.YtgbapmmfhdphmaaW.PrintMore
attribute [local go_sem] max2_int min2_int max_two min_two max_three min_three max_four min_four   -- for this text's walks alone
set_option linter.unusedVariables false
set_option linter.unusedSimpArgs false
def spec_l01Own.f (l0 : List Int) : Option (List Int) := (some (([] : List Int) : List Int)).bind fun y101 => (if y101.length + l0.length < 17592186044416 then (some (y101 ++ l0)) else (none))
set_option maxHeartbeats 8000000 in
set_option maxRecDepth 100000 in
theorem spec_l01Own.calls (A0 : Option Addr) (c0 : Nat) (l0 : List Int) (r : List Int) (w : World) (hr0 : Kd.C (Kd.int .i64) w A0 l0.length l0) (hc0 : l0.length ≤ c0) (h : spec_l01Own.f l0 = some r) :
    Calls Try.prog 44 #[.slice A0 l0.length c0] w fun e w' => ∃ v0_ : Value, e = .returned (v0_) ∧ Kd.R (Kd.int .i64) 2 w' w.heap.size (fun _ => True) v0_ r ∧ Below w.heap.size w w' := by
 have HR0 := Aside0.mk hr0
 have HC0 := Aside0.mk hc0
 clear hr0 hc0
 have HB := Aside0.mk (Below.refl w.heap.size w)
 have H : ((some (([] : List Int) : List Int)).bind fun y101 => (if y101.length + l0.length < 17592186044416 then (some (y101 ++ l0)) else (none))) = some r := h
 clear h
 obtain ⟨y101, hy101⟩ : ∃ y_ : List Int, y_ = (([] : List Int)) := ⟨_, rfl⟩
 replace H : (if y101.length + l0.length < 17592186044416 then (some (y101 ++ l0)) else (none)) = some r := zH hy101
 have Ny101 := Aside0.mk hy101
 clear hy101
 by_cases c2 : y101.length + l0.length < 17592186044416
 case neg => rw [if_neg c2] at H; exact absurd H (by simp)
 rw [if_pos c2] at H
 have LMc2 := Aside0.mk c2
 clear c2
 obtain ⟨y104, hy104⟩ : ∃ y_ : List Int, y_ = (y101 ++ l0) := ⟨_, rfl⟩
 replace H : (some y104) = some r := zH hy104
 have Ny104 := Aside0.mk hy104
 clear hy104
 obtain rfl := Option.some.inj H
 go_enter Try.func44, Try.ntmps44
 go_wp2_with (first | ((with_reducible refine gate_dst (N := 3) rfl ?_); refine Kd.R_lit (Kd.int .i64) _ 2 ?hg (N := 3) ?hd (xs := ([] : List Int)) (inner := []) (ok := fun _ => True) (okp := fun _ => True) ?hr ?hp (fun _ hk => hk) trivial (Below.refl _ _) (Nat.le_refl _) (by simp) ?_; (case hd => rfl); (case hg => rfl); (case hr => first | (go_simp; done) | (go_simp; rfl)); (case hp => exact (Reps.none _ _)); intro v102 w3 ho4 hb hg_ hnew_; clear hg_ hnew_; (first | rw [← Ny101.out] at ho4 | (simp only [Int.reduceToNat] at ho4; rw [← Ny101.out] at ho4)); have n_ := y2 (Kd.R_lower ho4 (below_size (zB))) (below_step (zB) hb); clear HB; obtain ⟨HO103, HB⟩ := n_; clear hb ho4) | ((with_reducible refine gate_builtin (b := .append) (xs := #[.tmp 3, .tmp 4]) rfl ?_); at_builtin; refine Kd.R_append_rows (Kd.int .i64) (w0 := w) w.heap.size rfl (.tmp 3) (.tmp 4) 24 2 (.int .i64 0) 8 rfl Try.underlying24 info2 rfl (by decide) (by omega) v102 y101 l0 _ _ _ (fun _ => True) (fun _ => False) rfl rfl ?aO ?aR (fun _ _ h => h) (fun _ h => h.elim) ?aF ?aB ?aS ?aL ?_; (case aR => repeat (first | exact (Kd.C_below HR0.out HB.out) | (with_reducible refine Kd.C_alloc ?_ _) | (with_reducible refine Kd.C_drewN ?_ _) | (with_reducible refine Kd.C_drew ?_))); (case aB => exact (zB)); (case aF => exact (fun _ _ => trivial)); (case aO => exact (zR HO103.out)); (case aS => exact (below_size (zB))); (case aL => have := LMc2.out; omega); intro v105 w5 ho hb hg hat; rw [← Ny104.out] at ho; have n_ := y2 (hb) (ho); clear HB HO103; obtain ⟨HB, HO106⟩ := n_; clear ho hb hg hat))
 go_ret
 exact ⟨_, zE, zR HO106.out, zB⟩
end Go.Proofs.Ytgbapmmfhdphmaa.P
end
section
namespace Go.Proofs.Ytgbapmmfhdphmaa.P
open Go.RowKit Go.Proofs.YtgbapmmfhdphmaaW.PrintWords Go.Proofs.YtgbapmmfhdphmaaW.PrintLast Go.Proofs.YtgbapmmfhdphmaaW.PrintMore
attribute [local go_sem] max2_int min2_int max_two min_two max_three min_three max_four min_four   -- for this text's walks alone
set_option linter.unusedVariables false
set_option linter.unusedSimpArgs false
def spec_l01K.f (l0_0 : List Int) : Option (Int) := some (l0_0.length : Int)
set_option maxHeartbeats 8000000 in
set_option maxRecDepth 100000 in
theorem spec_l01K.calls (A0_0 : Option Addr) (c0_0 : Nat) (l0_0 : List Int) (r : Int) (w : World) (hr0_0 : Kd.C (Kd.int .i64) w A0_0 l0_0.length l0_0) (hc0_0 : l0_0.length ≤ c0_0) (h : spec_l01K.f l0_0 = some r) :
    Calls Try.prog 46 #[.agg #[.slice A0_0 l0_0.length c0_0]] w fun e w' => e = .returned (.int .i64 r) ∧ Below w.heap.size w w' := by
 have hu26 := Try.underlying26
 have HR0_0 := Aside0.mk hr0_0
 have HC0_0 := Aside0.mk hc0_0
 clear hr0_0 hc0_0
 have HB := Aside0.mk (Below.refl w.heap.size w)
 have H : (some (l0_0.length : Int)) = some r := h
 clear h
 obtain rfl := Option.some.inj H
 go_enter Try.func46, Try.ntmps46
 go_wp2_with (first | ((with_reducible refine gate_dst (N := 1) rfl ?_); refine box_event zr (N := 1) zr (cs := #[.slice A0_0 l0_0.length c0_0]) (t := 26) zg ?_; intro gb101 hg w2 hbox hb; have n_ := y4 (below_step (zB) hb) (hbox) ((zS hg : w.heap.size ≤ gb101)) ((zS hg : w.heap.size ≤ gb101)); clear HB; obtain ⟨HB, BK101, GW101, GE101⟩ := n_; clear hb hbox hg; have hcz3_0 := zc BK101.out; have hfz3_0 := blk_frozen BK101.out 0))
 go_ret
 exact ⟨zE, zB⟩
end Go.Proofs.Ytgbapmmfhdphmaa.P
end
section
namespace Go.Proofs.Ytgbapmmfhdphmaa.P
open Go.RowKit Go.Proofs.YtgbapmmfhdphmaaW.PrintWords Go.Proofs.YtgbapmmfhdphmaaW.PrintLast Go.Proofs.YtgbapmmfhdphmaaW.PrintMore
attribute [local go_sem] max2_int min2_int max_two min_two max_three min_three max_four min_four   -- for this text's walks alone
set_option linter.unusedVariables false
set_option linter.unusedSimpArgs false
def spec_l01Bad.l0 : Nat → List Int → Int → Int → List Int → Option (List Int × Int × Int)
  | 0, _, _, _, _ => none
  | k + 1, x1000, x1001, x1002, x107000 => if (x107000.length : Int) ≤ 8 then (if x107000.length < 17592186044416 then (spec_l01Bad.l0 k x1000 x1001 x1002 (x107000 ++ [9])) else (none)) else (some (x107000, x1001, x1002))
def spec_l01Bad.f (k : Nat) (s0_0 : List Int) (s0_1 : Int) (s0_2 : Int) (l1_0 : List Int) : Option (List Int × Int × Int) := (spec_l01Own.f l1_0).bind fun t103 => ((spec_l01Next.f s0_0 s0_1 s0_2 50).bind fun bt107 => (if bt107.1 = 0 then (some (([] : List Int), bt107.2.1, bt107.2.2)) else (if bt107.1 = 1 then ((spec_l01K.f l1_0).bind fun t110 => ((spec_l01Next.f s0_0 bt107.2.1 bt107.2.2 t110).bind fun bt111 => ((spec_l01Pick.f s0_0 bt111.2.1 bt111.2.2 (([0, 41, (-1), 1099511627776] : List Int))).bind fun bt117 => (if 0 ≤ bt111.1 then (if bt111.1 < (t103.length : Int) then (some ((t103.set (bt111.1 : Int).toNat bt117.1), bt117.2.1, bt117.2.2)) else (none)) else (none))))) else (if bt107.1 = 2 then (spec_l01Bad.l0 k s0_0 bt107.2.1 bt107.2.2 t103) else (some (l1_0, bt107.2.1, bt107.2.2))))))
theorem spec_l01Bad.mono_l : ∀ k, (∀ y0 y1 y2 y3, LeO (spec_l01Bad.l0 k y0 y1 y2 y3) (spec_l01Bad.l0 (k + 1) y0 y1 y2 y3))
  | 0 => fun _ _ _ _ r h => by simp [spec_l01Bad.l0] at h
  | k + 1 => by
    have ih0 := spec_l01Bad.mono_l k
    · intro y0 y1 y2 y3
      unfold spec_l01Bad.l0
      repeat' first | (with_reducible exact ih0 _ _ _ _) | (with_reducible exact LeO.refl _) | (with_reducible exact LeO.none _) | (with_reducible refine LeO.ite ?_ ?_) | (with_reducible refine LeO.bind ?_ (fun _ => ?_)) | exact ih0 _ _ _ _ | exact LeO.none _ | refine LeO.ite ?_ ?_ | refine LeO.bind ?_ (fun _ => ?_)
theorem spec_l01Bad.mono : ∀ a0 a1 a2 a3 k, LeO (spec_l01Bad.f k a0 a1 a2 a3) (spec_l01Bad.f (k + 1) a0 a1 a2 a3) := by
  intro a0 a1 a2 a3 k
  have ih0 := spec_l01Bad.mono_l k
  unfold spec_l01Bad.f
  repeat' first | (with_reducible exact ih0 _ _ _ _) | (with_reducible exact LeO.refl _) | (with_reducible exact LeO.none _) | (with_reducible refine LeO.ite ?_ ?_) | (with_reducible refine LeO.bind ?_ (fun _ => ?_)) | exact ih0 _ _ _ _ | exact LeO.none _ | refine LeO.ite ?_ ?_ | refine LeO.bind ?_ (fun _ => ?_)
def spec_l01Bad.T6 : Bool × List (List Nat × List Nat) := (true, [([], []), ([0], [0]), ([], []), ([], []), ([3], [3]), ([2, 4, 4], [2, 4]), ([], []), ([], []), ([6, 7, 5], [6, 7]), ([1, 5, 0, 1, 2, 3, 4, 5, 6, 7, 8], [1, 5]), ([9, 8, 8, 0, 1, 2, 3, 4, 5, 6, 7, 8], [8, 9])])
def spec_l01Bad.B6 : List Nat := [0, 1, 0, 0, 8, 28, 0, 0, 252, 511, 1023]
theorem spec_l01Bad.tab6 : rtab .any (opsOf Try.f23 6) = spec_l01Bad.T6 := by kernel_rfl
theorem spec_l01Bad.bits6 : waitsOk spec_l01Bad.T6.2 spec_l01Bad.B6 = true := by kernel_rfl
set_option maxHeartbeats 8000000 in
set_option maxRecDepth 100000 in
theorem spec_l01Bad.calls (k : Nat) (g : Nat) (s0_0 : List Int) (s0_1 : Int) (s0_2 : Int) (P1_0_ : Nat → Prop) (u9000_ : Value) (l1_0 : List Int) (r1 : List Int) (r2 : Int) (r3 : Int) (w0 w : World) (hI : IsS65 w0 w g s0_0 s0_1 s0_2) (hB : Below w0.heap.size w0 w) (ho1_0 : Kd.R (Kd.int .i64) 2 w w0.heap.size P1_0_ u9000_ l1_0) (h : spec_l01Bad.f k s0_0 s0_1 s0_2 l1_0 = some (r1, r2, r3)) :
    Calls Try.prog 23 #[.pointer (some ⟨g, 0, none⟩), .agg #[u9000_]] w fun e w' => ∃ v0_ : Value, e = .returned (.agg #[v0_]) ∧ Kd.R (Kd.int .i64) 2 w' w0.heap.size (fun k_ => (P1_0_ k_ ∨ w.heap.size ≤ k_)) v0_ r1 ∧ IsS65 w0 w' g s0_0 r2 r3 ∧ Below w0.heap.size w0 w' ∧ Kept w w' (fun k_ => (P1_0_ k_) ∨ k_ = g) := by
 have hu26 := Try.underlying26
 have HO1_0 := Aside0.mk (show Kd.R (Kd.int .i64) 2 w w0.heap.size (fun k_ => (P1_0_ k_ ∨ w.heap.size ≤ k_)) u9000_ l1_0 from Kd.R_mono ho1_0 (fun k_ hk => (.inl hk)))
 have HI0 := Aside0.mk hI
 have HL := Aside0.mk hB.size
 clear hI
 have HK := Aside0.mk (Kept.refl w (fun k_ => (P1_0_ k_) ∨ k_ = g))
 have HW0 := Aside0.mk hB.size
 have HB := Aside0.mk hB
 clear hB
 have H : ((spec_l01Own.f l1_0).bind fun t103 => ((spec_l01Next.f s0_0 s0_1 s0_2 50).bind fun bt107 => (if bt107.1 = 0 then (some (([] : List Int), bt107.2.1, bt107.2.2)) else (if bt107.1 = 1 then ((spec_l01K.f l1_0).bind fun t110 => ((spec_l01Next.f s0_0 bt107.2.1 bt107.2.2 t110).bind fun bt111 => ((spec_l01Pick.f s0_0 bt111.2.1 bt111.2.2 (([0, 41, (-1), 1099511627776] : List Int))).bind fun bt117 => (if 0 ≤ bt111.1 then (if bt111.1 < (t103.length : Int) then (some ((t103.set (bt111.1 : Int).toNat bt117.1), bt117.2.1, bt117.2.2)) else (none)) else (none))))) else (if bt107.1 = 2 then (spec_l01Bad.l0 k s0_0 bt107.2.1 bt107.2.2 t103) else (some (l1_0, bt107.2.1, bt107.2.2))))))) = some (r1, r2, r3) := h
 clear h
 replace H := Option.bind_eq_some_iff.mp H
 obtain ⟨t103, A30, H⟩ := H
 replace H : ((spec_l01Next.f s0_0 s0_1 s0_2 50).bind fun bt107 => (if bt107.1 = 0 then (some (([] : List Int), bt107.2.1, bt107.2.2)) else (if bt107.1 = 1 then ((spec_l01K.f l1_0).bind fun t110 => ((spec_l01Next.f s0_0 bt107.2.1 bt107.2.2 t110).bind fun bt111 => ((spec_l01Pick.f s0_0 bt111.2.1 bt111.2.2 (([0, 41, (-1), 1099511627776] : List Int))).bind fun bt117 => (if 0 ≤ bt111.1 then (if bt111.1 < (t103.length : Int) then (some ((t103.set (bt111.1 : Int).toNat bt117.1), bt117.2.1, bt117.2.2)) else (none)) else (none))))) else (if bt107.1 = 2 then (spec_l01Bad.l0 k s0_0 bt107.2.1 bt107.2.2 t103) else (some (l1_0, bt107.2.1, bt107.2.2)))))) = some (r1, r2, r3) := H
 have A3 := Aside0.mk A30
 clear A30
 replace H := Option.bind_eq_some_iff.mp H
 obtain ⟨⟨t107, t108, t109⟩, A40, H⟩ := H
 replace H : (if t107 = 0 then (some (([] : List Int), t108, t109)) else (if t107 = 1 then ((spec_l01K.f l1_0).bind fun t110 => ((spec_l01Next.f s0_0 t108 t109 t110).bind fun bt111 => ((spec_l01Pick.f s0_0 bt111.2.1 bt111.2.2 (([0, 41, (-1), 1099511627776] : List Int))).bind fun bt117 => (if 0 ≤ bt111.1 then (if bt111.1 < (t103.length : Int) then (some ((t103.set (bt111.1 : Int).toNat bt117.1), bt117.2.1, bt117.2.2)) else (none)) else (none))))) else (if t107 = 2 then (spec_l01Bad.l0 k s0_0 t108 t109 t103) else (some (l1_0, t108, t109))))) = some (r1, r2, r3) := H
 have A4 := Aside0.mk A40
 clear A40
 by_cases c5 : t107 = 0
 ·
  rw [if_pos c5] at H
  have c5b0 : (t107 == 0) = true := beq_iff_eq.mpr c5
  have c5b1 : (t107 != 0) = false := bne_eq_false_iff_eq.mpr c5
  clear c5
  simp only [Option.some.injEq, Prod.mk.injEq] at H
  obtain ⟨rfl, rfl, rfl⟩ := H
  obtain ⟨Ao6, co6, eo6⟩ := Kd.R_slice HO1_0.out
  subst eo6
  go_enter Try.func23, Try.ntmps23
  go_wp2_with (first | ((with_reducible refine gate_dst (N := 3) rfl ?_); refine box_event zr (N := 3) zr (cs := #[.slice Ao6 l1_0.length co6]) (t := 26) zg ?_; intro gb101 hg w7 hbox hb; have n_ := y9 (Kd.R_below (zR HO1_0.out) hb) (IsS65.below (zI) hb) (Kept.below (S := (fun k_ => (P1_0_ k_) ∨ k_ = g)) (zJ) hb) (below_step (zB) hb) (hbox) ((by rw [hg]; exact (by first | exact HK.out.1 | exact (show Kept w _ (fun k_ => (P1_0_ k_) ∨ k_ = g) from zJ).1) : w.heap.size ≤ gb101)) ((zS hg : w0.heap.size ≤ gb101)) ((by rw [hg]; exact Nat.ne_of_lt (IsS65.lt (show IsS65 w0 _ g s0_0 s0_1 s0_2 from zI)) : g ≠ gb101)) ((by rw [hg]; exact Nat.ne_of_gt (IsS65.lt (show IsS65 w0 _ g s0_0 s0_1 s0_2 from zI)) : gb101 ≠ g)); clear HO1_0 HI0 HK HB; obtain ⟨HO1_0, HI0, HK, HB, BK101, GW101, GE101, NB0_101, NB101_0⟩ := n_; clear hb hbox hg) | ((with_reducible refine gate_dst (N := 4) rfl ?_); refine box_event zr (N := 4) zr (cs := #[.slice none 0 0]) (t := 26) zg ?_; intro gb102 hg w8 hbox hb; have n_ := y12 (Kd.R_below (zR HO1_0.out) hb) (IsS65.below (zI) hb) (zb BK101.out hb) (Kept.below (S := (fun k_ => (P1_0_ k_) ∨ k_ = g)) (zJ) hb) (below_step (zB) hb) (hbox) ((by rw [hg]; exact (by first | exact HK.out.1 | exact (show Kept w _ (fun k_ => (P1_0_ k_) ∨ k_ = g) from zJ).1) : w.heap.size ≤ gb102)) ((zS hg : w0.heap.size ≤ gb102)) ((zL hg BK101.out : gb101 ≠ gb102)) ((zM hg BK101.out : gb102 ≠ gb101)) ((by rw [hg]; exact Nat.ne_of_lt (IsS65.lt (show IsS65 w0 _ g s0_0 s0_1 s0_2 from zI)) : g ≠ gb102)) ((by rw [hg]; exact Nat.ne_of_gt (IsS65.lt (show IsS65 w0 _ g s0_0 s0_1 s0_2 from zI)) : gb102 ≠ g)); clear HO1_0 HI0 BK101 HK HB; obtain ⟨HO1_0, HI0, BK101, HK, HB, BK102, GW102, GE102, NB101_102, NB102_101, NB0_102, NB102_0⟩ := n_; clear hb hbox hg; have hnb9 := NB101_102.out; have hnc9 := NB102_101.out; have hnb10 := NB101_0.out; have hnc10 := NB0_101.out; have hcz11_0 := zc BK101.out; have hfz11_0 := blk_frozen BK101.out 0) | ((with_reducible refine gate_callee (f := 44) rfl ?_); refine goesL_ (some 8) rfl rfl Try.func44 zk rfl #[.slice Ao6 l1_0.length co6] rfl zA ?_; (with_reducible refine (spec_l01Own.calls _ _ l1_0 t103 _ ?side1 ?side2 A3.out).mono ?_); (case side1 => exact zC (Kd.R_reads' HO1_0.out).2.2); (case side2 => exact (Kd.R_reads' HO1_0.out).2.1); rintro e w12 ⟨v104, rfl, ho0, hb⟩; refine ⟨_, rfl, ?_⟩; have n_ := y7 (Kd.R_elder' (zR HO1_0.out) (Kd.R_base ho0) hb) (Kd.R_lower (Kd.R_new' (Kd.R_newM (M := fun k_ => (P1_0_ k_ ∨ w.heap.size ≤ k_)) ho0 (by first | exact HK.out.1 | exact (show Kept w _ (fun k_ => (P1_0_ k_) ∨ k_ = g) from zJ).1) (fun k_ h_ => .inr h_)) (Kd.R_lt (zR HO1_0.out))) (below_size (zB))) (IsS65.below (zI) hb) (zb BK101.out hb) (zb BK102.out hb) (Kept.below (S := (fun k_ => (P1_0_ k_) ∨ k_ = g)) (zJ) hb) (below_step (zB) hb); clear HO1_0 HI0 BK101 BK102 HK HB; obtain ⟨HO1_0, HO105, HI0, BK101, BK102, HK, HB⟩ := n_; (try clear hb); (try clear hb2); (try clear hk); (try clear hi); (try clear ho0); obtain ⟨Ao13, co13, eo13⟩ := Kd.R_slice HO105.out; subst eo13) | ((with_reducible refine gate_dst (N := 5) rfl ?_); refine box_event zr (N := 5) zr (cs := #[.slice none 0 0]) (t := 26) zg ?_; intro gb106 hg w14 hbox hb; have n0_ := Aside0.mk (Kd.R_below (zR HO1_0.out) hb); have n1_ := Aside0.mk (Kd.R_below (zR HO105.out) hb); have n2_ := Aside0.mk (IsS65.below (zI) hb); have n3_ := Aside0.mk (zb BK101.out hb); have n4_ := Aside0.mk (zb BK102.out hb); have n5_ := Aside0.mk (Kept.below (S := (fun k_ => (P1_0_ k_) ∨ k_ = g)) (zJ) hb); have n6_ := Aside0.mk (below_step (zB) hb); have n7_ := Aside0.mk (hbox); have n8_ := Aside0.mk ((by rw [hg]; exact (by first | exact HK.out.1 | exact (show Kept w _ (fun k_ => (P1_0_ k_) ∨ k_ = g) from zJ).1) : w.heap.size ≤ gb106)); have n9_ := Aside0.mk ((zS hg : w0.heap.size ≤ gb106)); have n10_ := Aside0.mk ((zL hg BK101.out : gb101 ≠ gb106)); have n11_ := Aside0.mk ((zM hg BK101.out : gb106 ≠ gb101)); have n12_ := Aside0.mk ((zL hg BK102.out : gb102 ≠ gb106)); have n13_ := Aside0.mk ((zM hg BK102.out : gb106 ≠ gb102)); have n14_ := Aside0.mk ((by rw [hg]; exact Nat.ne_of_lt (IsS65.lt (show IsS65 w0 _ g s0_0 s0_1 s0_2 from zI)) : g ≠ gb106)); have n15_ := Aside0.mk ((by rw [hg]; exact Nat.ne_of_gt (IsS65.lt (show IsS65 w0 _ g s0_0 s0_1 s0_2 from zI)) : gb106 ≠ g)); clear HO1_0; clear HO105; clear HI0; clear BK101; clear BK102; clear HK; clear HB; have HO1_0 := n0_; have HO105 := n1_; have HI0 := n2_; have BK101 := n3_; have BK102 := n4_; have HK := n5_; have HB := n6_; have BK106 := n7_; have GW106 := n8_; have GE106 := n9_; have NB101_106 := n10_; have NB106_101 := n11_; have NB102_106 := n12_; have NB106_102 := n13_; have NB0_106 := n14_; have NB106_0 := n15_; clear n0_ n1_ n2_ n3_ n4_ n5_ n6_ n7_ n8_ n9_ n10_ n11_ n12_ n13_ n14_ n15_; clear hb hbox hg; have hnb15 := NB106_101.out; have hnc15 := NB101_106.out; have hnb16 := NB106_102.out; have hnc16 := NB102_106.out; have hnb17 := NB106_0.out; have hnc17 := NB0_106.out; have hcz18_0 := zc BK106.out; have hfz18_0 := blk_frozen BK106.out 0) | ((with_reducible refine gate_callee (f := 45) rfl ?_); refine goesL_ (some 11) rfl rfl Try.func45 zk rfl #[.pointer (some ⟨g, 0, none⟩), .int .i64 50] rfl zA ?_; (with_reducible refine (spec_l01Next.calls g s0_0 s0_1 s0_2 50 t107 t108 t109 w0 _ ?side1 ?side2 A4.out).mono ?_); (case side1 => exact zI); (case side2 => exact zB); rintro e w19 ⟨rfl, hi, hb, hk⟩; refine ⟨_, rfl, ?_⟩; have n_ := y8 (Kd.R_mono (Kd.R_keep (IsS65.apart (show IsS65 w0 _ g s0_0 s0_1 s0_2 from zI) (by refine zR ?_; exact (Kd.R_mono (Kd.R_far (p := ⟨gb106, 0, none⟩) (Kd.R_types HO1_0.out BK106.out (by decide)) (fun _ hk => hk.2) (.slice Ao13 t103.length co13)) (fun _ h_ => h_.1))) (by decide)) hk (fun _ h => h.2)) (fun _ h => h.1)) (KeepBut.blk hk (g' := gb101) (o := .cells #[.slice Ao6 l1_0.length co6] 26 (0, 0)) (by refine zG ?_; refine blk_far ?_ NB101_106.out _; refine zG ?_; exact BK101.out) NB101_0.out (by simp)) (KeepBut.blk hk (g' := gb102) (o := .cells #[.slice none 0 0] 26 (0, 0)) (by refine zG ?_; refine blk_far ?_ NB102_106.out _; refine zG ?_; exact BK102.out) NB102_0.out (by simp)) (Kd.R_mono (Kd.R_keep (IsS65.apart (show IsS65 w0 _ g s0_0 s0_1 s0_2 from zI) (by refine zR ?_; exact (Kd.R_mono (Kd.R_far (p := ⟨gb106, 0, none⟩) (Kd.R_types HO105.out BK106.out (by decide)) (fun _ hk => hk.2) (.slice Ao13 t103.length co13)) (fun _ h_ => h_.1))) (by decide)) hk (fun _ h => h.2)) (fun _ h => h.1)) (KeepBut.blk hk (g' := gb106) (o := .cells #[.slice Ao13 t103.length co13] 26 (0, 0)) (by refine zG ?_; refine blk_put (cs := #[.slice none 0 0]) ?_ 0 _ rfl; refine zG ?_; exact BK106.out) NB106_0.out (by simp)) (Kept.of_keep (S := (fun k_ => (P1_0_ k_) ∨ k_ = g)) (zJ) hk (.inl (.inr rfl))) (hb) (hi); clear HO1_0 BK101 BK102 HO105 BK106 HK HB HI0; obtain ⟨HO1_0, BK101, BK102, HO105, BK106, HK, HB, HI0⟩ := n_; (try clear hb); (try clear hb2); (try clear hk); (try clear hi); have hnb20 := NB102_0.out; have hnc20 := NB0_102.out; have hcz21_0 := zc BK102.out; have hfz21_0 := blk_frozen BK102.out 0))
  refine bodyPost_ret (results_cell_row rfl _ _ gb102 26 #[.slice none 0 0] (0, 0) _ rfl (by refine zG ?_; refine blk_put (cs := #[.slice none 0 0]) ?_ 0 _ rfl; refine zG ?_; exact BK102.out) Try.underlying26 rfl zk) rfl ?_
  exact ⟨_, zE, zN, zI, zB, zJ⟩
 rw [if_neg c5] at H
 have c5b0 : (t107 == 0) = false := beq_eq_false_iff_ne.mpr c5
 have c5b1 : (t107 != 0) = true := bne_iff_ne.mpr c5
 by_cases c22 : t107 = 1
 ·
  rw [if_pos c22] at H
  have c22b0 : (t107 == 1) = true := beq_iff_eq.mpr c22
  have c22b1 : (t107 != 1) = false := bne_eq_false_iff_eq.mpr c22
  clear c22
  replace H := Option.bind_eq_some_iff.mp H
  obtain ⟨t110, A230, H⟩ := H
  replace H : ((spec_l01Next.f s0_0 t108 t109 t110).bind fun bt111 => ((spec_l01Pick.f s0_0 bt111.2.1 bt111.2.2 (([0, 41, (-1), 1099511627776] : List Int))).bind fun bt117 => (if 0 ≤ bt111.1 then (if bt111.1 < (t103.length : Int) then (some ((t103.set (bt111.1 : Int).toNat bt117.1), bt117.2.1, bt117.2.2)) else (none)) else (none)))) = some (r1, r2, r3) := H
  have A23 := Aside0.mk A230
  clear A230
  replace H := Option.bind_eq_some_iff.mp H
  obtain ⟨⟨t111, t112, t113⟩, A240, H⟩ := H
  replace H : ((spec_l01Pick.f s0_0 t112 t113 (([0, 41, (-1), 1099511627776] : List Int))).bind fun bt117 => (if 0 ≤ t111 then (if t111 < (t103.length : Int) then (some ((t103.set (t111 : Int).toNat bt117.1), bt117.2.1, bt117.2.2)) else (none)) else (none))) = some (r1, r2, r3) := H
  have A24 := Aside0.mk A240
  clear A240
  obtain ⟨y114, hy114⟩ : ∃ y_ : List Int, y_ = (([0, 41, (-1), 1099511627776] : List Int)) := ⟨_, rfl⟩
  replace H : ((spec_l01Pick.f s0_0 t112 t113 y114).bind fun bt117 => (if 0 ≤ t111 then (if t111 < (t103.length : Int) then (some ((t103.set (t111 : Int).toNat bt117.1), bt117.2.1, bt117.2.2)) else (none)) else (none))) = some (r1, r2, r3) := zH hy114
  have Ny114 := Aside0.mk hy114
  clear hy114
  replace H := Option.bind_eq_some_iff.mp H
  obtain ⟨⟨t117, t118, t119⟩, A250, H⟩ := H
  replace H : (if 0 ≤ t111 then (if t111 < (t103.length : Int) then (some ((t103.set (t111 : Int).toNat t117), t118, t119)) else (none)) else (none)) = some (r1, r2, r3) := H
  have A25 := Aside0.mk A250
  clear A250
  by_cases c26 : 0 ≤ t111
  case neg => rw [if_neg c26] at H; exact absurd H (by simp)
  rw [if_pos c26] at H
  have c26b0 : decide (0 ≤ t111) = true := decide_eq_true c26
  clear c26
  by_cases c27 : t111 < (t103.length : Int)
  case neg => rw [if_neg c27] at H; exact absurd H (by simp)
  rw [if_pos c27] at H
  have c27b0 : decide (t111 < (t103.length : Int)) = true := decide_eq_true c27
  clear c27
  obtain ⟨y120, hy120⟩ : ∃ y_ : List Int, y_ = (t103.set (t111 : Int).toNat t117) := ⟨_, rfl⟩
  replace H : (some (y120, t118, t119)) = some (r1, r2, r3) := zH hy120
  have Ny120 := Aside0.mk hy120
  clear hy120
  simp only [Option.some.injEq, Prod.mk.injEq] at H
  obtain ⟨rfl, rfl, rfl⟩ := H
  obtain ⟨Ao29, co29, eo29⟩ := Kd.R_slice HO1_0.out
  subst eo29
  go_enter Try.func23, Try.ntmps23
  try go_wp2_with (first | ((with_reducible refine gate_dst (N := 3) rfl ?_); refine box_event zr (N := 3) zr (cs := #[.slice Ao29 l1_0.length co29]) (t := 26) zg ?_; intro gb101 hg w30 hbox hb; have n_ := y9 (Kd.R_below (zR HO1_0.out) hb) (IsS65.below (zI) hb) (Kept.below (S := (fun k_ => (P1_0_ k_) ∨ k_ = g)) (zJ) hb) (below_step (zB) hb) (hbox) ((by rw [hg]; exact (by first | exact HK.out.1 | exact (show Kept w _ (fun k_ => (P1_0_ k_) ∨ k_ = g) from zJ).1) : w.heap.size ≤ gb101)) ((zS hg : w0.heap.size ≤ gb101)) ((by rw [hg]; exact Nat.ne_of_lt (IsS65.lt (show IsS65 w0 _ g s0_0 s0_1 s0_2 from zI)) : g ≠ gb101)) ((by rw [hg]; exact Nat.ne_of_gt (IsS65.lt (show IsS65 w0 _ g s0_0 s0_1 s0_2 from zI)) : gb101 ≠ g)); clear HO1_0 HI0 HK HB; obtain ⟨HO1_0, HI0, HK, HB, BK101, GW101, GE101, NB0_101, NB101_0⟩ := n_; clear hb hbox hg) | ((with_reducible refine gate_dst (N := 4) rfl ?_); refine box_event zr (N := 4) zr (cs := #[.slice none 0 0]) (t := 26) zg ?_; intro gb102 hg w31 hbox hb; have n_ := y12 (Kd.R_below (zR HO1_0.out) hb) (IsS65.below (zI) hb) (zb BK101.out hb) (Kept.below (S := (fun k_ => (P1_0_ k_) ∨ k_ = g)) (zJ) hb) (below_step (zB) hb) (hbox) ((by rw [hg]; exact (by first | exact HK.out.1 | exact (show Kept w _ (fun k_ => (P1_0_ k_) ∨ k_ = g) from zJ).1) : w.heap.size ≤ gb102)) ((zS hg : w0.heap.size ≤ gb102)) ((zL hg BK101.out : gb101 ≠ gb102)) ((zM hg BK101.out : gb102 ≠ gb101)) ((by rw [hg]; exact Nat.ne_of_lt (IsS65.lt (show IsS65 w0 _ g s0_0 s0_1 s0_2 from zI)) : g ≠ gb102)) ((by rw [hg]; exact Nat.ne_of_gt (IsS65.lt (show IsS65 w0 _ g s0_0 s0_1 s0_2 from zI)) : gb102 ≠ g)); clear HO1_0 HI0 BK101 HK HB; obtain ⟨HO1_0, HI0, BK101, HK, HB, BK102, GW102, GE102, NB101_102, NB102_101, NB0_102, NB102_0⟩ := n_; clear hb hbox hg; have hnb32 := NB101_102.out; have hnc32 := NB102_101.out; have hnb33 := NB101_0.out; have hnc33 := NB0_101.out; have hcz34_0 := zc BK101.out; have hfz34_0 := blk_frozen BK101.out 0) | ((with_reducible refine gate_callee (f := 44) rfl ?_); refine goesL_ (some 8) rfl rfl Try.func44 zk rfl #[.slice Ao29 l1_0.length co29] rfl zA ?_; (with_reducible refine (spec_l01Own.calls _ _ l1_0 t103 _ ?side1 ?side2 A3.out).mono ?_); (case side1 => exact zC (Kd.R_reads' HO1_0.out).2.2); (case side2 => exact (Kd.R_reads' HO1_0.out).2.1); rintro e w35 ⟨v104, rfl, ho0, hb⟩; refine ⟨_, rfl, ?_⟩; have n_ := y7 (Kd.R_elder' (zR HO1_0.out) (Kd.R_base ho0) hb) (Kd.R_lower (Kd.R_new' (Kd.R_newM (M := fun k_ => (P1_0_ k_ ∨ w.heap.size ≤ k_)) ho0 (by first | exact HK.out.1 | exact (show Kept w _ (fun k_ => (P1_0_ k_) ∨ k_ = g) from zJ).1) (fun k_ h_ => .inr h_)) (Kd.R_lt (zR HO1_0.out))) (below_size (zB))) (IsS65.below (zI) hb) (zb BK101.out hb) (zb BK102.out hb) (Kept.below (S := (fun k_ => (P1_0_ k_) ∨ k_ = g)) (zJ) hb) (below_step (zB) hb); clear HO1_0 HI0 BK101 BK102 HK HB; obtain ⟨HO1_0, HO105, HI0, BK101, BK102, HK, HB⟩ := n_; (try clear hb); (try clear hb2); (try clear hk); (try clear hi); (try clear ho0); obtain ⟨Ao36, co36, eo36⟩ := Kd.R_slice HO105.out; subst eo36) | ((with_reducible refine gate_dst (N := 5) rfl ?_); refine box_event zr (N := 5) zr (cs := #[.slice none 0 0]) (t := 26) zg ?_; intro gb106 hg w37 hbox hb; have n0_ := Aside0.mk (Kd.R_below (zR HO1_0.out) hb); have n1_ := Aside0.mk (Kd.R_below (zR HO105.out) hb); have n2_ := Aside0.mk (IsS65.below (zI) hb); have n3_ := Aside0.mk (zb BK101.out hb); have n4_ := Aside0.mk (zb BK102.out hb); have n5_ := Aside0.mk (Kept.below (S := (fun k_ => (P1_0_ k_) ∨ k_ = g)) (zJ) hb); have n6_ := Aside0.mk (below_step (zB) hb); have n7_ := Aside0.mk (hbox); have n8_ := Aside0.mk ((by rw [hg]; exact (by first | exact HK.out.1 | exact (show Kept w _ (fun k_ => (P1_0_ k_) ∨ k_ = g) from zJ).1) : w.heap.size ≤ gb106)); have n9_ := Aside0.mk ((zS hg : w0.heap.size ≤ gb106)); have n10_ := Aside0.mk ((zL hg BK101.out : gb101 ≠ gb106)); have n11_ := Aside0.mk ((zM hg BK101.out : gb106 ≠ gb101)); have n12_ := Aside0.mk ((zL hg BK102.out : gb102 ≠ gb106)); have n13_ := Aside0.mk ((zM hg BK102.out : gb106 ≠ gb102)); have n14_ := Aside0.mk ((by rw [hg]; exact Nat.ne_of_lt (IsS65.lt (show IsS65 w0 _ g s0_0 s0_1 s0_2 from zI)) : g ≠ gb106)); have n15_ := Aside0.mk ((by rw [hg]; exact Nat.ne_of_gt (IsS65.lt (show IsS65 w0 _ g s0_0 s0_1 s0_2 from zI)) : gb106 ≠ g)); clear HO1_0; clear HO105; clear HI0; clear BK101; clear BK102; clear HK; clear HB; have HO1_0 := n0_; have HO105 := n1_; have HI0 := n2_; have BK101 := n3_; have BK102 := n4_; have HK := n5_; have HB := n6_; have BK106 := n7_; have GW106 := n8_; have GE106 := n9_; have NB101_106 := n10_; have NB106_101 := n11_; have NB102_106 := n12_; have NB106_102 := n13_; have NB0_106 := n14_; have NB106_0 := n15_; clear n0_ n1_ n2_ n3_ n4_ n5_ n6_ n7_ n8_ n9_ n10_ n11_ n12_ n13_ n14_ n15_; clear hb hbox hg; have hnb38 := NB106_101.out; have hnc38 := NB101_106.out; have hnb39 := NB106_102.out; have hnc39 := NB102_106.out; have hnb40 := NB106_0.out; have hnc40 := NB0_106.out; have hcz41_0 := zc BK106.out; have hfz41_0 := blk_frozen BK106.out 0) | ((with_reducible refine gate_callee (f := 45) rfl ?_); refine goesL_ (some 11) rfl rfl Try.func45 zk rfl #[.pointer (some ⟨g, 0, none⟩), .int .i64 50] rfl zA ?_; (with_reducible refine (spec_l01Next.calls g s0_0 s0_1 s0_2 50 t107 t108 t109 w0 _ ?side1 ?side2 A4.out).mono ?_); (case side1 => exact zI); (case side2 => exact zB); rintro e w42 ⟨rfl, hi, hb, hk⟩; refine ⟨_, rfl, ?_⟩; have n_ := y8 (Kd.R_mono (Kd.R_keep (IsS65.apart (show IsS65 w0 _ g s0_0 s0_1 s0_2 from zI) (by refine zR ?_; exact (Kd.R_mono (Kd.R_far (p := ⟨gb106, 0, none⟩) (Kd.R_types HO1_0.out BK106.out (by decide)) (fun _ hk => hk.2) (.slice Ao36 t103.length co36)) (fun _ h_ => h_.1))) (by decide)) hk (fun _ h => h.2)) (fun _ h => h.1)) (KeepBut.blk hk (g' := gb101) (o := .cells #[.slice Ao29 l1_0.length co29] 26 (0, 0)) (by refine zG ?_; refine blk_far ?_ NB101_106.out _; refine zG ?_; exact BK101.out) NB101_0.out (by simp)) (KeepBut.blk hk (g' := gb102) (o := .cells #[.slice none 0 0] 26 (0, 0)) (by refine zG ?_; refine blk_far ?_ NB102_106.out _; refine zG ?_; exact BK102.out) NB102_0.out (by simp)) (Kd.R_mono (Kd.R_keep (IsS65.apart (show IsS65 w0 _ g s0_0 s0_1 s0_2 from zI) (by refine zR ?_; exact (Kd.R_mono (Kd.R_far (p := ⟨gb106, 0, none⟩) (Kd.R_types HO105.out BK106.out (by decide)) (fun _ hk => hk.2) (.slice Ao36 t103.length co36)) (fun _ h_ => h_.1))) (by decide)) hk (fun _ h => h.2)) (fun _ h => h.1)) (KeepBut.blk hk (g' := gb106) (o := .cells #[.slice Ao36 t103.length co36] 26 (0, 0)) (by refine zG ?_; refine blk_put (cs := #[.slice none 0 0]) ?_ 0 _ rfl; refine zG ?_; exact BK106.out) NB106_0.out (by simp)) (Kept.of_keep (S := (fun k_ => (P1_0_ k_) ∨ k_ = g)) (zJ) hk (.inl (.inr rfl))) (hb) (hi); clear HO1_0 BK101 BK102 HO105 BK106 HK HB HI0; obtain ⟨HO1_0, BK101, BK102, HO105, BK106, HK, HB, HI0⟩ := n_; (try clear hb); (try clear hb2); (try clear hk); (try clear hi)))
  have n_ := y8 (Kd.R_drew HO1_0.out) (Kd.R_drew HO105.out) (blk_drew BK101.out) (blk_drew BK102.out) (blk_drew BK106.out) (IsS65.drew HI0.out) (Kept.drew HK.out) (below_drew1 HB.out)
  clear HO1_0 HO105 BK101 BK102 BK106 HI0 HK HB
  obtain ⟨HO1_0, HO105, BK101, BK102, BK106, HI0, HK, HB⟩ := n_
  refine start_ (n := 11) (S := fun w' => w'.cell? ⟨gb106, 0, none⟩ = some (.slice Ao36 t103.length co36) ∧ w'.cell? ⟨gb101, 0, none⟩ = some (.slice Ao29 l1_0.length co29)) (ds := [10]) #[false,false,false,false,false,false,false,false,false,false,false] zk rfl rfl ⟨(blk_cell BK106.out 0).trans rfl, (blk_cell BK101.out 0).trans rfl⟩ (fun hHeld => ?_); refine with_tabW spec_l01Bad.tab6 spec_l01Bad.bits6 (fun HT_ HW_ => ?_)
  generalize w42.drew = w43 at HO1_0 HO105 BK101 BK102 BK106 HI0 HK HB hHeld ⊢
  refine pure_ (i := 0) (N := some 17) (v := ?_) (a' := ?_) #[true,false,false,false,false,false,false,false,false,false,false] rfl rfl (any_of HT_.out zk) (fun _ _ _ h => h) (Or.inl ⟨by rfl, ?_⟩) ?_ ?_
  rotate_left; exact zp; rotate_left; exact zq
  refine pure_ (i := 2) (N := some 19) (v := ?_) (a' := ?_) #[true,false,true,false,false,false,false,false,false,false,false] rfl rfl (any_of HT_.out zk) (fun _ _ _ h => h) (Or.inl ⟨by rfl, ?_⟩) ?_ ?_
  rotate_left; exact zp; rotate_left; exact zq
  refine pure_ (i := 6) (N := some 23) (v := ?_) (a' := ?_) #[true,false,true,false,false,false,true,false,false,false,false] rfl rfl (any_of HT_.out zk) (fun _ _ _ h => h) (Or.inl ⟨by rfl, ?_⟩) ?_ ?_
  rotate_left; exact zp; rotate_left; exact zq
  refine take_ (i := 1) (N := some 18) (v := ?_) (a' := ?_) #[true,true,true,false,false,false,true,false,false,false,false] rfl rfl (take_ofW HT_.out HW_.out zk) (fun _ _ _ h => h) (Or.inl ⟨by rfl, ?_⟩) hHeld ?_ ?_
  rotate_left
  ·
   rintro w' ⟨s0, s1⟩
   go_simp
   with_reducible rfl
  rotate_left
  ·
   simp only [Act.put, List.setIfInBounds_toArray, List.set_cons_zero, List.set_cons_succ, i64_w, i32_w]
   rfl
  refine take_ (i := 3) (N := some 20) (v := ?_) (a' := ?_) #[true,true,true,true,false,false,true,false,false,false,false] rfl rfl (take_ofW HT_.out HW_.out zk) (fun _ _ _ h => h) (Or.inl ⟨by rfl, ?_⟩) hHeld ?_ ?_
  rotate_left
  ·
   rintro w' ⟨s0, s1⟩
   go_simp
   with_reducible rfl
  rotate_left
  ·
   simp only [Act.put, List.setIfInBounds_toArray, List.set_cons_zero, List.set_cons_succ, i64_w, i32_w]
   rfl
  refine join_ (σ := Value) 3 #[true,true,true,true,true,true,true,true,false,false,false] (fun s_ => [(21, .int .i64 t110), (22, .int .i64 t111), (24, s_)]) (fun s_ w' => (w'.cell? ⟨gb106, 0, none⟩ = some (.slice Ao36 t103.length co36) ∧ w'.cell? ⟨gb101, 0, none⟩ = some (.slice Ao29 l1_0.length co29)) ∧ (Kd.R (Kd.int .i64) 2 w' w0.heap.size (fun k_ => (P1_0_ k_ ∨ w.heap.size ≤ k_) ∧ some k_ ≠ (s_ : Value).ownBlock ∧ some k_ ≠ (.slice Ao29 l1_0.length co29 : Value).ownBlock) (.slice Ao36 t103.length co36) t103) ∧ (Kd.R (Kd.int .i64) 2 w' w0.heap.size (fun k_ => (P1_0_ k_ ∨ w.heap.size ≤ k_) ∧ some k_ ≠ (.slice Ao36 t103.length co36 : Value).ownBlock ∧ some k_ ≠ (.slice Ao29 l1_0.length co29 : Value).ownBlock) s_ y114) ∧ (Kd.R (Kd.int .i64) 2 w' w0.heap.size (fun k_ => (P1_0_ k_ ∨ w.heap.size ≤ k_) ∧ some k_ ≠ (.slice Ao36 t103.length co36 : Value).ownBlock ∧ some k_ ≠ (s_ : Value).ownBlock) (.slice Ao29 l1_0.length co29) l1_0) ∧ (w'.heap[gb101]? = some (.cells #[.slice Ao29 l1_0.length co29] 26 (0, 0))) ∧ (w'.heap[gb102]? = some (.cells #[.slice none 0 0] 26 (0, 0))) ∧ (w'.heap[gb106]? = some (.cells #[.slice Ao36 t103.length co36] 26 (0, 0))) ∧ (IsS65 w0 w' g s0_0 t112 t113) ∧ (Kept w w' (fun k_ => (P1_0_ k_) ∨ k_ = g)) ∧ (Below w0.heap.size w0 w')) ?_ ?_
  rotate_left
  ·
   intro hCont
   refine two_ (i := 4) (j := 7) (Ni := some 21) (Nj := some 24) #[true,true,true,true,true,false,true,false,false,false,false] #[true,true,true,true,false,false,true,true,false,false,false] rfl rfl rfl rfl (two_of HT_.out zk) (by decide) (by decide) (fun K hK => ?_) (fun K hK => ?_)
   ·
    skip
    refine goes_ Try.func46 zk rfl #[.agg #[.slice Ao29 l1_0.length co29]] (by rfl) rfl rfl zA ?_
    with_reducible refine (spec_l01K.calls _ _ l1_0 t110 _ ?side1 ?side2 A23.out).mono ?_
    (case side1 => exact zC (Kd.R_reads' HO1_0.out).2.2)
    (case side2 => exact (Kd.R_reads' HO1_0.out).2.1)
    rintro e w44 ⟨rfl, hb⟩
    refine ⟨_, rfl, ?_⟩
    have n_ := y8 (Kd.R_below (zR HO1_0.out) hb) (Kd.R_below (zR HO105.out) hb) (IsS65.below (zI) hb) (zb BK101.out hb) (zb BK102.out hb) (zb BK106.out hb) (Kept.below (S := (fun k_ => (P1_0_ k_) ∨ k_ = g)) (zJ) hb) (below_step (zB) hb)
    clear HO1_0 HO105 HI0 BK101 BK102 BK106 HK HB
    obtain ⟨HO1_0, HO105, HI0, BK101, BK102, BK106, HK, HB⟩ := n_
    (try clear hb)
    (try clear hb2)
    (try clear hk)
    (try clear hi)
    refine hK.out _ _ ⟨(blk_cell BK106.out 0).trans rfl, (blk_cell BK101.out 0).trans rfl⟩ (fun hHeld => ?_)
    clear hK K
    refine norm_ (a' := ?_) ?_ ?_
    rotate_left
    ·
     show Act.put _ (some 21) _ = _
     simp only [Act.put, List.setIfInBounds_toArray, List.set_cons_zero, List.set_cons_succ, i64_w, i32_w]
     rfl
    refine two_ (i := 5) (j := 7) (Ni := some 22) (Nj := some 24) #[true,true,true,true,true,true,true,false,false,false,false] #[true,true,true,true,true,false,true,true,false,false,false] rfl rfl rfl rfl (two_of HT_.out zk) (by decide) (by decide) (fun K hK => ?_) (fun K hK => ?_)
    ·
     skip
     refine goes_ Try.func45 zk rfl #[.pointer (some ⟨g, 0, none⟩), .int .i64 t110] (by rfl) rfl rfl zA ?_
     with_reducible refine (spec_l01Next.calls g s0_0 t108 t109 t110 t111 t112 t113 w0 _ ?side1 ?side2 A24.out).mono ?_
     (case side1 => exact zI)
     (case side2 => exact zB)
     rintro e w45 ⟨rfl, hi, hb, hk⟩
     refine ⟨_, rfl, ?_⟩
     have n_ := y8 (Kd.R_mono (Kd.R_keep (IsS65.apart (show IsS65 w0 _ g s0_0 t108 t109 from zI) (zR HO1_0.out) (by decide)) hk (fun _ h => h.2)) (fun _ h => h.1)) (KeepBut.blk hk (g' := gb101) (o := .cells #[.slice Ao29 l1_0.length co29] 26 (0, 0)) (zG BK101.out) NB101_0.out (by simp)) (KeepBut.blk hk (g' := gb102) (o := .cells #[.slice none 0 0] 26 (0, 0)) (zG BK102.out) NB102_0.out (by simp)) (Kd.R_mono (Kd.R_keep (IsS65.apart (show IsS65 w0 _ g s0_0 t108 t109 from zI) (zR HO105.out) (by decide)) hk (fun _ h => h.2)) (fun _ h => h.1)) (KeepBut.blk hk (g' := gb106) (o := .cells #[.slice Ao36 t103.length co36] 26 (0, 0)) (zG BK106.out) NB106_0.out (by simp)) (Kept.of_keep (S := (fun k_ => (P1_0_ k_) ∨ k_ = g)) (zJ) hk (.inl (.inr rfl))) (hb) (hi)
     clear HO1_0 BK101 BK102 HO105 BK106 HK HB HI0
     obtain ⟨HO1_0, BK101, BK102, HO105, BK106, HK, HB, HI0⟩ := n_
     (try clear hb)
     (try clear hb2)
     (try clear hk)
     (try clear hi)
     refine hK.out _ _ ⟨(blk_cell BK106.out 0).trans rfl, (blk_cell BK101.out 0).trans rfl⟩ (fun hHeld => ?_)
     clear hK K
     refine norm_ (a' := ?_) ?_ ?_
     rotate_left
     ·
      show Act.put _ (some 22) _ = _
      simp only [Act.put, List.setIfInBounds_toArray, List.set_cons_zero, List.set_cons_succ, i64_w, i32_w]
      rfl
     refine one_ (i := 7) (N := some 24) #[true,true,true,true,true,true,true,true,false,false,false] rfl rfl (one_of HT_.out zk) (by decide) (fun K hK => ?_)
     refine Kd.R_lit_step (Kd.int .i64) _ 2 ?hg (N := 24) ?hd (xs := ([0, 41, (-1), 1099511627776] : List Int)) (inner := [.int .i64 0, .int .i64 41, .int .i64 (-1), .int .i64 1099511627776]) (ok := fun _ => True) (okp := fun _ => True) ?hr ?hp (fun _ hk => hk) trivial (Below.refl _ _) (Nat.le_refl _) (by simp) ?_; (case hd => rfl); (case hg => rfl); (case hr => first | (go_simp; done) | (go_simp; rfl)); (case hp => exact (Reps.one (show Kd.M (Kd.int .i64) _ _ _ 0 [.int .i64 0] from rfl) (Reps.one (show Kd.M (Kd.int .i64) _ _ _ 41 [.int .i64 41] from rfl) (Reps.one (show Kd.M (Kd.int .i64) _ _ _ (-1) [.int .i64 (-1)] from rfl) (Reps.one (show Kd.M (Kd.int .i64) _ _ _ 1099511627776 [.int .i64 1099511627776] from rfl) (Reps.none _ _))))))
     intro v115 w46 ho47 hb hg_ hnew_
     clear hg_ hnew_
     (first | rw [← Ny114.out] at ho47 | (simp only [Int.reduceToNat] at ho47; rw [← Ny114.out] at ho47))
     have n_ := y9 (Kd.R_elder' (zR HO1_0.out) (Kd.R_base ho47) hb) (Kd.R_elder' (zR HO105.out) (Kd.R_base ho47) hb) (Kd.R_lower (Kd.R_new' (Kd.R_new' (Kd.R_newM (M := fun k_ => (P1_0_ k_ ∨ w.heap.size ≤ k_)) ho47 (by first | exact HK.out.1 | exact (show Kept w _ (fun k_ => (P1_0_ k_) ∨ k_ = g) from zJ).1) (fun k_ h_ => .inr h_)) (Kd.R_lt (zR HO1_0.out))) (Kd.R_lt (zR HO105.out))) (below_size (zB))) (IsS65.below (zI) hb) (zb BK101.out hb) (zb BK102.out hb) (zb BK106.out hb) (Kept.below (S := (fun k_ => (P1_0_ k_) ∨ k_ = g)) (zJ) hb) (below_step (zB) hb)
     clear HO1_0 HO105 HI0 BK101 BK102 BK106 HK HB
     obtain ⟨HO1_0, HO105, HO116, HI0, BK101, BK102, BK106, HK, HB⟩ := n_
     clear hb ho47
     refine hK.out _ _ ⟨(blk_cell BK106.out 0).trans rfl, (blk_cell BK101.out 0).trans rfl⟩ (fun hHeld => ?_)
     clear hK K
     refine norm_ (a' := ?_) ?_ ?_
     rotate_left
     ·
      show Act.put _ (some 24) _ = _
      simp only [Act.put, List.setIfInBounds_toArray, List.set_cons_zero, List.set_cons_succ, i64_w, i32_w]
      rfl
     exact norm_ (by simp only [putAll, Act.put, List.setIfInBounds_toArray, List.set_cons_zero, List.set_cons_succ]) (hCont (v115) _ ⟨hHeld, (by refine zR ?_; exact Kd.R_mono HO105.out (fun _ hk => ⟨hk.1.1.1, ⟨hk.2, hk.1.2⟩⟩)), (by refine zR ?_; exact Kd.R_mono HO116.out (fun _ hk => ⟨hk.1.1.1, ⟨hk.2, hk.1.2⟩⟩)), (by refine zR ?_; exact Kd.R_mono HO1_0.out (fun _ hk => ⟨hk.1.1, ⟨hk.1.2, hk.2⟩⟩)), (zG BK101.out), (zG BK102.out), (zG BK106.out), (zI), (zJ), (zB)⟩)
    skip
    refine Kd.R_lit_step (Kd.int .i64) _ 2 ?hg (N := 24) ?hd (xs := ([0, 41, (-1), 1099511627776] : List Int)) (inner := [.int .i64 0, .int .i64 41, .int .i64 (-1), .int .i64 1099511627776]) (ok := fun _ => True) (okp := fun _ => True) ?hr ?hp (fun _ hk => hk) trivial (Below.refl _ _) (Nat.le_refl _) (by simp) ?_; (case hd => rfl); (case hg => rfl); (case hr => first | (go_simp; done) | (go_simp; rfl)); (case hp => exact (Reps.one (show Kd.M (Kd.int .i64) _ _ _ 0 [.int .i64 0] from rfl) (Reps.one (show Kd.M (Kd.int .i64) _ _ _ 41 [.int .i64 41] from rfl) (Reps.one (show Kd.M (Kd.int .i64) _ _ _ (-1) [.int .i64 (-1)] from rfl) (Reps.one (show Kd.M (Kd.int .i64) _ _ _ 1099511627776 [.int .i64 1099511627776] from rfl) (Reps.none _ _))))))
    intro v115 w45 ho46 hb hg_ hnew_
    clear hg_ hnew_
    (first | rw [← Ny114.out] at ho46 | (simp only [Int.reduceToNat] at ho46; rw [← Ny114.out] at ho46))
    have n_ := y9 (Kd.R_elder' (zR HO1_0.out) (Kd.R_base ho46) hb) (Kd.R_elder' (zR HO105.out) (Kd.R_base ho46) hb) (Kd.R_lower (Kd.R_new' (Kd.R_new' (Kd.R_newM (M := fun k_ => (P1_0_ k_ ∨ w.heap.size ≤ k_)) ho46 (by first | exact HK.out.1 | exact (show Kept w _ (fun k_ => (P1_0_ k_) ∨ k_ = g) from zJ).1) (fun k_ h_ => .inr h_)) (Kd.R_lt (zR HO1_0.out))) (Kd.R_lt (zR HO105.out))) (below_size (zB))) (IsS65.below (zI) hb) (zb BK101.out hb) (zb BK102.out hb) (zb BK106.out hb) (Kept.below (S := (fun k_ => (P1_0_ k_) ∨ k_ = g)) (zJ) hb) (below_step (zB) hb)
    clear HO1_0 HO105 HI0 BK101 BK102 BK106 HK HB
    obtain ⟨HO1_0, HO105, HO116, HI0, BK101, BK102, BK106, HK, HB⟩ := n_
    clear hb ho46
    refine hK.out _ _ ⟨(blk_cell BK106.out 0).trans rfl, (blk_cell BK101.out 0).trans rfl⟩ (fun hHeld => ?_)
    clear hK K
    refine norm_ (a' := ?_) ?_ ?_
    rotate_left
    ·
     show Act.put _ (some 24) _ = _
     simp only [Act.put, List.setIfInBounds_toArray, List.set_cons_zero, List.set_cons_succ, i64_w, i32_w]
     rfl
    refine one_ (i := 5) (N := some 22) #[true,true,true,true,true,true,true,true,false,false,false] rfl rfl (one_of HT_.out zk) (by decide) (fun K hK => ?_)
    refine goes_ Try.func45 zk rfl #[.pointer (some ⟨g, 0, none⟩), .int .i64 t110] (by rfl) rfl rfl zA ?_
    with_reducible refine (spec_l01Next.calls g s0_0 t108 t109 t110 t111 t112 t113 w0 _ ?side1 ?side2 A24.out).mono ?_
    (case side1 => exact zI)
    (case side2 => exact zB)
    rintro e w47 ⟨rfl, hi, hb, hk⟩
    refine ⟨_, rfl, ?_⟩
    have n_ := y9 (Kd.R_mono (Kd.R_keep (IsS65.apart (show IsS65 w0 _ g s0_0 t108 t109 from zI) (zR HO1_0.out) (by decide)) hk (fun _ h => h.2)) (fun _ h => h.1)) (KeepBut.blk hk (g' := gb101) (o := .cells #[.slice Ao29 l1_0.length co29] 26 (0, 0)) (zG BK101.out) NB101_0.out (by simp)) (KeepBut.blk hk (g' := gb102) (o := .cells #[.slice none 0 0] 26 (0, 0)) (zG BK102.out) NB102_0.out (by simp)) (Kd.R_mono (Kd.R_keep (IsS65.apart (show IsS65 w0 _ g s0_0 t108 t109 from zI) (zR HO105.out) (by decide)) hk (fun _ h => h.2)) (fun _ h => h.1)) (KeepBut.blk hk (g' := gb106) (o := .cells #[.slice Ao36 t103.length co36] 26 (0, 0)) (zG BK106.out) NB106_0.out (by simp)) (Kd.R_mono (Kd.R_keep (IsS65.apart (show IsS65 w0 _ g s0_0 t108 t109 from zI) (zR HO116.out) (by decide)) hk (fun _ h => h.2)) (fun _ h => h.1)) (Kept.of_keep (S := (fun k_ => (P1_0_ k_) ∨ k_ = g)) (zJ) hk (.inl (.inr rfl))) (hb) (hi)
    clear HO1_0 BK101 BK102 HO105 BK106 HO116 HK HB HI0
    obtain ⟨HO1_0, BK101, BK102, HO105, BK106, HO116, HK, HB, HI0⟩ := n_
    (try clear hb)
    (try clear hb2)
    (try clear hk)
    (try clear hi)
    refine hK.out _ _ ⟨(blk_cell BK106.out 0).trans rfl, (blk_cell BK101.out 0).trans rfl⟩ (fun hHeld => ?_)
    clear hK K
    refine norm_ (a' := ?_) ?_ ?_
    rotate_left
    ·
     show Act.put _ (some 22) _ = _
     simp only [Act.put, List.setIfInBounds_toArray, List.set_cons_zero, List.set_cons_succ, i64_w, i32_w]
     rfl
    exact norm_ (by simp only [putAll, Act.put, List.setIfInBounds_toArray, List.set_cons_zero, List.set_cons_succ]) (hCont (v115) _ ⟨hHeld, (by refine zR ?_; exact Kd.R_mono HO105.out (fun _ hk => ⟨hk.1.1.1, ⟨hk.2, hk.1.2⟩⟩)), (by refine zR ?_; exact Kd.R_mono HO116.out (fun _ hk => ⟨hk.1.1.1, ⟨hk.2, hk.1.2⟩⟩)), (by refine zR ?_; exact Kd.R_mono HO1_0.out (fun _ hk => ⟨hk.1.1, ⟨hk.1.2, hk.2⟩⟩)), (zG BK101.out), (zG BK102.out), (zG BK106.out), (zI), (zJ), (zB)⟩)
   skip
   refine Kd.R_lit_step (Kd.int .i64) _ 2 ?hg (N := 24) ?hd (xs := ([0, 41, (-1), 1099511627776] : List Int)) (inner := [.int .i64 0, .int .i64 41, .int .i64 (-1), .int .i64 1099511627776]) (ok := fun _ => True) (okp := fun _ => True) ?hr ?hp (fun _ hk => hk) trivial (Below.refl _ _) (Nat.le_refl _) (by simp) ?_; (case hd => rfl); (case hg => rfl); (case hr => first | (go_simp; done) | (go_simp; rfl)); (case hp => exact (Reps.one (show Kd.M (Kd.int .i64) _ _ _ 0 [.int .i64 0] from rfl) (Reps.one (show Kd.M (Kd.int .i64) _ _ _ 41 [.int .i64 41] from rfl) (Reps.one (show Kd.M (Kd.int .i64) _ _ _ (-1) [.int .i64 (-1)] from rfl) (Reps.one (show Kd.M (Kd.int .i64) _ _ _ 1099511627776 [.int .i64 1099511627776] from rfl) (Reps.none _ _))))))
   intro v115 w44 ho45 hb hg_ hnew_
   clear hg_ hnew_
   (first | rw [← Ny114.out] at ho45 | (simp only [Int.reduceToNat] at ho45; rw [← Ny114.out] at ho45))
   have n_ := y9 (Kd.R_elder' (zR HO1_0.out) (Kd.R_base ho45) hb) (Kd.R_elder' (zR HO105.out) (Kd.R_base ho45) hb) (Kd.R_lower (Kd.R_new' (Kd.R_new' (Kd.R_newM (M := fun k_ => (P1_0_ k_ ∨ w.heap.size ≤ k_)) ho45 (by first | exact HK.out.1 | exact (show Kept w _ (fun k_ => (P1_0_ k_) ∨ k_ = g) from zJ).1) (fun k_ h_ => .inr h_)) (Kd.R_lt (zR HO1_0.out))) (Kd.R_lt (zR HO105.out))) (below_size (zB))) (IsS65.below (zI) hb) (zb BK101.out hb) (zb BK102.out hb) (zb BK106.out hb) (Kept.below (S := (fun k_ => (P1_0_ k_) ∨ k_ = g)) (zJ) hb) (below_step (zB) hb)
   clear HO1_0 HO105 HI0 BK101 BK102 BK106 HK HB
   obtain ⟨HO1_0, HO105, HO116, HI0, BK101, BK102, BK106, HK, HB⟩ := n_
   clear hb ho45
   refine hK.out _ _ ⟨(blk_cell BK106.out 0).trans rfl, (blk_cell BK101.out 0).trans rfl⟩ (fun hHeld => ?_)
   clear hK K
   refine norm_ (a' := ?_) ?_ ?_
   rotate_left
   ·
    show Act.put _ (some 24) _ = _
    simp only [Act.put, List.setIfInBounds_toArray, List.set_cons_zero, List.set_cons_succ, i64_w, i32_w]
    rfl
   refine one_ (i := 4) (N := some 21) #[true,true,true,true,true,false,true,true,false,false,false] rfl rfl (one_of HT_.out zk) (by decide) (fun K hK => ?_)
   refine goes_ Try.func46 zk rfl #[.agg #[.slice Ao29 l1_0.length co29]] (by rfl) rfl rfl zA ?_
   with_reducible refine (spec_l01K.calls _ _ l1_0 t110 _ ?side1 ?side2 A23.out).mono ?_
   (case side1 => exact zC (Kd.R_reads' HO1_0.out).2.2)
   (case side2 => exact (Kd.R_reads' HO1_0.out).2.1)
   rintro e w46 ⟨rfl, hb⟩
   refine ⟨_, rfl, ?_⟩
   have n_ := y9 (Kd.R_below (zR HO1_0.out) hb) (Kd.R_below (zR HO105.out) hb) (Kd.R_below (zR HO116.out) hb) (IsS65.below (zI) hb) (zb BK101.out hb) (zb BK102.out hb) (zb BK106.out hb) (Kept.below (S := (fun k_ => (P1_0_ k_) ∨ k_ = g)) (zJ) hb) (below_step (zB) hb)
   clear HO1_0 HO105 HO116 HI0 BK101 BK102 BK106 HK HB
   obtain ⟨HO1_0, HO105, HO116, HI0, BK101, BK102, BK106, HK, HB⟩ := n_
   (try clear hb)
   (try clear hb2)
   (try clear hk)
   (try clear hi)
   refine hK.out _ _ ⟨(blk_cell BK106.out 0).trans rfl, (blk_cell BK101.out 0).trans rfl⟩ (fun hHeld => ?_)
   clear hK K
   refine norm_ (a' := ?_) ?_ ?_
   rotate_left
   ·
    show Act.put _ (some 21) _ = _
    simp only [Act.put, List.setIfInBounds_toArray, List.set_cons_zero, List.set_cons_succ, i64_w, i32_w]
    rfl
   refine one_ (i := 5) (N := some 22) #[true,true,true,true,true,true,true,true,false,false,false] rfl rfl (one_of HT_.out zk) (by decide) (fun K hK => ?_)
   refine goes_ Try.func45 zk rfl #[.pointer (some ⟨g, 0, none⟩), .int .i64 t110] (by rfl) rfl rfl zA ?_
   with_reducible refine (spec_l01Next.calls g s0_0 t108 t109 t110 t111 t112 t113 w0 _ ?side1 ?side2 A24.out).mono ?_
   (case side1 => exact zI)
   (case side2 => exact zB)
   rintro e w47 ⟨rfl, hi, hb, hk⟩
   refine ⟨_, rfl, ?_⟩
   have n_ := y9 (Kd.R_mono (Kd.R_keep (IsS65.apart (show IsS65 w0 _ g s0_0 t108 t109 from zI) (zR HO1_0.out) (by decide)) hk (fun _ h => h.2)) (fun _ h => h.1)) (KeepBut.blk hk (g' := gb101) (o := .cells #[.slice Ao29 l1_0.length co29] 26 (0, 0)) (zG BK101.out) NB101_0.out (by simp)) (KeepBut.blk hk (g' := gb102) (o := .cells #[.slice none 0 0] 26 (0, 0)) (zG BK102.out) NB102_0.out (by simp)) (Kd.R_mono (Kd.R_keep (IsS65.apart (show IsS65 w0 _ g s0_0 t108 t109 from zI) (zR HO105.out) (by decide)) hk (fun _ h => h.2)) (fun _ h => h.1)) (KeepBut.blk hk (g' := gb106) (o := .cells #[.slice Ao36 t103.length co36] 26 (0, 0)) (zG BK106.out) NB106_0.out (by simp)) (Kd.R_mono (Kd.R_keep (IsS65.apart (show IsS65 w0 _ g s0_0 t108 t109 from zI) (zR HO116.out) (by decide)) hk (fun _ h => h.2)) (fun _ h => h.1)) (Kept.of_keep (S := (fun k_ => (P1_0_ k_) ∨ k_ = g)) (zJ) hk (.inl (.inr rfl))) (hb) (hi)
   clear HO1_0 BK101 BK102 HO105 BK106 HO116 HK HB HI0
   obtain ⟨HO1_0, BK101, BK102, HO105, BK106, HO116, HK, HB, HI0⟩ := n_
   (try clear hb)
   (try clear hb2)
   (try clear hk)
   (try clear hi)
   refine hK.out _ _ ⟨(blk_cell BK106.out 0).trans rfl, (blk_cell BK101.out 0).trans rfl⟩ (fun hHeld => ?_)
   clear hK K
   refine norm_ (a' := ?_) ?_ ?_
   rotate_left
   ·
    show Act.put _ (some 22) _ = _
    simp only [Act.put, List.setIfInBounds_toArray, List.set_cons_zero, List.set_cons_succ, i64_w, i32_w]
    rfl
   exact norm_ (by simp only [putAll, Act.put, List.setIfInBounds_toArray, List.set_cons_zero, List.set_cons_succ]) (hCont (v115) _ ⟨hHeld, (by refine zR ?_; exact Kd.R_mono HO105.out (fun _ hk => ⟨hk.1.1.1, ⟨hk.2, hk.1.2⟩⟩)), (by refine zR ?_; exact Kd.R_mono HO116.out (fun _ hk => ⟨hk.1.1.1, ⟨hk.2, hk.1.2⟩⟩)), (by refine zR ?_; exact Kd.R_mono HO1_0.out (fun _ hk => ⟨hk.1.1, ⟨hk.1.2, hk.2⟩⟩)), (zG BK101.out), (zG BK102.out), (zG BK106.out), (zI), (zJ), (zB)⟩)
  rintro v115 w48 ⟨hS_, h0_, h1_, h2_, h3_, h4_, h5_, h6_, h7_, h8_⟩
  have n0_ : Aside0 (Kd.R (Kd.int .i64) 2 w48 w0.heap.size (fun k_ => (P1_0_ k_ ∨ w.heap.size ≤ k_) ∧ some k_ ≠ (v115 : Value).ownBlock ∧ some k_ ≠ (.slice Ao29 l1_0.length co29 : Value).ownBlock) (.slice Ao36 t103.length co36) t103) := ⟨h0_⟩
  have n1_ : Aside0 (Kd.R (Kd.int .i64) 2 w48 w0.heap.size (fun k_ => (P1_0_ k_ ∨ w.heap.size ≤ k_) ∧ some k_ ≠ (.slice Ao36 t103.length co36 : Value).ownBlock ∧ some k_ ≠ (.slice Ao29 l1_0.length co29 : Value).ownBlock) v115 y114) := ⟨h1_⟩
  have n2_ : Aside0 (Kd.R (Kd.int .i64) 2 w48 w0.heap.size (fun k_ => (P1_0_ k_ ∨ w.heap.size ≤ k_) ∧ some k_ ≠ (.slice Ao36 t103.length co36 : Value).ownBlock ∧ some k_ ≠ (v115 : Value).ownBlock) (.slice Ao29 l1_0.length co29) l1_0) := ⟨h2_⟩
  have n3_ : Aside0 (w48.heap[gb101]? = some (.cells #[.slice Ao29 l1_0.length co29] 26 (0, 0))) := ⟨h3_⟩
  have n4_ : Aside0 (w48.heap[gb102]? = some (.cells #[.slice none 0 0] 26 (0, 0))) := ⟨h4_⟩
  have n5_ : Aside0 (w48.heap[gb106]? = some (.cells #[.slice Ao36 t103.length co36] 26 (0, 0))) := ⟨h5_⟩
  have n6_ : Aside0 (IsS65 w0 w48 g s0_0 t112 t113) := ⟨h6_⟩
  have n7_ : Aside0 (Kept w w48 (fun k_ => (P1_0_ k_) ∨ k_ = g)) := ⟨h7_⟩
  have n8_ : Aside0 (Below w0.heap.size w0 w48) := ⟨h8_⟩
  clear HO1_0
  clear HO105
  clear BK101
  clear BK102
  clear BK106
  clear HI0
  clear HK
  clear HB
  clear h0_ h1_ h2_ h3_ h4_ h5_ h6_ h7_ h8_
  have HO105 := n0_
  have HO116 := n1_
  have HO1_0 := n2_
  have BK101 := n3_
  have BK102 := n4_
  have BK106 := n5_
  have HI0 := n6_
  have HK := n7_
  have HB := n8_
  clear n0_ n1_ n2_ n3_ n4_ n5_ n6_ n7_ n8_
  have hHeld : w48.cell? ⟨gb106, 0, none⟩ = some (.slice Ao36 t103.length co36) ∧ w48.cell? ⟨gb101, 0, none⟩ = some (.slice Ao29 l1_0.length co29) := hS_
  obtain ⟨Ao49, co49, eo49⟩ := Kd.R_slice HO116.out
  (first | subst eo49 | (injection eo49 with f1_ f2_ f3_; have f4_ := f1_.symm; have f5_ := f3_.symm; clear f1_ f2_ f3_; subst f4_; subst f5_))
  refine norm_ (a' := ?_) ?_ ?_
  rotate_left
  ·
   simp only [putAll, Act.put, List.setIfInBounds_toArray, List.set_cons_zero, List.set_cons_succ]
   rfl
  refine one_ (i := 8) (N := some 25) #[true,true,true,true,true,true,true,true,true,false,false] rfl rfl (one_of HT_.out zk) (by decide) (fun K hK => ?_)
  refine goes_ Try.func37 zk rfl #[.pointer (some ⟨g, 0, none⟩), .slice Ao49 y114.length co49] (by rfl) rfl rfl zA ?_
  with_reducible refine (spec_l01Pick.calls g s0_0 t112 t113 _ _ y114 t117 t118 t119 w0 _ ?side1 ?side2 ?side3 ?side4 ?side5 A25.out).mono ?_
  (case side1 => exact zI)
  (case side2 => exact zB)
  (case side3 => exact zC (Kd.R_reads' HO116.out).2.2)
  (case side4 => exact (Kd.R_reads' HO116.out).2.1)
  (case side5 => exact far_slice (IsS65.own_ne HI0.out HO116.out (by decide)))
  rintro e w50 ⟨rfl, hi, hb, hk⟩
  refine ⟨_, rfl, ?_⟩
  have n_ := y9 (Kd.R_mono (Kd.R_keep (IsS65.apart (show IsS65 w0 _ g s0_0 t112 t113 from zI) (zR HO1_0.out) (by decide)) hk (fun _ h => h.2)) (fun _ h => h.1)) (KeepBut.blk hk (g' := gb101) (o := .cells #[.slice Ao29 l1_0.length co29] 26 (0, 0)) (zG BK101.out) NB101_0.out (by simp)) (KeepBut.blk hk (g' := gb102) (o := .cells #[.slice none 0 0] 26 (0, 0)) (zG BK102.out) NB102_0.out (by simp)) (Kd.R_mono (Kd.R_keep (IsS65.apart (show IsS65 w0 _ g s0_0 t112 t113 from zI) (zR HO105.out) (by decide)) hk (fun _ h => h.2)) (fun _ h => h.1)) (KeepBut.blk hk (g' := gb106) (o := .cells #[.slice Ao36 t103.length co36] 26 (0, 0)) (zG BK106.out) NB106_0.out (by simp)) (Kd.R_mono (Kd.R_keep (IsS65.apart (show IsS65 w0 _ g s0_0 t112 t113 from zI) (zR HO116.out) (by decide)) hk (fun _ h => h.2)) (fun _ h => h.1)) (Kept.of_keep (S := (fun k_ => (P1_0_ k_) ∨ k_ = g)) (zJ) hk (.inl (.inr rfl))) (hb) (hi)
  clear HO1_0 BK101 BK102 HO105 BK106 HO116 HK HB HI0
  obtain ⟨HO1_0, BK101, BK102, HO105, BK106, HO116, HK, HB, HI0⟩ := n_
  (try clear hb)
  (try clear hb2)
  (try clear hk)
  (try clear hi)
  have p28 : 0 ≤ (t111 : Int) := zD
  have q28 : (t111 : Int) < ((t103.length : Int) : Int) := zD
  obtain ⟨go28, co28, eo28, gb28, gl28, cl28, HG28⟩ := Kd.R_form HO105.out (by omega)
  (first | cases eo28 | (injection eo28 with ea_ en_ ec_; (first | subst ea_ | (injection ea_ with ea_; subst ea_)); subst ec_; clear en_))
  have GB28 := Aside0.mk gb28
  have GG28 := Aside0.mk HG28
  clear gb28 gl28 HG28
  have HMgo28 := Aside0.mk (show (P1_0_ go28 ∨ w.heap.size ≤ go28) from (HO105.out.1 _ rfl).1)
  obtain ⟨hx28_0, hf28_0⟩ := Kd.R_celln 0 HO105.out (t111 : Int) p28 q28
  replace p28 := eq_true p28
  replace q28 := eq_true q28
  have HN0_go28 := Aside0.mk (show g ≠ go28 from by have h_ := IsS65.own_ne HI0.out HO105.out (by decide); intro e_; exact h_ (by rw [e_]; rfl))
  have HP51 := Kd.R_putn HO105.out (t111 : Int) t117
  rw [← Ny120.out] at HP51
  have HQ51 := Aside0.mk HP51
  clear HP51
  refine hK.out _ _ ⟨(blk_cell BK106.out 0).trans rfl, (blk_cell BK101.out 0).trans rfl⟩ (fun hHeld => ?_)
  clear hK K
  refine norm_ (a' := ?_) ?_ ?_
  rotate_left
  ·
   show Act.put _ (some 25) _ = _
   simp only [Act.put, List.setIfInBounds_toArray, List.set_cons_zero, List.set_cons_succ, i64_w, i32_w]
   rfl
  refine pure_ (i := 9) (N := some 26) (v := ?_) (a' := ?_) #[true,true,true,true,true,true,true,true,true,true,false] rfl rfl (any_of HT_.out zk) (fun _ _ _ h => h) (Or.inl ⟨by rfl, ?_⟩) ?_ ?_
  rotate_left; exact zp; rotate_left; exact zq
  refine last_ (i := 10) (N := none) #[true,true,true,true,true,true,true,true,true,true,true] rfl rfl (one_of HT_.out zk) (by decide) (fun K hK => ?_)
  refine skip_ (w1 := ?_) (by rfl) rfl ?_ ?_
  rotate_left
  ·
   go_simp
   rfl
  refine hK.out _ _ ?_
  clear hK K
  refine done_ (done_of HT_.out zk) ?_
  have n0_ : Aside0 (Kd.R (Kd.int .i64) 2 (w50.setCell ⟨go28, (t111 : Int).toNat, none⟩ (.int .i64 t117)) w0.heap.size (fun k_ => (P1_0_ k_ ∨ w.heap.size ≤ k_) ∧ some k_ ≠ (.slice (some ⟨go28, 0, none⟩) t103.length co36 : Value).ownBlock ∧ some k_ ≠ (.slice Ao49 y114.length co49 : Value).ownBlock) (.slice Ao29 l1_0.length co29) l1_0) := ⟨by refine zR ?_; exact Kd.R_mono (Kd.R_far (p := ⟨go28, (t111 : Int).toNat, none⟩) (Kd.R_mono HO1_0.out (fun k_ hk => (⟨hk, fun e_ => hk.2.1 (by rw [e_]; rfl)⟩ : _ ∧ k_ ≠ go28))) (fun _ hk => hk.2) (.int .i64 t117)) (fun _ hk => ⟨hk.1.1, ⟨hk.1.2.1, hk.1.2.2⟩⟩)⟩
  have n1_ : Aside0 (Kd.R (Kd.int .i64) 2 (w50.setCell ⟨go28, (t111 : Int).toNat, none⟩ (.int .i64 t117)) w0.heap.size (fun k_ => (P1_0_ k_ ∨ w.heap.size ≤ k_) ∧ some k_ ≠ (.slice Ao29 l1_0.length co29 : Value).ownBlock ∧ some k_ ≠ (.slice Ao49 y114.length co49 : Value).ownBlock) (.slice (some ⟨go28, 0, none⟩) t103.length co36) y120) := ⟨by refine zR ?_; exact Kd.R_mono HQ51.out (fun _ hk => ⟨hk.1, ⟨hk.2.2, hk.2.1⟩⟩)⟩
  have n2_ : Aside0 (Kd.R (Kd.int .i64) 2 (w50.setCell ⟨go28, (t111 : Int).toNat, none⟩ (.int .i64 t117)) w0.heap.size (fun k_ => (P1_0_ k_ ∨ w.heap.size ≤ k_) ∧ some k_ ≠ (.slice Ao29 l1_0.length co29 : Value).ownBlock ∧ some k_ ≠ (.slice (some ⟨go28, 0, none⟩) t103.length co36 : Value).ownBlock) (.slice Ao49 y114.length co49) y114) := ⟨by refine zR ?_; exact Kd.R_mono (Kd.R_far (p := ⟨go28, (t111 : Int).toNat, none⟩) (Kd.R_mono HO116.out (fun k_ hk => (⟨hk, fun e_ => hk.2.1 (by rw [e_]; rfl)⟩ : _ ∧ k_ ≠ go28))) (fun _ hk => hk.2) (.int .i64 t117)) (fun _ hk => ⟨hk.1.1, ⟨hk.1.2.2, hk.1.2.1⟩⟩)⟩
  have n3_ : Aside0 ((w50.setCell ⟨go28, (t111 : Int).toNat, none⟩ (.int .i64 t117)).heap[gb101]? = some (.cells #[.slice Ao29 l1_0.length co29] 26 (0, 0))) := ⟨by refine zG ?_; refine blk_far ?_ (by have h_ := Kd.R_ne HO105.out BK101.out (by decide); intro e_; exact h_ (by rw [e_]; rfl)) _; refine zG ?_; exact BK101.out⟩
  have n4_ : Aside0 ((w50.setCell ⟨go28, (t111 : Int).toNat, none⟩ (.int .i64 t117)).heap[gb102]? = some (.cells #[.slice none 0 0] 26 (0, 0))) := ⟨by refine zG ?_; refine blk_far ?_ (by have h_ := Kd.R_ne HO105.out BK102.out (by decide); intro e_; exact h_ (by rw [e_]; rfl)) _; refine zG ?_; exact BK102.out⟩
  have n5_ : Aside0 ((w50.setCell ⟨go28, (t111 : Int).toNat, none⟩ (.int .i64 t117)).heap[gb106]? = some (.cells #[.slice (some ⟨go28, 0, none⟩) t103.length co36] 26 (0, 0))) := ⟨by refine zG ?_; refine blk_far ?_ (by have h_ := Kd.R_ne HO105.out BK106.out (by decide); intro e_; exact h_ (by rw [e_]; rfl)) _; refine zG ?_; exact BK106.out⟩
  have n6_ : Aside0 (IsS65 w0 (w50.setCell ⟨go28, (t111 : Int).toNat, none⟩ (.int .i64 t117)) g s0_0 t118 t119) := ⟨zI⟩
  have n7_ : Aside0 (Kept w (w50.setCell ⟨go28, (t111 : Int).toNat, none⟩ (.int .i64 t117)) (fun k_ => (P1_0_ k_) ∨ k_ = g)) := ⟨by repeat (first | (with_reducible first | exact HK.out | apply Kept.alloc | apply Kept.drewN | apply Kept.drew | refine Kept.setCell ?_ (Or.imp_left Or.inl HMgo28.out) _ | refine Kept.setCell ?_ (.inl (.inr rfl)) _ | refine Kept.setCell ?_ (.inr GW101.out) _ | refine Kept.setCell ?_ (.inr GW102.out) _ | refine Kept.setCell ?_ (.inr GW106.out) _) | exact HK.out)⟩
  have n8_ : Aside0 (Below w0.heap.size w0 (w50.setCell ⟨go28, (t111 : Int).toNat, none⟩ (.int .i64 t117))) := ⟨zB⟩
  (try clear HO1_0)
  (try clear HO105)
  (try clear HO116)
  (try clear BK101)
  (try clear BK102)
  (try clear BK106)
  (try clear HI0)
  (try clear HK)
  (try clear HB)
  generalize (w50.setCell ⟨go28, (t111 : Int).toNat, none⟩ (.int .i64 t117)) = w52 at n0_ n1_ n2_ n3_ n4_ n5_ n6_ n7_ n8_ ⊢
  have HO1_0 := n0_
  have HO105 := n1_
  have HO116 := n2_
  have BK101 := n3_
  have BK102 := n4_
  have BK106 := n5_
  have HI0 := n6_
  have HK := n7_
  have HB := n8_
  clear n0_ n1_ n2_ n3_ n4_ n5_ n6_ n7_ n8_
  have hcz53_0 := zc BK106.out
  have hfz53_0 := blk_frozen BK106.out 0
  have hnb54 := NB102_0.out
  have hnc54 := NB0_102.out
  have hcz55_0 := zc BK102.out
  have hfz55_0 := blk_frozen BK102.out 0
  try go_wp2
  refine bodyPost_ret (results_cell_row rfl _ _ gb102 26 #[.slice (some ⟨go28, 0, none⟩) t103.length co36] (0, 0) _ rfl (by refine zG ?_; refine blk_put (cs := #[.slice none 0 0]) ?_ 0 _ rfl; refine zG ?_; exact BK102.out) Try.underlying26 rfl zk) rfl ?_
  exact ⟨_, zE, by refine zR ?_; exact Kd.R_mono (Kd.R_far (p := ⟨gb102, 0, none⟩) (Kd.R_types HO105.out BK102.out (by decide)) (fun _ hk => hk.2) (.slice (some ⟨go28, 0, none⟩) t103.length co36)) (fun _ hk => hk.1.1), zI, zB, zJ⟩
 rw [if_neg c22] at H
 have c22b0 : (t107 == 1) = false := beq_eq_false_iff_ne.mpr c22
 have c22b1 : (t107 != 1) = true := bne_iff_ne.mpr c22
 by_cases c56 : t107 = 2
 ·
  rw [if_pos c56] at H
  have c56b0 : (t107 == 2) = true := beq_iff_eq.mpr c56
  have c56b1 : (t107 != 2) = false := bne_eq_false_iff_eq.mpr c56
  clear c56
  have H' := Aside0.mk H
  clear H
  obtain ⟨Ao57, co57, eo57⟩ := Kd.R_slice HO1_0.out
  subst eo57
  go_enter Try.func23, Try.ntmps23
  go_wp2_with (first | ((with_reducible refine gate_dst (N := 3) rfl ?_); refine box_event zr (N := 3) zr (cs := #[.slice Ao57 l1_0.length co57]) (t := 26) zg ?_; intro gb101 hg w58 hbox hb; have n_ := y9 (Kd.R_below (zR HO1_0.out) hb) (IsS65.below (zI) hb) (Kept.below (S := (fun k_ => (P1_0_ k_) ∨ k_ = g)) (zJ) hb) (below_step (zB) hb) (hbox) ((by rw [hg]; exact (by first | exact HK.out.1 | exact (show Kept w _ (fun k_ => (P1_0_ k_) ∨ k_ = g) from zJ).1) : w.heap.size ≤ gb101)) ((zS hg : w0.heap.size ≤ gb101)) ((by rw [hg]; exact Nat.ne_of_lt (IsS65.lt (show IsS65 w0 _ g s0_0 s0_1 s0_2 from zI)) : g ≠ gb101)) ((by rw [hg]; exact Nat.ne_of_gt (IsS65.lt (show IsS65 w0 _ g s0_0 s0_1 s0_2 from zI)) : gb101 ≠ g)); clear HO1_0 HI0 HK HB; obtain ⟨HO1_0, HI0, HK, HB, BK101, GW101, GE101, NB0_101, NB101_0⟩ := n_; clear hb hbox hg) | ((with_reducible refine gate_dst (N := 4) rfl ?_); refine box_event zr (N := 4) zr (cs := #[.slice none 0 0]) (t := 26) zg ?_; intro gb102 hg w59 hbox hb; have n_ := y12 (Kd.R_below (zR HO1_0.out) hb) (IsS65.below (zI) hb) (zb BK101.out hb) (Kept.below (S := (fun k_ => (P1_0_ k_) ∨ k_ = g)) (zJ) hb) (below_step (zB) hb) (hbox) ((by rw [hg]; exact (by first | exact HK.out.1 | exact (show Kept w _ (fun k_ => (P1_0_ k_) ∨ k_ = g) from zJ).1) : w.heap.size ≤ gb102)) ((zS hg : w0.heap.size ≤ gb102)) ((zL hg BK101.out : gb101 ≠ gb102)) ((zM hg BK101.out : gb102 ≠ gb101)) ((by rw [hg]; exact Nat.ne_of_lt (IsS65.lt (show IsS65 w0 _ g s0_0 s0_1 s0_2 from zI)) : g ≠ gb102)) ((by rw [hg]; exact Nat.ne_of_gt (IsS65.lt (show IsS65 w0 _ g s0_0 s0_1 s0_2 from zI)) : gb102 ≠ g)); clear HO1_0 HI0 BK101 HK HB; obtain ⟨HO1_0, HI0, BK101, HK, HB, BK102, GW102, GE102, NB101_102, NB102_101, NB0_102, NB102_0⟩ := n_; clear hb hbox hg; have hnb60 := NB101_102.out; have hnc60 := NB102_101.out; have hnb61 := NB101_0.out; have hnc61 := NB0_101.out; have hcz62_0 := zc BK101.out; have hfz62_0 := blk_frozen BK101.out 0) | ((with_reducible refine gate_callee (f := 44) rfl ?_); refine goesL_ (some 8) rfl rfl Try.func44 zk rfl #[.slice Ao57 l1_0.length co57] rfl zA ?_; (with_reducible refine (spec_l01Own.calls _ _ l1_0 t103 _ ?side1 ?side2 A3.out).mono ?_); (case side1 => exact zC (Kd.R_reads' HO1_0.out).2.2); (case side2 => exact (Kd.R_reads' HO1_0.out).2.1); rintro e w63 ⟨v104, rfl, ho0, hb⟩; refine ⟨_, rfl, ?_⟩; have n_ := y7 (Kd.R_elder' (zR HO1_0.out) (Kd.R_base ho0) hb) (Kd.R_lower (Kd.R_new' (Kd.R_newM (M := fun k_ => (P1_0_ k_ ∨ w.heap.size ≤ k_)) ho0 (by first | exact HK.out.1 | exact (show Kept w _ (fun k_ => (P1_0_ k_) ∨ k_ = g) from zJ).1) (fun k_ h_ => .inr h_)) (Kd.R_lt (zR HO1_0.out))) (below_size (zB))) (IsS65.below (zI) hb) (zb BK101.out hb) (zb BK102.out hb) (Kept.below (S := (fun k_ => (P1_0_ k_) ∨ k_ = g)) (zJ) hb) (below_step (zB) hb); clear HO1_0 HI0 BK101 BK102 HK HB; obtain ⟨HO1_0, HO105, HI0, BK101, BK102, HK, HB⟩ := n_; (try clear hb); (try clear hb2); (try clear hk); (try clear hi); (try clear ho0); obtain ⟨Ao64, co64, eo64⟩ := Kd.R_slice HO105.out; subst eo64) | ((with_reducible refine gate_dst (N := 5) rfl ?_); refine box_event zr (N := 5) zr (cs := #[.slice none 0 0]) (t := 26) zg ?_; intro gb106 hg w65 hbox hb; have n0_ := Aside0.mk (Kd.R_below (zR HO1_0.out) hb); have n1_ := Aside0.mk (Kd.R_below (zR HO105.out) hb); have n2_ := Aside0.mk (IsS65.below (zI) hb); have n3_ := Aside0.mk (zb BK101.out hb); have n4_ := Aside0.mk (zb BK102.out hb); have n5_ := Aside0.mk (Kept.below (S := (fun k_ => (P1_0_ k_) ∨ k_ = g)) (zJ) hb); have n6_ := Aside0.mk (below_step (zB) hb); have n7_ := Aside0.mk (hbox); have n8_ := Aside0.mk ((by rw [hg]; exact (by first | exact HK.out.1 | exact (show Kept w _ (fun k_ => (P1_0_ k_) ∨ k_ = g) from zJ).1) : w.heap.size ≤ gb106)); have n9_ := Aside0.mk ((zS hg : w0.heap.size ≤ gb106)); have n10_ := Aside0.mk ((zL hg BK101.out : gb101 ≠ gb106)); have n11_ := Aside0.mk ((zM hg BK101.out : gb106 ≠ gb101)); have n12_ := Aside0.mk ((zL hg BK102.out : gb102 ≠ gb106)); have n13_ := Aside0.mk ((zM hg BK102.out : gb106 ≠ gb102)); have n14_ := Aside0.mk ((by rw [hg]; exact Nat.ne_of_lt (IsS65.lt (show IsS65 w0 _ g s0_0 s0_1 s0_2 from zI)) : g ≠ gb106)); have n15_ := Aside0.mk ((by rw [hg]; exact Nat.ne_of_gt (IsS65.lt (show IsS65 w0 _ g s0_0 s0_1 s0_2 from zI)) : gb106 ≠ g)); clear HO1_0; clear HO105; clear HI0; clear BK101; clear BK102; clear HK; clear HB; have HO1_0 := n0_; have HO105 := n1_; have HI0 := n2_; have BK101 := n3_; have BK102 := n4_; have HK := n5_; have HB := n6_; have BK106 := n7_; have GW106 := n8_; have GE106 := n9_; have NB101_106 := n10_; have NB106_101 := n11_; have NB102_106 := n12_; have NB106_102 := n13_; have NB0_106 := n14_; have NB106_0 := n15_; clear n0_ n1_ n2_ n3_ n4_ n5_ n6_ n7_ n8_ n9_ n10_ n11_ n12_ n13_ n14_ n15_; clear hb hbox hg; have hnb66 := NB106_101.out; have hnc66 := NB101_106.out; have hnb67 := NB106_102.out; have hnc67 := NB102_106.out; have hnb68 := NB106_0.out; have hnc68 := NB0_106.out; have hcz69_0 := zc BK106.out; have hfz69_0 := blk_frozen BK106.out 0) | ((with_reducible refine gate_callee (f := 45) rfl ?_); refine goesL_ (some 11) rfl rfl Try.func45 zk rfl #[.pointer (some ⟨g, 0, none⟩), .int .i64 50] rfl zA ?_; (with_reducible refine (spec_l01Next.calls g s0_0 s0_1 s0_2 50 t107 t108 t109 w0 _ ?side1 ?side2 A4.out).mono ?_); (case side1 => exact zI); (case side2 => exact zB); rintro e w70 ⟨rfl, hi, hb, hk⟩; refine ⟨_, rfl, ?_⟩; have n_ := y8 (Kd.R_mono (Kd.R_keep (IsS65.apart (show IsS65 w0 _ g s0_0 s0_1 s0_2 from zI) (by refine zR ?_; exact (Kd.R_mono (Kd.R_far (p := ⟨gb106, 0, none⟩) (Kd.R_types HO1_0.out BK106.out (by decide)) (fun _ hk => hk.2) (.slice Ao64 t103.length co64)) (fun _ h_ => h_.1))) (by decide)) hk (fun _ h => h.2)) (fun _ h => h.1)) (KeepBut.blk hk (g' := gb101) (o := .cells #[.slice Ao57 l1_0.length co57] 26 (0, 0)) (by refine zG ?_; refine blk_far ?_ NB101_106.out _; refine zG ?_; exact BK101.out) NB101_0.out (by simp)) (KeepBut.blk hk (g' := gb102) (o := .cells #[.slice none 0 0] 26 (0, 0)) (by refine zG ?_; refine blk_far ?_ NB102_106.out _; refine zG ?_; exact BK102.out) NB102_0.out (by simp)) (Kd.R_mono (Kd.R_keep (IsS65.apart (show IsS65 w0 _ g s0_0 s0_1 s0_2 from zI) (by refine zR ?_; exact (Kd.R_mono (Kd.R_far (p := ⟨gb106, 0, none⟩) (Kd.R_types HO105.out BK106.out (by decide)) (fun _ hk => hk.2) (.slice Ao64 t103.length co64)) (fun _ h_ => h_.1))) (by decide)) hk (fun _ h => h.2)) (fun _ h => h.1)) (KeepBut.blk hk (g' := gb106) (o := .cells #[.slice Ao64 t103.length co64] 26 (0, 0)) (by refine zG ?_; refine blk_put (cs := #[.slice none 0 0]) ?_ 0 _ rfl; refine zG ?_; exact BK106.out) NB106_0.out (by simp)) (Kept.of_keep (S := (fun k_ => (P1_0_ k_) ∨ k_ = g)) (zJ) hk (.inl (.inr rfl))) (hb) (hi); clear HO1_0 BK101 BK102 HO105 BK106 HK HB HI0; obtain ⟨HO1_0, BK101, BK102, HO105, BK106, HK, HB, HI0⟩ := n_; (try clear hb); (try clear hb2); (try clear hk); (try clear hi)))
  go_loopg [] k (fun kq w' => ∃ (x107000_1 : List Int) (u107000 : Value), Aside0 (spec_l01Bad.l0 kq s0_0 t108 t109 x107000_1 = some (r1, r2, r3)) ∧ Aside0 (kq ≤ k) ∧ Aside0 (Kd.R (Kd.int .i64) 2 w' w0.heap.size (fun k_ => (P1_0_ k_ ∨ w.heap.size ≤ k_) ∧ some k_ ≠ (u107000 : Value).ownBlock) (.slice Ao57 l1_0.length co57) l1_0) ∧ Aside0 (Kd.R (Kd.int .i64) 2 w' w0.heap.size (fun k_ => (P1_0_ k_ ∨ w.heap.size ≤ k_) ∧ some k_ ≠ ((.slice Ao57 l1_0.length co57) : Value).ownBlock) u107000 x107000_1) ∧ Aside0 (w'.heap[gb101]? = some (.cells #[(.slice Ao57 l1_0.length co57)] 26 (0, 0))) ∧ Aside0 (w'.heap[gb102]? = some (.cells #[(.slice none 0 0)] 26 (0, 0))) ∧ Aside0 (w'.heap[gb106]? = some (.cells #[u107000] 26 (0, 0))) ∧ Aside0 (IsS65 w0 w' g s0_0 t108 t109) ∧ Aside0 (Kept w w' (fun k_ => (P1_0_ k_) ∨ k_ = g)) ∧ Aside0 (Below w0.heap.size w0 w'))
  case atStart => exact ⟨(t103), (.slice Ao64 t103.length co64), H', ⟨Nat.le_refl _⟩, ⟨zR HO1_0.out⟩, ⟨by refine zR ?_; exact Kd.R_mono HO105.out (fun _ hk => ⟨hk.1.1, hk.2⟩)⟩, ⟨zG BK101.out⟩, ⟨zG BK102.out⟩, ⟨zG BK106.out⟩, ⟨zI⟩, ⟨zJ⟩, ⟨zB⟩⟩
  clear H'
  try clear c5
  try clear c22
  try clear c22b0
  try clear c22b1
  try clear c56
  try clear c56b0
  try clear c56b1
  try clear hcz62_0
  try clear hcz69_0
  try clear hfz62_0
  try clear hfz69_0
  obtain ⟨x107000_1, u107000, HA, HK1, HO_102000, HO_107000, BK101, BK102, BK106, HI0, HK, HB⟩ := hrel
  cases gk with
  | zero => exact absurd HA.out (by simp [spec_l01Bad.l0])
  | succ k1 =>
    have H := HA.out
    clear HA
    simp only [spec_l01Bad.l0] at H
    by_cases c71 : (x107000_1.length : Int) ≤ 8
    · rw [if_pos c71] at H
      have c71b0 : decide ((x107000_1.length : Int) ≤ 8) = true := decide_eq_true c71
      have c71b1 : decide (x107000_1.length ≤ 8) = true := decide_eq_true (by omega)
      clear c71
      by_cases c72 : x107000_1.length < 17592186044416
      · rw [if_pos c72] at H
        have LMc72 := Aside0.mk c72
        clear c72
        obtain ⟨y121, hy121⟩ : ∃ y_ : List Int, y_ = (x107000_1 ++ [9]) := ⟨_, rfl⟩
        replace H : (spec_l01Bad.l0 k1 s0_0 t108 t109 y121) = some (r1, r2, r3) := zH hy121
        have Ny121 := Aside0.mk hy121
        clear hy121
        have H' := Aside0.mk H
        clear H
        have hnb73 := NB106_101.out
        have hnc73 := NB101_106.out
        have hnb74 := NB106_102.out
        have hnc74 := NB102_106.out
        have hnb75 := NB106_0.out
        have hnc75 := NB0_106.out
        have hcz76_0 := zc BK106.out
        have hfz76_0 := blk_frozen BK106.out 0
        obtain ⟨Ao77, co77, eo77⟩ := Kd.R_slice HO_107000.out
        subst eo77
        go_wp2_with (first | ((with_reducible refine gate_builtin (b := .append) (xs := #[.tmp 35, .tmp 36]) rfl ?_); at_builtin; refine Kd.R_append (Kd.int .i64) (w0 := w0) w0.heap.size rfl (.tmp 35) (.tmp 36) 24 2 (.int .i64 0) 8 rfl Try.underlying24 info2 rfl (by decide) (by omega) (.slice Ao77 x107000_1.length co77) x107000_1 9 [.int .i64 9] (fun k_ => (P1_0_ k_ ∨ w.heap.size ≤ k_) ∧ some k_ ≠ (.slice Ao57 l1_0.length co57 : Value).ownBlock) (fun _ => False) rfl rfl ?aP (fun _ hk => hk.elim) ?aF ?aO ?aB ?aS ?aL ?_; (case aP => exact rfl); (case aB => exact (zB)); (case aF => exact (fun k_ hk => ⟨(.inr (Nat.le_trans (by first | exact HK.out.1 | exact (show Kept w _ (fun k_ => (P1_0_ k_) ∨ k_ = g) from zJ).1) hk)), Kd.fresh' (Kd.R_lt (zR HO_102000.out)) k_ hk⟩)); (case aO => exact (zR HO_107000.out)); (case aS => exact (below_size (zB))); (case aL => have := LMc72.out; omega); intro v122 w78 ho hb hg hat; rw [← Ny121.out] at ho; have n_ := y8 (Kd.R_after (ok := (fun k_ => (P1_0_ k_ ∨ w.heap.size ≤ k_))) (zR HO_102000.out) hg hat) (blk_grown (g := gb101) (o := .cells #[.slice Ao57 l1_0.length co57] 26 (0, 0)) (zG BK101.out) hg (Kd.R_ne HO_107000.out BK101.out (by decide))) (blk_grown (g := gb102) (o := .cells #[.slice none 0 0] 26 (0, 0)) (zG BK102.out) hg (Kd.R_ne HO_107000.out BK102.out (by decide))) (blk_grown (g := gb106) (o := .cells #[.slice Ao77 x107000_1.length co77] 26 (0, 0)) (zG BK106.out) hg (Kd.R_ne HO_107000.out BK106.out (by decide))) (IsS65.grown (zI) hg (IsS65.own_ne HI0.out HO_107000.out (by decide))) (hb) (Kept.of_grown (S := (fun k_ => (P1_0_ k_) ∨ k_ = g)) hg (zJ) (fun k_ e_ => Or.imp_left Or.inl ((HO_107000.out.1 k_ e_).1))) (ho); clear HO_102000 BK101 BK102 BK106 HI0 HB HK HO_107000; obtain ⟨HO_102000, BK101, BK102, BK106, HI0, HB, HK, HO123⟩ := n_; clear ho hb hg hat; obtain ⟨Ao79, co79, eo79⟩ := Kd.R_slice HO123.out; subst eo79; have hcz80_0 := zc BK106.out; have hfz80_0 := blk_frozen BK106.out 0))
        go_roundg k1
        case measure => have := HK1.out; omega
        case rel => exact ⟨(y121), (.slice Ao79 y121.length co79), H', ⟨by have := HK1.out; omega⟩, ⟨by refine zR ?_; exact Kd.R_mono (Kd.R_far (p := ⟨gb106, 0, none⟩) (Kd.R_types HO_102000.out BK106.out (by decide)) (fun _ hk => hk.2) (.slice Ao79 y121.length co79)) (fun _ hk => ⟨hk.1.1, hk.1.2⟩)⟩, ⟨by refine zR ?_; exact Kd.R_mono (Kd.R_far (p := ⟨gb106, 0, none⟩) (Kd.R_types HO123.out BK106.out (by decide)) (fun _ hk => hk.2) (.slice Ao79 y121.length co79)) (fun _ hk => ⟨hk.1.1, hk.1.2⟩)⟩, ⟨by refine zG ?_; refine blk_far ?_ NB101_106.out _; refine zG ?_; exact BK101.out⟩, ⟨by refine zG ?_; refine blk_far ?_ NB102_106.out _; refine zG ?_; exact BK102.out⟩, ⟨by refine zG ?_; refine blk_put (cs := #[.slice Ao77 x107000_1.length co77]) ?_ 0 _ rfl; refine zG ?_; exact BK106.out⟩, ⟨zI⟩, ⟨zJ⟩, ⟨zB⟩⟩
      · rw [if_neg c72] at H
        exact absurd H (by simp)
    · rw [if_neg c71] at H
      have c71b0 : decide ((x107000_1.length : Int) ≤ 8) = false := decide_eq_false c71
      have c71b1 : decide (x107000_1.length ≤ 8) = false := decide_eq_false (by omega)
      clear c71
      simp only [Option.some.injEq, Prod.mk.injEq] at H
      obtain ⟨rfl, rfl, rfl⟩ := H
      have hnb81 := NB106_101.out
      have hnc81 := NB101_106.out
      have hnb82 := NB106_102.out
      have hnc82 := NB102_106.out
      have hnb83 := NB106_0.out
      have hnc83 := NB0_106.out
      have hcz84_0 := zc BK106.out
      have hfz84_0 := blk_frozen BK106.out 0
      obtain ⟨Ao85, co85, eo85⟩ := Kd.R_slice HO_107000.out
      subst eo85
      have hnb86 := NB102_101.out
      have hnc86 := NB101_102.out
      have hnb87 := NB102_0.out
      have hnc87 := NB0_102.out
      have hcz88_0 := zc BK102.out
      have hfz88_0 := blk_frozen BK102.out 0
      go_wp2
      refine bodyPost_ret (results_cell_row rfl _ _ gb102 26 #[.slice Ao85 x107000_1.length co85] (0, 0) _ rfl (by refine zG ?_; refine blk_put (cs := #[.slice none 0 0]) ?_ 0 _ rfl; refine zG ?_; exact BK102.out) Try.underlying26 rfl zk) rfl ?_
      exact ⟨_, zE, by refine zR ?_; exact Kd.R_mono (Kd.R_far (p := ⟨gb102, 0, none⟩) (Kd.R_types HO_107000.out BK102.out (by decide)) (fun _ hk => hk.2) (.slice Ao85 x107000_1.length co85)) (fun _ hk => hk.1.1), zI, zB, zJ⟩
 rw [if_neg c56] at H
 have c56b0 : (t107 == 2) = false := beq_eq_false_iff_ne.mpr c56
 have c56b1 : (t107 != 2) = true := bne_iff_ne.mpr c56
 simp only [Option.some.injEq, Prod.mk.injEq] at H
 obtain ⟨rfl, rfl, rfl⟩ := H
 obtain ⟨Ao89, co89, eo89⟩ := Kd.R_slice HO1_0.out
 subst eo89
 go_enter Try.func23, Try.ntmps23
 go_wp2_with (first | ((with_reducible refine gate_dst (N := 3) rfl ?_); refine box_event zr (N := 3) zr (cs := #[.slice Ao89 l1_0.length co89]) (t := 26) zg ?_; intro gb101 hg w90 hbox hb; have n_ := y9 (Kd.R_below (zR HO1_0.out) hb) (IsS65.below (zI) hb) (Kept.below (S := (fun k_ => (P1_0_ k_) ∨ k_ = g)) (zJ) hb) (below_step (zB) hb) (hbox) ((by rw [hg]; exact (by first | exact HK.out.1 | exact (show Kept w _ (fun k_ => (P1_0_ k_) ∨ k_ = g) from zJ).1) : w.heap.size ≤ gb101)) ((zS hg : w0.heap.size ≤ gb101)) ((by rw [hg]; exact Nat.ne_of_lt (IsS65.lt (show IsS65 w0 _ g s0_0 s0_1 s0_2 from zI)) : g ≠ gb101)) ((by rw [hg]; exact Nat.ne_of_gt (IsS65.lt (show IsS65 w0 _ g s0_0 s0_1 s0_2 from zI)) : gb101 ≠ g)); clear HO1_0 HI0 HK HB; obtain ⟨HO1_0, HI0, HK, HB, BK101, GW101, GE101, NB0_101, NB101_0⟩ := n_; clear hb hbox hg) | ((with_reducible refine gate_dst (N := 4) rfl ?_); refine box_event zr (N := 4) zr (cs := #[.slice none 0 0]) (t := 26) zg ?_; intro gb102 hg w91 hbox hb; have n_ := y12 (Kd.R_below (zR HO1_0.out) hb) (IsS65.below (zI) hb) (zb BK101.out hb) (Kept.below (S := (fun k_ => (P1_0_ k_) ∨ k_ = g)) (zJ) hb) (below_step (zB) hb) (hbox) ((by rw [hg]; exact (by first | exact HK.out.1 | exact (show Kept w _ (fun k_ => (P1_0_ k_) ∨ k_ = g) from zJ).1) : w.heap.size ≤ gb102)) ((zS hg : w0.heap.size ≤ gb102)) ((zL hg BK101.out : gb101 ≠ gb102)) ((zM hg BK101.out : gb102 ≠ gb101)) ((by rw [hg]; exact Nat.ne_of_lt (IsS65.lt (show IsS65 w0 _ g s0_0 s0_1 s0_2 from zI)) : g ≠ gb102)) ((by rw [hg]; exact Nat.ne_of_gt (IsS65.lt (show IsS65 w0 _ g s0_0 s0_1 s0_2 from zI)) : gb102 ≠ g)); clear HO1_0 HI0 BK101 HK HB; obtain ⟨HO1_0, HI0, BK101, HK, HB, BK102, GW102, GE102, NB101_102, NB102_101, NB0_102, NB102_0⟩ := n_; clear hb hbox hg; have hnb92 := NB101_102.out; have hnc92 := NB102_101.out; have hnb93 := NB101_0.out; have hnc93 := NB0_101.out; have hcz94_0 := zc BK101.out; have hfz94_0 := blk_frozen BK101.out 0) | ((with_reducible refine gate_callee (f := 44) rfl ?_); refine goesL_ (some 8) rfl rfl Try.func44 zk rfl #[.slice Ao89 l1_0.length co89] rfl zA ?_; (with_reducible refine (spec_l01Own.calls _ _ l1_0 t103 _ ?side1 ?side2 A3.out).mono ?_); (case side1 => exact zC (Kd.R_reads' HO1_0.out).2.2); (case side2 => exact (Kd.R_reads' HO1_0.out).2.1); rintro e w95 ⟨v104, rfl, ho0, hb⟩; refine ⟨_, rfl, ?_⟩; have n_ := y7 (Kd.R_elder' (zR HO1_0.out) (Kd.R_base ho0) hb) (Kd.R_lower (Kd.R_new' (Kd.R_newM (M := fun k_ => (P1_0_ k_ ∨ w.heap.size ≤ k_)) ho0 (by first | exact HK.out.1 | exact (show Kept w _ (fun k_ => (P1_0_ k_) ∨ k_ = g) from zJ).1) (fun k_ h_ => .inr h_)) (Kd.R_lt (zR HO1_0.out))) (below_size (zB))) (IsS65.below (zI) hb) (zb BK101.out hb) (zb BK102.out hb) (Kept.below (S := (fun k_ => (P1_0_ k_) ∨ k_ = g)) (zJ) hb) (below_step (zB) hb); clear HO1_0 HI0 BK101 BK102 HK HB; obtain ⟨HO1_0, HO105, HI0, BK101, BK102, HK, HB⟩ := n_; (try clear hb); (try clear hb2); (try clear hk); (try clear hi); (try clear ho0); obtain ⟨Ao96, co96, eo96⟩ := Kd.R_slice HO105.out; subst eo96) | ((with_reducible refine gate_dst (N := 5) rfl ?_); refine box_event zr (N := 5) zr (cs := #[.slice none 0 0]) (t := 26) zg ?_; intro gb106 hg w97 hbox hb; have n0_ := Aside0.mk (Kd.R_below (zR HO1_0.out) hb); have n1_ := Aside0.mk (Kd.R_below (zR HO105.out) hb); have n2_ := Aside0.mk (IsS65.below (zI) hb); have n3_ := Aside0.mk (zb BK101.out hb); have n4_ := Aside0.mk (zb BK102.out hb); have n5_ := Aside0.mk (Kept.below (S := (fun k_ => (P1_0_ k_) ∨ k_ = g)) (zJ) hb); have n6_ := Aside0.mk (below_step (zB) hb); have n7_ := Aside0.mk (hbox); have n8_ := Aside0.mk ((by rw [hg]; exact (by first | exact HK.out.1 | exact (show Kept w _ (fun k_ => (P1_0_ k_) ∨ k_ = g) from zJ).1) : w.heap.size ≤ gb106)); have n9_ := Aside0.mk ((zS hg : w0.heap.size ≤ gb106)); have n10_ := Aside0.mk ((zL hg BK101.out : gb101 ≠ gb106)); have n11_ := Aside0.mk ((zM hg BK101.out : gb106 ≠ gb101)); have n12_ := Aside0.mk ((zL hg BK102.out : gb102 ≠ gb106)); have n13_ := Aside0.mk ((zM hg BK102.out : gb106 ≠ gb102)); have n14_ := Aside0.mk ((by rw [hg]; exact Nat.ne_of_lt (IsS65.lt (show IsS65 w0 _ g s0_0 s0_1 s0_2 from zI)) : g ≠ gb106)); have n15_ := Aside0.mk ((by rw [hg]; exact Nat.ne_of_gt (IsS65.lt (show IsS65 w0 _ g s0_0 s0_1 s0_2 from zI)) : gb106 ≠ g)); clear HO1_0; clear HO105; clear HI0; clear BK101; clear BK102; clear HK; clear HB; have HO1_0 := n0_; have HO105 := n1_; have HI0 := n2_; have BK101 := n3_; have BK102 := n4_; have HK := n5_; have HB := n6_; have BK106 := n7_; have GW106 := n8_; have GE106 := n9_; have NB101_106 := n10_; have NB106_101 := n11_; have NB102_106 := n12_; have NB106_102 := n13_; have NB0_106 := n14_; have NB106_0 := n15_; clear n0_ n1_ n2_ n3_ n4_ n5_ n6_ n7_ n8_ n9_ n10_ n11_ n12_ n13_ n14_ n15_; clear hb hbox hg; have hnb98 := NB106_101.out; have hnc98 := NB101_106.out; have hnb99 := NB106_102.out; have hnc99 := NB102_106.out; have hnb100 := NB106_0.out; have hnc100 := NB0_106.out; have hcz101_0 := zc BK106.out; have hfz101_0 := blk_frozen BK106.out 0) | ((with_reducible refine gate_callee (f := 45) rfl ?_); refine goesL_ (some 11) rfl rfl Try.func45 zk rfl #[.pointer (some ⟨g, 0, none⟩), .int .i64 50] rfl zA ?_; (with_reducible refine (spec_l01Next.calls g s0_0 s0_1 s0_2 50 t107 t108 t109 w0 _ ?side1 ?side2 A4.out).mono ?_); (case side1 => exact zI); (case side2 => exact zB); rintro e w102 ⟨rfl, hi, hb, hk⟩; refine ⟨_, rfl, ?_⟩; have n_ := y8 (Kd.R_mono (Kd.R_keep (IsS65.apart (show IsS65 w0 _ g s0_0 s0_1 s0_2 from zI) (by refine zR ?_; exact (Kd.R_mono (Kd.R_far (p := ⟨gb106, 0, none⟩) (Kd.R_types HO1_0.out BK106.out (by decide)) (fun _ hk => hk.2) (.slice Ao96 t103.length co96)) (fun _ h_ => h_.1))) (by decide)) hk (fun _ h => h.2)) (fun _ h => h.1)) (KeepBut.blk hk (g' := gb101) (o := .cells #[.slice Ao89 l1_0.length co89] 26 (0, 0)) (by refine zG ?_; refine blk_far ?_ NB101_106.out _; refine zG ?_; exact BK101.out) NB101_0.out (by simp)) (KeepBut.blk hk (g' := gb102) (o := .cells #[.slice none 0 0] 26 (0, 0)) (by refine zG ?_; refine blk_far ?_ NB102_106.out _; refine zG ?_; exact BK102.out) NB102_0.out (by simp)) (Kd.R_mono (Kd.R_keep (IsS65.apart (show IsS65 w0 _ g s0_0 s0_1 s0_2 from zI) (by refine zR ?_; exact (Kd.R_mono (Kd.R_far (p := ⟨gb106, 0, none⟩) (Kd.R_types HO105.out BK106.out (by decide)) (fun _ hk => hk.2) (.slice Ao96 t103.length co96)) (fun _ h_ => h_.1))) (by decide)) hk (fun _ h => h.2)) (fun _ h => h.1)) (KeepBut.blk hk (g' := gb106) (o := .cells #[.slice Ao96 t103.length co96] 26 (0, 0)) (by refine zG ?_; refine blk_put (cs := #[.slice none 0 0]) ?_ 0 _ rfl; refine zG ?_; exact BK106.out) NB106_0.out (by simp)) (Kept.of_keep (S := (fun k_ => (P1_0_ k_) ∨ k_ = g)) (zJ) hk (.inl (.inr rfl))) (hb) (hi); clear HO1_0 BK101 BK102 HO105 BK106 HK HB HI0; obtain ⟨HO1_0, BK101, BK102, HO105, BK106, HK, HB, HI0⟩ := n_; (try clear hb); (try clear hb2); (try clear hk); (try clear hi); have hcz103_0 := zc BK101.out; have hfz103_0 := blk_frozen BK101.out 0; have hnb104 := NB102_0.out; have hnc104 := NB0_102.out; have hcz105_0 := zc BK102.out; have hfz105_0 := blk_frozen BK102.out 0))
 refine bodyPost_ret (results_cell_row rfl _ _ gb102 26 #[.slice Ao89 l1_0.length co89] (0, 0) _ rfl (by refine zG ?_; refine blk_put (cs := #[.slice none 0 0]) ?_ 0 _ rfl; refine zG ?_; exact BK102.out) Try.underlying26 rfl zk) rfl ?_
 exact ⟨_, zE, by refine zR ?_; exact Kd.R_mono (Kd.R_far (p := ⟨gb102, 0, none⟩) (Kd.R_types HO1_0.out BK102.out (by decide)) (fun _ hk => hk.2) (.slice Ao89 l1_0.length co89)) (fun _ hk => hk.1.1), zI, zB, zJ⟩
end Go.Proofs.Ytgbapmmfhdphmaa.P
end
section
namespace Go.Proofs.Ytgbapmmfhdphmaa.P
open Go.RowKit Go.Proofs.YtgbapmmfhdphmaaW.PrintWords Go.Proofs.YtgbapmmfhdphmaaW.PrintLast Go.Proofs.YtgbapmmfhdphmaaW.PrintMore
attribute [local go_sem] max2_int min2_int max_two min_two max_three min_three max_four min_four   -- for this text's walks alone
set_option linter.unusedVariables false
set_option linter.unusedSimpArgs false
def spec_l01DrawTurns.l0 : Nat → Int → List Int → Int → Int → List Int → Int → Int → Option (List Int × Int × Int)
  | 0, _, _, _, _, _, _, _ => none
  | k + 1, x1, x5, x6, x7, x1000, x1001, x1002 => if x7 > 0 then ((spec_l01Next.f x1000 x1001 x1002 x1).bind fun bt119 => ((spec_l01Next.f x1000 bt119.2.1 bt119.2.2 (wrap64 (x6 + 3))).bind fun bt122 => (if bt122.1 = 0 then (if x5.length < 17592186044416 then (spec_l01DrawTurns.l0 k x1 (x5 ++ [(-1)]) x6 (wrap64 (x7 - 1)) x1000 bt122.2.1 bt122.2.2) else (none)) else (if x5.length < 17592186044416 then (spec_l01DrawTurns.l0 k x1 (x5 ++ [bt119.1]) x6 (wrap64 (x7 - 1)) x1000 bt122.2.1 bt122.2.2) else (none))))) else (some (x5, x1001, x1002))
def spec_l01DrawTurns.f (k : Nat) (s0_0 : List Int) (s0_1 : Int) (s0_2 : Int) (a1 : Int) : Option (List Int × Int × Int) := (spec_l01Pick.f s0_0 s0_1 s0_2 (([1, 4, 20] : List Int))).bind fun bt107 => ((spec_l01Pick.f s0_0 bt107.2.1 bt107.2.2 (([6, 12, 40, 120] : List Int))).bind fun bt113 => ((spec_l01Next.f s0_0 bt113.2.1 bt113.2.2 bt113.1).bind fun bt116 => (spec_l01DrawTurns.l0 k a1 (([] : List Int)) bt107.1 (wrap64 (1 + bt116.1)) s0_0 bt116.2.1 bt116.2.2)))
theorem spec_l01DrawTurns.mono_l : ∀ k, (∀ y0 y1 y2 y3 y4 y5 y6, LeO (spec_l01DrawTurns.l0 k y0 y1 y2 y3 y4 y5 y6) (spec_l01DrawTurns.l0 (k + 1) y0 y1 y2 y3 y4 y5 y6))
  | 0 => fun _ _ _ _ _ _ _ r h => by simp [spec_l01DrawTurns.l0] at h
  | k + 1 => by
    have ih0 := spec_l01DrawTurns.mono_l k
    · intro y0 y1 y2 y3 y4 y5 y6
      unfold spec_l01DrawTurns.l0
      repeat' first | (with_reducible exact ih0 _ _ _ _ _ _ _) | (with_reducible exact LeO.refl _) | (with_reducible exact LeO.none _) | (with_reducible refine LeO.ite ?_ ?_) | (with_reducible refine LeO.bind ?_ (fun _ => ?_)) | exact ih0 _ _ _ _ _ _ _ | exact LeO.none _ | refine LeO.ite ?_ ?_ | refine LeO.bind ?_ (fun _ => ?_)
theorem spec_l01DrawTurns.mono : ∀ a0 a1 a2 a3 k, LeO (spec_l01DrawTurns.f k a0 a1 a2 a3) (spec_l01DrawTurns.f (k + 1) a0 a1 a2 a3) := by
  intro a0 a1 a2 a3 k
  have ih0 := spec_l01DrawTurns.mono_l k
  unfold spec_l01DrawTurns.f
  repeat' first | (with_reducible exact ih0 _ _ _ _ _ _ _) | (with_reducible exact LeO.refl _) | (with_reducible exact LeO.none _) | (with_reducible refine LeO.ite ?_ ?_) | (with_reducible refine LeO.bind ?_ (fun _ => ?_)) | exact ih0 _ _ _ _ _ _ _ | exact LeO.none _ | refine LeO.ite ?_ ?_ | refine LeO.bind ?_ (fun _ => ?_)
set_option maxHeartbeats 8000000 in
set_option maxRecDepth 100000 in
theorem spec_l01DrawTurns.calls (k : Nat) (g : Nat) (s0_0 : List Int) (s0_1 : Int) (s0_2 : Int) (a1 : Int) (r1 : List Int) (r2 : Int) (r3 : Int) (w0 w : World) (hI : IsS65 w0 w g s0_0 s0_1 s0_2) (hB : Below w0.heap.size w0 w) (h : spec_l01DrawTurns.f k s0_0 s0_1 s0_2 a1 = some (r1, r2, r3)) :
    Calls Try.prog 73 #[.pointer (some ⟨g, 0, none⟩), .int .i64 a1] w fun e w' => ∃ v0_ : Value, e = .returned (v0_) ∧ Kd.R (Kd.int .i64) 2 w' w.heap.size (fun _ => True) v0_ r1 ∧ IsS65 w0 w' g s0_0 r2 r3 ∧ Below w0.heap.size w0 w' ∧ KeepBut w w' g none := by
 have HI0 := Aside0.mk hI
 have HK := Aside0.mk (KeepBut.refl w g none)
 have HL := Aside0.mk hB.size
 clear hI
 have HW0 := Aside0.mk hB.size
 have HB := Aside0.mk hB
 clear hB
 have H : ((spec_l01Pick.f s0_0 s0_1 s0_2 (([1, 4, 20] : List Int))).bind fun bt107 => ((spec_l01Pick.f s0_0 bt107.2.1 bt107.2.2 (([6, 12, 40, 120] : List Int))).bind fun bt113 => ((spec_l01Next.f s0_0 bt113.2.1 bt113.2.2 bt113.1).bind fun bt116 => (spec_l01DrawTurns.l0 k a1 (([] : List Int)) bt107.1 (wrap64 (1 + bt116.1)) s0_0 bt116.2.1 bt116.2.2)))) = some (r1, r2, r3) := h
 clear h
 obtain ⟨y101, hy101⟩ : ∃ y_ : List Int, y_ = (([] : List Int)) := ⟨_, rfl⟩
 replace H : ((spec_l01Pick.f s0_0 s0_1 s0_2 (([1, 4, 20] : List Int))).bind fun bt107 => ((spec_l01Pick.f s0_0 bt107.2.1 bt107.2.2 (([6, 12, 40, 120] : List Int))).bind fun bt113 => ((spec_l01Next.f s0_0 bt113.2.1 bt113.2.2 bt113.1).bind fun bt116 => (spec_l01DrawTurns.l0 k a1 y101 bt107.1 (wrap64 (1 + bt116.1)) s0_0 bt116.2.1 bt116.2.2)))) = some (r1, r2, r3) := zH hy101
 have Ny101 := Aside0.mk hy101
 clear hy101
 obtain ⟨y104, hy104⟩ : ∃ y_ : List Int, y_ = (([1, 4, 20] : List Int)) := ⟨_, rfl⟩
 replace H : ((spec_l01Pick.f s0_0 s0_1 s0_2 y104).bind fun bt107 => ((spec_l01Pick.f s0_0 bt107.2.1 bt107.2.2 (([6, 12, 40, 120] : List Int))).bind fun bt113 => ((spec_l01Next.f s0_0 bt113.2.1 bt113.2.2 bt113.1).bind fun bt116 => (spec_l01DrawTurns.l0 k a1 y101 bt107.1 (wrap64 (1 + bt116.1)) s0_0 bt116.2.1 bt116.2.2)))) = some (r1, r2, r3) := zH hy104
 have Ny104 := Aside0.mk hy104
 clear hy104
 replace H := Option.bind_eq_some_iff.mp H
 obtain ⟨⟨t107, t108, t109⟩, A30, H⟩ := H
 replace H : ((spec_l01Pick.f s0_0 t108 t109 (([6, 12, 40, 120] : List Int))).bind fun bt113 => ((spec_l01Next.f s0_0 bt113.2.1 bt113.2.2 bt113.1).bind fun bt116 => (spec_l01DrawTurns.l0 k a1 y101 t107 (wrap64 (1 + bt116.1)) s0_0 bt116.2.1 bt116.2.2))) = some (r1, r2, r3) := H
 have A3 := Aside0.mk A30
 clear A30
 obtain ⟨y110, hy110⟩ : ∃ y_ : List Int, y_ = (([6, 12, 40, 120] : List Int)) := ⟨_, rfl⟩
 replace H : ((spec_l01Pick.f s0_0 t108 t109 y110).bind fun bt113 => ((spec_l01Next.f s0_0 bt113.2.1 bt113.2.2 bt113.1).bind fun bt116 => (spec_l01DrawTurns.l0 k a1 y101 t107 (wrap64 (1 + bt116.1)) s0_0 bt116.2.1 bt116.2.2))) = some (r1, r2, r3) := zH hy110
 have Ny110 := Aside0.mk hy110
 clear hy110
 replace H := Option.bind_eq_some_iff.mp H
 obtain ⟨⟨t113, t114, t115⟩, A40, H⟩ := H
 replace H : ((spec_l01Next.f s0_0 t114 t115 t113).bind fun bt116 => (spec_l01DrawTurns.l0 k a1 y101 t107 (wrap64 (1 + bt116.1)) s0_0 bt116.2.1 bt116.2.2)) = some (r1, r2, r3) := H
 have A4 := Aside0.mk A40
 clear A40
 replace H := Option.bind_eq_some_iff.mp H
 obtain ⟨⟨t116, t117, t118⟩, A50, H⟩ := H
 replace H : (spec_l01DrawTurns.l0 k a1 y101 t107 (wrap64 (1 + t116)) s0_0 t117 t118) = some (r1, r2, r3) := H
 have A5 := Aside0.mk A50
 clear A50
 have H' := Aside0.mk H
 clear H
 go_enter Try.func73, Try.ntmps73
 go_wp2_with (first | ((with_reducible refine gate_dst (N := 9) rfl ?_); refine Kd.R_lit (Kd.int .i64) _ 2 ?hg (N := 9) ?hd (xs := ([] : List Int)) (inner := []) (ok := fun _ => True) (okp := fun _ => True) ?hr ?hp (fun _ hk => hk) trivial (Below.refl _ _) (Nat.le_refl _) (by simp) ?_; (case hd => rfl); (case hg => rfl); (case hr => first | (go_simp; done) | (go_simp; rfl)); (case hp => exact (Reps.none _ _)); intro v102 w6 ho7 hb hg_ hnew_; clear hg_ hnew_; (first | rw [← Ny101.out] at ho7 | (simp only [Int.reduceToNat] at ho7; rw [← Ny101.out] at ho7)); have n_ := y4 (Kd.R_lower ho7 (keep_size (w := w) (g := g) (row := none) (zK))) (IsS65.below (zI) hb) (KeepBut.trans (zK) (KeepBut.of_below hb g none) (.inl rfl)) (below_step (zB) hb); clear HI0 HK HB; obtain ⟨HO103, HI0, HK, HB⟩ := n_; clear hb ho7) | ((with_reducible refine gate_dst (N := 11) rfl ?_); refine Kd.R_lit (Kd.int .i64) _ 2 ?hg (N := 11) ?hd (xs := ([1, 4, 20] : List Int)) (inner := [.int .i64 1, .int .i64 4, .int .i64 20]) (ok := fun _ => True) (okp := fun _ => True) ?hr ?hp (fun _ hk => hk) trivial (Below.refl _ _) (Nat.le_refl _) (by simp) ?_; (case hd => rfl); (case hg => rfl); (case hr => first | (go_simp; done) | (go_simp; rfl)); (case hp => exact (Reps.one (show Kd.M (Kd.int .i64) _ _ _ 1 [.int .i64 1] from rfl) (Reps.one (show Kd.M (Kd.int .i64) _ _ _ 4 [.int .i64 4] from rfl) (Reps.one (show Kd.M (Kd.int .i64) _ _ _ 20 [.int .i64 20] from rfl) (Reps.none _ _))))); intro v105 w8 ho9 hb hg_ hnew_; clear hg_ hnew_; (first | rw [← Ny104.out] at ho9 | (simp only [Int.reduceToNat] at ho9; rw [← Ny104.out] at ho9)); have n_ := y5 (Kd.R_elder' (zR HO103.out) (Kd.R_base ho9) hb) (Kd.R_lower (Kd.R_new' ho9 (Kd.R_lt (zR HO103.out))) (keep_size (w := w) (g := g) (row := none) (zK))) (IsS65.below (zI) hb) (KeepBut.trans (zK) (KeepBut.of_below hb g none) (.inl rfl)) (below_step (zB) hb); clear HO103 HI0 HK HB; obtain ⟨HO103, HO106, HI0, HK, HB⟩ := n_; clear hb ho9; obtain ⟨Ao10, co10, eo10⟩ := Kd.R_slice HO106.out; subst eo10) | ((with_reducible refine gate_callee (f := 37) rfl ?_); refine goesL_ (some 12) rfl rfl Try.func37 zk rfl #[.pointer (some ⟨g, 0, none⟩), .slice Ao10 y104.length co10] rfl zA ?_; (with_reducible refine (spec_l01Pick.calls g s0_0 s0_1 s0_2 _ _ y104 t107 t108 t109 w0 _ ?side1 ?side2 ?side3 ?side4 ?side5 A3.out).mono ?_); (case side1 => exact zI); (case side2 => exact zB); (case side3 => exact zC (Kd.R_reads' HO106.out).2.2); (case side4 => exact (Kd.R_reads' HO106.out).2.1); (case side5 => exact far_slice (IsS65.own_ne HI0.out HO106.out (by decide))); rintro e w11 ⟨rfl, hi, hb, hk⟩; refine ⟨_, rfl, ?_⟩; have n_ := y5 (Kd.R_mono (Kd.R_keep (IsS65.apart (show IsS65 w0 _ g s0_0 s0_1 s0_2 from zI) (zR HO103.out) (by decide)) hk (fun _ h => h.2)) (fun _ h => h.1)) (Kd.R_mono (Kd.R_keep (IsS65.apart (show IsS65 w0 _ g s0_0 s0_1 s0_2 from zI) (zR HO106.out) (by decide)) hk (fun _ h => h.2)) (fun _ h => h.1)) (KeepBut.trans (zK) hk (.inl rfl)) (hb) (hi); clear HO103 HO106 HK HB HI0; obtain ⟨HO103, HO106, HK, HB, HI0⟩ := n_; (try clear hb); (try clear hb2); (try clear hk); (try clear hi)) | ((with_reducible refine gate_dst (N := 15) rfl ?_); refine Kd.R_lit (Kd.int .i64) _ 2 ?hg (N := 15) ?hd (xs := ([6, 12, 40, 120] : List Int)) (inner := [.int .i64 6, .int .i64 12, .int .i64 40, .int .i64 120]) (ok := fun _ => True) (okp := fun _ => True) ?hr ?hp (fun _ hk => hk) trivial (Below.refl _ _) (Nat.le_refl _) (by simp) ?_; (case hd => rfl); (case hg => rfl); (case hr => first | (go_simp; done) | (go_simp; rfl)); (case hp => exact (Reps.one (show Kd.M (Kd.int .i64) _ _ _ 6 [.int .i64 6] from rfl) (Reps.one (show Kd.M (Kd.int .i64) _ _ _ 12 [.int .i64 12] from rfl) (Reps.one (show Kd.M (Kd.int .i64) _ _ _ 40 [.int .i64 40] from rfl) (Reps.one (show Kd.M (Kd.int .i64) _ _ _ 120 [.int .i64 120] from rfl) (Reps.none _ _)))))); intro v111 w12 ho13 hb hg_ hnew_; clear hg_ hnew_; (first | rw [← Ny110.out] at ho13 | (simp only [Int.reduceToNat] at ho13; rw [← Ny110.out] at ho13)); have n_ := y6 (Kd.R_elder' (zR HO103.out) (Kd.R_base ho13) hb) (Kd.R_elder' (zR HO106.out) (Kd.R_base ho13) hb) (Kd.R_lower (Kd.R_new' (Kd.R_new' ho13 (Kd.R_lt (zR HO103.out))) (Kd.R_lt (zR HO106.out))) (keep_size (w := w) (g := g) (row := none) (zK))) (IsS65.below (zI) hb) (KeepBut.trans (zK) (KeepBut.of_below hb g none) (.inl rfl)) (below_step (zB) hb); clear HO103 HO106 HI0 HK HB; obtain ⟨HO103, HO106, HO112, HI0, HK, HB⟩ := n_; clear hb ho13; obtain ⟨Ao14, co14, eo14⟩ := Kd.R_slice HO112.out; subst eo14) | ((with_reducible refine gate_callee (f := 37) rfl ?_); refine goesL_ (some 16) rfl rfl Try.func37 zk rfl #[.pointer (some ⟨g, 0, none⟩), .slice Ao14 y110.length co14] rfl zA ?_; (with_reducible refine (spec_l01Pick.calls g s0_0 t108 t109 _ _ y110 t113 t114 t115 w0 _ ?side1 ?side2 ?side3 ?side4 ?side5 A4.out).mono ?_); (case side1 => exact zI); (case side2 => exact zB); (case side3 => exact zC (Kd.R_reads' HO112.out).2.2); (case side4 => exact (Kd.R_reads' HO112.out).2.1); (case side5 => exact far_slice (IsS65.own_ne HI0.out HO112.out (by decide))); rintro e w15 ⟨rfl, hi, hb, hk⟩; refine ⟨_, rfl, ?_⟩; have n_ := y6 (Kd.R_mono (Kd.R_keep (IsS65.apart (show IsS65 w0 _ g s0_0 t108 t109 from zI) (zR HO103.out) (by decide)) hk (fun _ h => h.2)) (fun _ h => h.1)) (Kd.R_mono (Kd.R_keep (IsS65.apart (show IsS65 w0 _ g s0_0 t108 t109 from zI) (zR HO106.out) (by decide)) hk (fun _ h => h.2)) (fun _ h => h.1)) (Kd.R_mono (Kd.R_keep (IsS65.apart (show IsS65 w0 _ g s0_0 t108 t109 from zI) (zR HO112.out) (by decide)) hk (fun _ h => h.2)) (fun _ h => h.1)) (KeepBut.trans (zK) hk (.inl rfl)) (hb) (hi); clear HO103 HO106 HO112 HK HB HI0; obtain ⟨HO103, HO106, HO112, HK, HB, HI0⟩ := n_; (try clear hb); (try clear hb2); (try clear hk); (try clear hi)) | ((with_reducible refine gate_callee (f := 45) rfl ?_); refine goesL_ (some 17) rfl rfl Try.func45 zk rfl #[.pointer (some ⟨g, 0, none⟩), .int .i64 t113] rfl zA ?_; (with_reducible refine (spec_l01Next.calls g s0_0 t114 t115 t113 t116 t117 t118 w0 _ ?side1 ?side2 A5.out).mono ?_); (case side1 => exact zI); (case side2 => exact zB); rintro e w16 ⟨rfl, hi, hb, hk⟩; refine ⟨_, rfl, ?_⟩; have n_ := y6 (Kd.R_mono (Kd.R_keep (IsS65.apart (show IsS65 w0 _ g s0_0 t114 t115 from zI) (zR HO103.out) (by decide)) hk (fun _ h => h.2)) (fun _ h => h.1)) (Kd.R_mono (Kd.R_keep (IsS65.apart (show IsS65 w0 _ g s0_0 t114 t115 from zI) (zR HO106.out) (by decide)) hk (fun _ h => h.2)) (fun _ h => h.1)) (Kd.R_mono (Kd.R_keep (IsS65.apart (show IsS65 w0 _ g s0_0 t114 t115 from zI) (zR HO112.out) (by decide)) hk (fun _ h => h.2)) (fun _ h => h.1)) (KeepBut.trans (zK) hk (.inl rfl)) (hb) (hi); clear HO103 HO106 HO112 HK HB HI0; obtain ⟨HO103, HO106, HO112, HK, HB, HI0⟩ := n_; (try clear hb); (try clear hb2); (try clear hk); (try clear hi)))
 go_loopg [5, 7] k (fun kq v5 v7 w' => ∃ (x5_1 : List Int) (x7_1 : Int) (x1001_1 : Int) (x1002_1 : Int), v7 = .int .i64 x7_1 ∧ Aside0 (spec_l01DrawTurns.l0 kq a1 x5_1 t107 x7_1 s0_0 x1001_1 x1002_1 = some (r1, r2, r3)) ∧ Aside0 (kq ≤ k) ∧ Aside0 (Kd.R (Kd.int .i64) 2 w' w.heap.size (fun _ => True) v5 x5_1) ∧ Aside0 (IsS65 w0 w' g s0_0 x1001_1 x1002_1) ∧ Aside0 (KeepBut w w' g none) ∧ Aside0 (Below w0.heap.size w0 w'))
 case atStart => exact ⟨(y101), (wrap64 (1 + t116)), (t117), (t118), zF, H', ⟨Nat.le_refl _⟩, ⟨by refine zR ?_; exact Kd.R_mono HO103.out (fun _ hk => trivial)⟩, ⟨zI⟩, ⟨zK⟩, ⟨zB⟩⟩
 clear H'
 obtain ⟨x5_1, x7_1, x1001_1, x1002_1, rfl, HA, HK1, HO_5, HI0, HK, HB⟩ := hrel
 cases gk with
 | zero => exact absurd HA.out (by simp [spec_l01DrawTurns.l0])
 | succ k1 =>
   have H := HA.out
   clear HA
   simp only [spec_l01DrawTurns.l0] at H
   by_cases c17 : x7_1 > 0
   · rw [if_pos c17] at H
     have c17b0 : decide (0 < x7_1) = true := decide_eq_true c17
     clear c17
     replace H := Option.bind_eq_some_iff.mp H
     obtain ⟨⟨t119, t120, t121⟩, A180, H⟩ := H
     replace H : ((spec_l01Next.f s0_0 t120 t121 (wrap64 (t107 + 3))).bind fun bt122 => (if bt122.1 = 0 then (if x5_1.length < 17592186044416 then (spec_l01DrawTurns.l0 k1 a1 (x5_1 ++ [(-1)]) t107 (wrap64 (x7_1 - 1)) s0_0 bt122.2.1 bt122.2.2) else (none)) else (if x5_1.length < 17592186044416 then (spec_l01DrawTurns.l0 k1 a1 (x5_1 ++ [t119]) t107 (wrap64 (x7_1 - 1)) s0_0 bt122.2.1 bt122.2.2) else (none)))) = some (r1, r2, r3) := H
     have A18 := Aside0.mk A180
     clear A180
     replace H := Option.bind_eq_some_iff.mp H
     obtain ⟨⟨t122, t123, t124⟩, A190, H⟩ := H
     replace H : (if t122 = 0 then (if x5_1.length < 17592186044416 then (spec_l01DrawTurns.l0 k1 a1 (x5_1 ++ [(-1)]) t107 (wrap64 (x7_1 - 1)) s0_0 t123 t124) else (none)) else (if x5_1.length < 17592186044416 then (spec_l01DrawTurns.l0 k1 a1 (x5_1 ++ [t119]) t107 (wrap64 (x7_1 - 1)) s0_0 t123 t124) else (none))) = some (r1, r2, r3) := H
     have A19 := Aside0.mk A190
     clear A190
     by_cases c20 : t122 = 0
     · rw [if_pos c20] at H
       have c20b0 : (t122 == 0) = true := beq_iff_eq.mpr c20
       have c20b1 : (t122 != 0) = false := bne_eq_false_iff_eq.mpr c20
       clear c20
       by_cases c21 : x5_1.length < 17592186044416
       · rw [if_pos c21] at H
         have LMc21 := Aside0.mk c21
         clear c21
         obtain ⟨y125, hy125⟩ : ∃ y_ : List Int, y_ = (x5_1 ++ [(-1)]) := ⟨_, rfl⟩
         replace H : (spec_l01DrawTurns.l0 k1 a1 y125 t107 (wrap64 (x7_1 - 1)) s0_0 t123 t124) = some (r1, r2, r3) := zH hy125
         have Ny125 := Aside0.mk hy125
         clear hy125
         have H' := Aside0.mk H
         clear H
         go_wp2_with (first | ((with_reducible refine gate_callee (f := 45) rfl ?_); refine goesL_ (some 25) rfl rfl Try.func45 zk rfl #[.pointer (some ⟨g, 0, none⟩), .int .i64 a1] rfl zA ?_; (with_reducible refine (spec_l01Next.calls g s0_0 x1001_1 x1002_1 a1 t119 t120 t121 w0 _ ?side1 ?side2 A18.out).mono ?_); (case side1 => exact zI); (case side2 => exact zB); rintro e w22 ⟨rfl, hi, hb, hk⟩; refine ⟨_, rfl, ?_⟩; have n_ := y4 (Kd.R_mono (Kd.R_keep (IsS65.apart (show IsS65 w0 _ g s0_0 x1001_1 x1002_1 from zI) (zR HO_5.out) (by decide)) hk (fun _ h => h.2)) (fun _ h => h.1)) (KeepBut.trans (zK) hk (.inl rfl)) (hb) (hi); clear HO_5 HK HB HI0; obtain ⟨HO_5, HK, HB, HI0⟩ := n_; (try clear hb); (try clear hb2); (try clear hk); (try clear hi)) | ((with_reducible refine gate_callee (f := 45) rfl ?_); refine goesL_ (some 29) rfl rfl Try.func45 zk rfl #[.pointer (some ⟨g, 0, none⟩), .int .i64 (wrap64 (t107 + 3))] rfl zA ?_; (with_reducible refine (spec_l01Next.calls g s0_0 t120 t121 (wrap64 (t107 + 3)) t122 t123 t124 w0 _ ?side1 ?side2 A19.out).mono ?_); (case side1 => exact zI); (case side2 => exact zB); rintro e w23 ⟨rfl, hi, hb, hk⟩; refine ⟨_, rfl, ?_⟩; have n_ := y4 (Kd.R_mono (Kd.R_keep (IsS65.apart (show IsS65 w0 _ g s0_0 t120 t121 from zI) (zR HO_5.out) (by decide)) hk (fun _ h => h.2)) (fun _ h => h.1)) (KeepBut.trans (zK) hk (.inl rfl)) (hb) (hi); clear HO_5 HK HB HI0; obtain ⟨HO_5, HK, HB, HI0⟩ := n_; (try clear hb); (try clear hb2); (try clear hk); (try clear hi)) | ((with_reducible refine gate_builtin (b := .append) (xs := #[.tmp 31, .tmp 33]) rfl ?_); at_builtin; refine Kd.R_append (Kd.int .i64) w.heap.size rfl (.tmp 31) (.tmp 33) 24 2 (.int .i64 0) 8 rfl Try.underlying24 info2 rfl (by decide) (by omega) u5 x5_1 (-1) [.int .i64 (-1)] (fun _ => True) (fun _ => False) rfl rfl ?aP (fun _ hk => hk.elim) ?aF ?aO (Below.refl _ _) ?aS ?aL ?_; (case aP => exact rfl); (case aF => exact (fun _ _ => trivial)); (case aO => exact (zR HO_5.out)); (case aS => exact (keep_size (w := w) (g := g) (row := none) (zK))); (case aL => have := LMc21.out; omega); intro v126 w24 ho hb hg hat; rw [← Ny125.out] at ho; have n_ := y4 (IsS65.grown (zI) hg (IsS65.own_ne HI0.out HO_5.out (by decide))) (below_weaken (zB) HL.out hb) (KeepBut.trans (zK) (KeepBut.of_grown hg g) (Kd.R_base2 HO_5.out)) (ho); clear HI0 HB HK HO_5; obtain ⟨HI0, HB, HK, HO127⟩ := n_; clear ho hb hg hat))
         go_roundg k1
         case measure => have := HK1.out; omega
         case rel => exact ⟨(y125), (wrap64 (x7_1 - 1)), (t123), (t124), zF, H', ⟨by have := HK1.out; omega⟩, ⟨zR HO127.out⟩, ⟨zI⟩, ⟨zK⟩, ⟨zB⟩⟩
       · rw [if_neg c21] at H
         exact absurd H (by simp)
     · rw [if_neg c20] at H
       have c20b0 : (t122 == 0) = false := beq_eq_false_iff_ne.mpr c20
       have c20b1 : (t122 != 0) = true := bne_iff_ne.mpr c20
       by_cases c25 : x5_1.length < 17592186044416
       · rw [if_pos c25] at H
         have LMc25 := Aside0.mk c25
         clear c25
         obtain ⟨y128, hy128⟩ : ∃ y_ : List Int, y_ = (x5_1 ++ [t119]) := ⟨_, rfl⟩
         replace H : (spec_l01DrawTurns.l0 k1 a1 y128 t107 (wrap64 (x7_1 - 1)) s0_0 t123 t124) = some (r1, r2, r3) := zH hy128
         have Ny128 := Aside0.mk hy128
         clear hy128
         have H' := Aside0.mk H
         clear H
         go_wp2_with (first | ((with_reducible refine gate_callee (f := 45) rfl ?_); refine goesL_ (some 25) rfl rfl Try.func45 zk rfl #[.pointer (some ⟨g, 0, none⟩), .int .i64 a1] rfl zA ?_; (with_reducible refine (spec_l01Next.calls g s0_0 x1001_1 x1002_1 a1 t119 t120 t121 w0 _ ?side1 ?side2 A18.out).mono ?_); (case side1 => exact zI); (case side2 => exact zB); rintro e w26 ⟨rfl, hi, hb, hk⟩; refine ⟨_, rfl, ?_⟩; have n_ := y4 (Kd.R_mono (Kd.R_keep (IsS65.apart (show IsS65 w0 _ g s0_0 x1001_1 x1002_1 from zI) (zR HO_5.out) (by decide)) hk (fun _ h => h.2)) (fun _ h => h.1)) (KeepBut.trans (zK) hk (.inl rfl)) (hb) (hi); clear HO_5 HK HB HI0; obtain ⟨HO_5, HK, HB, HI0⟩ := n_; (try clear hb); (try clear hb2); (try clear hk); (try clear hi)) | ((with_reducible refine gate_callee (f := 45) rfl ?_); refine goesL_ (some 29) rfl rfl Try.func45 zk rfl #[.pointer (some ⟨g, 0, none⟩), .int .i64 (wrap64 (t107 + 3))] rfl zA ?_; (with_reducible refine (spec_l01Next.calls g s0_0 t120 t121 (wrap64 (t107 + 3)) t122 t123 t124 w0 _ ?side1 ?side2 A19.out).mono ?_); (case side1 => exact zI); (case side2 => exact zB); rintro e w27 ⟨rfl, hi, hb, hk⟩; refine ⟨_, rfl, ?_⟩; have n_ := y4 (Kd.R_mono (Kd.R_keep (IsS65.apart (show IsS65 w0 _ g s0_0 t120 t121 from zI) (zR HO_5.out) (by decide)) hk (fun _ h => h.2)) (fun _ h => h.1)) (KeepBut.trans (zK) hk (.inl rfl)) (hb) (hi); clear HO_5 HK HB HI0; obtain ⟨HO_5, HK, HB, HI0⟩ := n_; (try clear hb); (try clear hb2); (try clear hk); (try clear hi)) | ((with_reducible refine gate_builtin (b := .append) (xs := #[.tmp 31, .tmp 33]) rfl ?_); at_builtin; refine Kd.R_append (Kd.int .i64) w.heap.size rfl (.tmp 31) (.tmp 33) 24 2 (.int .i64 0) 8 rfl Try.underlying24 info2 rfl (by decide) (by omega) u5 x5_1 t119 [.int .i64 t119] (fun _ => True) (fun _ => False) rfl rfl ?aP (fun _ hk => hk.elim) ?aF ?aO (Below.refl _ _) ?aS ?aL ?_; (case aP => exact rfl); (case aF => exact (fun _ _ => trivial)); (case aO => exact (zR HO_5.out)); (case aS => exact (keep_size (w := w) (g := g) (row := none) (zK))); (case aL => have := LMc25.out; omega); intro v129 w28 ho hb hg hat; rw [← Ny128.out] at ho; have n_ := y4 (IsS65.grown (zI) hg (IsS65.own_ne HI0.out HO_5.out (by decide))) (below_weaken (zB) HL.out hb) (KeepBut.trans (zK) (KeepBut.of_grown hg g) (Kd.R_base2 HO_5.out)) (ho); clear HI0 HB HK HO_5; obtain ⟨HI0, HB, HK, HO130⟩ := n_; clear ho hb hg hat))
         go_roundg k1
         case measure => have := HK1.out; omega
         case rel => exact ⟨(y128), (wrap64 (x7_1 - 1)), (t123), (t124), zF, H', ⟨by have := HK1.out; omega⟩, ⟨zR HO130.out⟩, ⟨zI⟩, ⟨zK⟩, ⟨zB⟩⟩
       · rw [if_neg c25] at H
         exact absurd H (by simp)
   · rw [if_neg c17] at H
     have c17b0 : decide (0 < x7_1) = false := decide_eq_false c17
     clear c17
     simp only [Option.some.injEq, Prod.mk.injEq] at H
     obtain ⟨rfl, rfl, rfl⟩ := H
     go_wp2
     go_ret
     exact ⟨_, zE, zR HO_5.out, zI, zB, zK⟩
end Go.Proofs.Ytgbapmmfhdphmaa.P
end
section
namespace Go.Proofs.Ytgbapmmfhdphmaa.P
open Go.RowKit Go.Proofs.YtgbapmmfhdphmaaW.PrintWords Go.Proofs.YtgbapmmfhdphmaaW.PrintLast Go.Proofs.YtgbapmmfhdphmaaW.PrintMore
attribute [local go_sem] max2_int min2_int max_two min_two max_three min_three max_four min_four   -- for this text's walks alone
set_option linter.unusedVariables false
set_option linter.unusedSimpArgs false
def spec_l01Waits.l0 : Nat → List Int → Int → List Int → Int → Int → Int → Option (List Int)
  | 0, _, _, _, _, _, _ => none
  | k + 1, x0, x1, x5, x6, x7, x8 => if x8 < (x0.length : Int) then (if 0 ≤ x8 then (if (rd x0 x8) = x1 then (if x6 < 0 then (spec_l01Waits.l0 k x0 x1 x5 x8 x8 (wrap64 (x8 + 1))) else (if x5.length < 17592186044416 then (spec_l01Waits.l0 k x0 x1 (x5 ++ [wrap64 (x8 - x7)]) x6 x8 (wrap64 (x8 + 1))) else (none))) else (spec_l01Waits.l0 k x0 x1 x5 x6 x7 (wrap64 (x8 + 1)))) else (none)) else (if x6 ≥ 0 then (if x5.length < 17592186044416 then (some (x5 ++ [wrap64 ((wrap64 ((x0.length : Int) - x7)) + x6)])) else (none)) else (some x5))
def spec_l01Waits.f (k : Nat) (l0 : List Int) (a1 : Int) : Option (List Int) := spec_l01Waits.l0 k l0 a1 (([] : List Int)) (-1) (-1) 0
theorem spec_l01Waits.mono_l : ∀ k, (∀ y0 y1 y2 y3 y4 y5, LeO (spec_l01Waits.l0 k y0 y1 y2 y3 y4 y5) (spec_l01Waits.l0 (k + 1) y0 y1 y2 y3 y4 y5))
  | 0 => fun _ _ _ _ _ _ r h => by simp [spec_l01Waits.l0] at h
  | k + 1 => by
    have ih0 := spec_l01Waits.mono_l k
    · intro y0 y1 y2 y3 y4 y5
      unfold spec_l01Waits.l0
      repeat' first | (with_reducible exact ih0 _ _ _ _ _ _) | (with_reducible exact LeO.refl _) | (with_reducible exact LeO.none _) | (with_reducible refine LeO.ite ?_ ?_) | (with_reducible refine LeO.bind ?_ (fun _ => ?_)) | exact ih0 _ _ _ _ _ _ | exact LeO.none _ | refine LeO.ite ?_ ?_ | refine LeO.bind ?_ (fun _ => ?_)
theorem spec_l01Waits.mono : ∀ a0 a1 k, LeO (spec_l01Waits.f k a0 a1) (spec_l01Waits.f (k + 1) a0 a1) := by
  intro a0 a1 k
  have ih0 := spec_l01Waits.mono_l k
  unfold spec_l01Waits.f
  repeat' first | (with_reducible exact ih0 _ _ _ _ _ _) | (with_reducible exact LeO.refl _) | (with_reducible exact LeO.none _) | (with_reducible refine LeO.ite ?_ ?_) | (with_reducible refine LeO.bind ?_ (fun _ => ?_)) | exact ih0 _ _ _ _ _ _ | exact LeO.none _ | refine LeO.ite ?_ ?_ | refine LeO.bind ?_ (fun _ => ?_)
set_option maxHeartbeats 8000000 in
set_option maxRecDepth 100000 in
theorem spec_l01Waits.calls (k : Nat) (A0 : Option Addr) (c0 : Nat) (l0 : List Int) (a1 : Int) (r : List Int) (w : World) (hr0 : Kd.C (Kd.int .i64) w A0 l0.length l0) (hc0 : l0.length ≤ c0) (h : spec_l01Waits.f k l0 a1 = some r) :
    Calls Try.prog 79 #[.slice A0 l0.length c0, .int .i64 a1] w fun e w' => ∃ v0_ : Value, e = .returned (v0_) ∧ Kd.R (Kd.int .i64) 2 w' w.heap.size (fun _ => True) v0_ r ∧ Below w.heap.size w w' := by
 have HR0 := Aside0.mk hr0
 have HC0 := Aside0.mk hc0
 clear hr0 hc0
 have HB := Aside0.mk (Below.refl w.heap.size w)
 have H : (spec_l01Waits.l0 k l0 a1 (([] : List Int)) (-1) (-1) 0) = some r := h
 clear h
 obtain ⟨y101, hy101⟩ : ∃ y_ : List Int, y_ = (([] : List Int)) := ⟨_, rfl⟩
 replace H : (spec_l01Waits.l0 k l0 a1 y101 (-1) (-1) 0) = some r := zH hy101
 have Ny101 := Aside0.mk hy101
 clear hy101
 have H' := Aside0.mk H
 clear H
 go_enter Try.func79, Try.ntmps79
 go_wp2_with (first | ((with_reducible refine gate_dst (N := 9) rfl ?_); refine Kd.R_lit (Kd.int .i64) _ 2 ?hg (N := 9) ?hd (xs := ([] : List Int)) (inner := []) (ok := fun _ => True) (okp := fun _ => True) ?hr ?hp (fun _ hk => hk) trivial (Below.refl _ _) (Nat.le_refl _) (by simp) ?_; (case hd => rfl); (case hg => rfl); (case hr => first | (go_simp; done) | (go_simp; rfl)); (case hp => exact (Reps.none _ _)); intro v102 w3 ho4 hb hg_ hnew_; clear hg_ hnew_; (first | rw [← Ny101.out] at ho4 | (simp only [Int.reduceToNat] at ho4; rw [← Ny101.out] at ho4)); have n_ := y2 (Kd.R_lower ho4 (below_size (zB))) (below_step (zB) hb); clear HB; obtain ⟨HO103, HB⟩ := n_; clear hb ho4))
 go_loopg [5, 6, 7, 8] k (fun kq v5 v6 v7 v8 w' => ∃ (x5_1 : List Int) (x6_1 : Int) (x7_1 : Int) (x8_1 : Int), v6 = .int .i64 x6_1 ∧ v7 = .int .i64 x7_1 ∧ v8 = .int .i64 x8_1 ∧ Aside0 (spec_l01Waits.l0 kq l0 a1 x5_1 x6_1 x7_1 x8_1 = some r) ∧ Aside0 (kq ≤ k) ∧ Aside0 (Kd.R (Kd.int .i64) 2 w' w.heap.size (fun _ => True) v5 x5_1) ∧ Aside0 (Below w.heap.size w w'))
 case atStart => exact ⟨(y101), ((-1)), ((-1)), (0), zF, zF, zF, H', ⟨Nat.le_refl _⟩, ⟨zR HO103.out⟩, ⟨zB⟩⟩
 clear H'
 obtain ⟨x5_1, x6_1, x7_1, x8_1, rfl, rfl, rfl, HA, HK1, HO_5, HB⟩ := hrel
 cases gk with
 | zero => exact absurd HA.out (by simp [spec_l01Waits.l0])
 | succ k1 =>
   have H := HA.out
   clear HA
   simp only [spec_l01Waits.l0] at H
   by_cases c5 : x8_1 < (l0.length : Int)
   · rw [if_pos c5] at H
     have c5b0 : decide (x8_1 < (l0.length : Int)) = true := decide_eq_true c5
     clear c5
     by_cases c6 : 0 ≤ x8_1
     · rw [if_pos c6] at H
       have c6b0 : decide (0 ≤ x8_1) = true := decide_eq_true c6
       clear c6
       by_cases c7 : (rd l0 x8_1) = a1
       · rw [if_pos c7] at H
         have c7b0 : ((rd l0 x8_1) == a1) = true := beq_iff_eq.mpr c7
         have c7b1 : ((rd l0 x8_1) != a1) = false := bne_eq_false_iff_eq.mpr c7
         clear c7
         by_cases c8 : x6_1 < 0
         · rw [if_pos c8] at H
           have c8b0 : decide (x6_1 < 0) = true := decide_eq_true c8
           clear c8
           have H' := Aside0.mk H
           clear H
           have p107 : 0 ≤ (x8_1 : Int) := zD
           have q107 : x8_1 < (l0.length : Int) := zD
           obtain ⟨ad107, e107, hx107_0⟩ := Kd.at_int HR0.out x8_1 p107 q107
           cases e107
           replace hx107_0 := (HB.out.cell (World.block_lt_of_cell? w _ hx107_0)).trans hx107_0
           replace p107 := eq_true p107
           replace q107 := eq_true q107
           go_wp2
           go_roundg k1
           case measure => have := HK1.out; omega
           case rel => exact ⟨(x5_1), (x8_1), (x8_1), (wrap64 (x8_1 + 1)), zF, zF, zF, H', ⟨by have := HK1.out; omega⟩, ⟨zR HO_5.out⟩, ⟨zB⟩⟩
         · rw [if_neg c8] at H
           have c8b0 : decide (x6_1 < 0) = false := decide_eq_false c8
           clear c8
           by_cases c9 : x5_1.length < 17592186044416
           · rw [if_pos c9] at H
             have LMc9 := Aside0.mk c9
             clear c9
             obtain ⟨y108, hy108⟩ : ∃ y_ : List Int, y_ = (x5_1 ++ [wrap64 (x8_1 - x7_1)]) := ⟨_, rfl⟩
             replace H : (spec_l01Waits.l0 k1 l0 a1 y108 x6_1 x8_1 (wrap64 (x8_1 + 1))) = some r := zH hy108
             have Ny108 := Aside0.mk hy108
             clear hy108
             have H' := Aside0.mk H
             clear H
             have p107 : 0 ≤ (x8_1 : Int) := zD
             have q107 : x8_1 < (l0.length : Int) := zD
             obtain ⟨ad107, e107, hx107_0⟩ := Kd.at_int HR0.out x8_1 p107 q107
             cases e107
             replace hx107_0 := (HB.out.cell (World.block_lt_of_cell? w _ hx107_0)).trans hx107_0
             replace p107 := eq_true p107
             replace q107 := eq_true q107
             go_wp2_with (first | ((with_reducible refine gate_builtin (b := .append) (xs := #[.tmp 25, .tmp 29]) rfl ?_); at_builtin; refine Kd.R_append (Kd.int .i64) (w0 := w) w.heap.size rfl (.tmp 25) (.tmp 29) 24 2 (.int .i64 0) 8 rfl Try.underlying24 info2 rfl (by decide) (by omega) u5 x5_1 (wrap64 (x8_1 - x7_1)) [.int .i64 (wrap64 (x8_1 - x7_1))] (fun _ => True) (fun _ => False) rfl rfl ?aP (fun _ hk => hk.elim) ?aF ?aO ?aB ?aS ?aL ?_; (case aP => exact rfl); (case aB => exact (zB)); (case aF => exact (fun _ _ => trivial)); (case aO => exact (zR HO_5.out)); (case aS => exact (below_size (zB))); (case aL => have := LMc9.out; omega); intro v109 w10 ho hb hg hat; rw [← Ny108.out] at ho; have n_ := y2 (hb) (ho); clear HB HO_5; obtain ⟨HB, HO110⟩ := n_; clear ho hb hg hat))
             go_roundg k1
             case measure => have := HK1.out; omega
             case rel => exact ⟨(y108), (x6_1), (x8_1), (wrap64 (x8_1 + 1)), zF, zF, zF, H', ⟨by have := HK1.out; omega⟩, ⟨zR HO110.out⟩, ⟨zB⟩⟩
           · rw [if_neg c9] at H
             exact absurd H (by simp)
       · rw [if_neg c7] at H
         have c7b0 : ((rd l0 x8_1) == a1) = false := beq_eq_false_iff_ne.mpr c7
         have c7b1 : ((rd l0 x8_1) != a1) = true := bne_iff_ne.mpr c7
         have H' := Aside0.mk H
         clear H
         have p107 : 0 ≤ (x8_1 : Int) := zD
         have q107 : x8_1 < (l0.length : Int) := zD
         obtain ⟨ad107, e107, hx107_0⟩ := Kd.at_int HR0.out x8_1 p107 q107
         cases e107
         replace hx107_0 := (HB.out.cell (World.block_lt_of_cell? w _ hx107_0)).trans hx107_0
         replace p107 := eq_true p107
         replace q107 := eq_true q107
         go_wp2
         go_roundg k1
         case measure => have := HK1.out; omega
         case rel => exact ⟨(x5_1), (x6_1), (x7_1), (wrap64 (x8_1 + 1)), zF, zF, zF, H', ⟨by have := HK1.out; omega⟩, ⟨zR HO_5.out⟩, ⟨zB⟩⟩
     · rw [if_neg c6] at H
       exact absurd H (by simp)
   · rw [if_neg c5] at H
     have c5b0 : decide (x8_1 < (l0.length : Int)) = false := decide_eq_false c5
     clear c5
     by_cases c11 : x6_1 ≥ 0
     · rw [if_pos c11] at H
       have c11b0 : decide (0 ≤ x6_1) = true := decide_eq_true c11
       clear c11
       by_cases c12 : x5_1.length < 17592186044416
       · rw [if_pos c12] at H
         have LMc12 := Aside0.mk c12
         clear c12
         obtain ⟨y104, hy104⟩ : ∃ y_ : List Int, y_ = (x5_1 ++ [wrap64 ((wrap64 ((l0.length : Int) - x7_1)) + x6_1)]) := ⟨_, rfl⟩
         replace H : (some y104) = some r := zH hy104
         have Ny104 := Aside0.mk hy104
         clear hy104
         obtain rfl := Option.some.inj H
         go_wp2_with (first | ((with_reducible refine gate_builtin (b := .append) (xs := #[.tmp 34, .tmp 41]) rfl ?_); at_builtin; refine Kd.R_append (Kd.int .i64) (w0 := w) w.heap.size rfl (.tmp 34) (.tmp 41) 24 2 (.int .i64 0) 8 rfl Try.underlying24 info2 rfl (by decide) (by omega) u5 x5_1 (wrap64 ((wrap64 ((l0.length : Int) - x7_1)) + x6_1)) [.int .i64 (wrap64 ((wrap64 ((l0.length : Int) - x7_1)) + x6_1))] (fun _ => True) (fun _ => False) rfl rfl ?aP (fun _ hk => hk.elim) ?aF ?aO ?aB ?aS ?aL ?_; (case aP => exact rfl); (case aB => exact (zB)); (case aF => exact (fun _ _ => trivial)); (case aO => exact (zR HO_5.out)); (case aS => exact (below_size (zB))); (case aL => have := LMc12.out; omega); intro v105 w13 ho hb hg hat; rw [← Ny104.out] at ho; have n_ := y2 (hb) (ho); clear HB HO_5; obtain ⟨HB, HO106⟩ := n_; clear ho hb hg hat))
         go_ret
         exact ⟨_, zE, zR HO106.out, zB⟩
       · rw [if_neg c12] at H
         exact absurd H (by simp)
     · rw [if_neg c11] at H
       have c11b0 : decide (0 ≤ x6_1) = false := decide_eq_false c11
       clear c11
       obtain rfl := Option.some.inj H
       go_wp2
       go_ret
       exact ⟨_, zE, zR HO_5.out, zB⟩
end Go.Proofs.Ytgbapmmfhdphmaa.P
end
section
namespace Go.Proofs.Ytgbapmmfhdphmaa.P
open Go.RowKit Go.Proofs.YtgbapmmfhdphmaaW.PrintWords Go.Proofs.YtgbapmmfhdphmaaW.PrintLast Go.Proofs.YtgbapmmfhdphmaaW.PrintMore
attribute [local go_sem] max2_int min2_int max_two min_two max_three min_three max_four min_four   -- for this text's walks alone
set_option linter.unusedVariables false
set_option linter.unusedSimpArgs false
def spec_l01Greatest.l0 : Nat → List Int → Int → Int → Option (Int)
  | 0, _, _, _ => none
  | k + 1, x5, x6, x7 => if x7 < (x5.length : Int) then (if 0 ≤ x7 then (spec_l01Greatest.l0 k x5 (mx x6 (rd x5 x7)) (wrap64 (x7 + 1))) else (none)) else (some x6)
def spec_l01Greatest.f (k : Nat) (l0 : List Int) (a1 : Int) : Option (Int) := (spec_l01Waits.f k l0 a1).bind fun t101 => (spec_l01Greatest.l0 k t101 0 0)
theorem spec_l01Greatest.mono_l : ∀ k, (∀ y0 y1 y2, LeO (spec_l01Greatest.l0 k y0 y1 y2) (spec_l01Greatest.l0 (k + 1) y0 y1 y2))
  | 0 => fun _ _ _ r h => by simp [spec_l01Greatest.l0] at h
  | k + 1 => by
    have ih0 := spec_l01Greatest.mono_l k
    · intro y0 y1 y2
      unfold spec_l01Greatest.l0
      repeat' first | (with_reducible exact ih0 _ _ _) | (with_reducible exact spec_l01Waits.mono _ _ _) | (with_reducible exact LeO.refl _) | (with_reducible exact LeO.none _) | (with_reducible refine LeO.ite ?_ ?_) | (with_reducible refine LeO.bind ?_ (fun _ => ?_)) | exact ih0 _ _ _ | exact spec_l01Waits.mono _ _ _ | exact LeO.none _ | refine LeO.ite ?_ ?_ | refine LeO.bind ?_ (fun _ => ?_)
theorem spec_l01Greatest.mono : ∀ a0 a1 k, LeO (spec_l01Greatest.f k a0 a1) (spec_l01Greatest.f (k + 1) a0 a1) := by
  intro a0 a1 k
  have ih0 := spec_l01Greatest.mono_l k
  unfold spec_l01Greatest.f
  repeat' first | (with_reducible exact ih0 _ _ _) | (with_reducible exact spec_l01Waits.mono _ _ _) | (with_reducible exact LeO.refl _) | (with_reducible exact LeO.none _) | (with_reducible refine LeO.ite ?_ ?_) | (with_reducible refine LeO.bind ?_ (fun _ => ?_)) | exact ih0 _ _ _ | exact spec_l01Waits.mono _ _ _ | exact LeO.none _ | refine LeO.ite ?_ ?_ | refine LeO.bind ?_ (fun _ => ?_)
set_option maxHeartbeats 8000000 in
set_option maxRecDepth 100000 in
theorem spec_l01Greatest.calls (k : Nat) (A0 : Option Addr) (c0 : Nat) (l0 : List Int) (a1 : Int) (r : Int) (w : World) (hr0 : Kd.C (Kd.int .i64) w A0 l0.length l0) (hc0 : l0.length ≤ c0) (h : spec_l01Greatest.f k l0 a1 = some r) :
    Calls Try.prog 74 #[.slice A0 l0.length c0, .int .i64 a1] w fun e w' => e = .returned (.int .i64 r) ∧ Below w.heap.size w w' := by
 have HR0 := Aside0.mk hr0
 have HC0 := Aside0.mk hc0
 clear hr0 hc0
 have HB := Aside0.mk (Below.refl w.heap.size w)
 have H : ((spec_l01Waits.f k l0 a1).bind fun t101 => (spec_l01Greatest.l0 k t101 0 0)) = some r := h
 clear h
 replace H := Option.bind_eq_some_iff.mp H
 obtain ⟨t101, A30, H⟩ := H
 replace H : (spec_l01Greatest.l0 k t101 0 0) = some r := H
 have A3 := Aside0.mk A30
 clear A30
 have H' := Aside0.mk H
 clear H
 go_enter Try.func74, Try.ntmps74
 go_wp2_with (first | ((with_reducible refine gate_callee (f := 79) rfl ?_); refine goesL_ (some 10) rfl rfl Try.func79 zk rfl #[.slice A0 l0.length c0, .int .i64 a1] rfl zA ?_; (with_reducible refine (spec_l01Waits.calls k _ _ l0 a1 t101 _ ?side1 ?side2 A3.out).mono ?_); (case side1 => exact zC HR0.out); (case side2 => exact HC0.out); rintro e w4 ⟨v102, rfl, ho0, hb⟩; refine ⟨_, rfl, ?_⟩; have n_ := y2 (Kd.R_lower ho0 (below_size (zB))) (below_step (zB) hb); clear HB; obtain ⟨HO103, HB⟩ := n_; (try clear hb); (try clear hb2); (try clear hk); (try clear hi); (try clear ho0)))
 go_loopg [6, 7] k (fun kq v6 v7 w' => ∃ (x6_1 : Int) (x7_1 : Int), v6 = .int .i64 x6_1 ∧ v7 = .int .i64 x7_1 ∧ Aside0 (spec_l01Greatest.l0 kq t101 x6_1 x7_1 = some r) ∧ Aside0 (kq ≤ k) ∧ Aside0 (Kd.R (Kd.int .i64) 2 w' w.heap.size (fun _ => True) v102 t101) ∧ Aside0 (Below w.heap.size w w'))
 case atStart => exact ⟨(0), (0), zF, zF, H', ⟨Nat.le_refl _⟩, ⟨zR HO103.out⟩, ⟨zB⟩⟩
 clear H'
 obtain ⟨x6_1, x7_1, rfl, rfl, HA, HK1, HO_5, HB⟩ := hrel
 cases gk with
 | zero => exact absurd HA.out (by simp [spec_l01Greatest.l0])
 | succ k1 =>
   have H := HA.out
   clear HA
   simp only [spec_l01Greatest.l0] at H
   by_cases c5 : x7_1 < (t101.length : Int)
   · rw [if_pos c5] at H
     have c5b0 : decide (x7_1 < (t101.length : Int)) = true := decide_eq_true c5
     clear c5
     by_cases c6 : 0 ≤ x7_1
     · rw [if_pos c6] at H
       have c6b0 : decide (0 ≤ x7_1) = true := decide_eq_true c6
       clear c6
       obtain ⟨ji7, hji7⟩ : ∃ j_ : Int, (mx x6_1 (rd t101 x7_1)) = j_ := ⟨_, rfl⟩
       replace H : (spec_l01Greatest.l0 k1 t101 ji7 (wrap64 (x7_1 + 1))) = some r := by first | (rw [hji7] at H; exact H) | (simp only [hji7] at H ⊢; exact H)
       have hji7_ : (if x6_1 < (rd t101 x7_1) then (rd t101 x7_1) else x6_1) = ji7 := hji7
       have H' := Aside0.mk H
       clear H
       obtain ⟨Ao8, co8, eo8⟩ := Kd.R_slice HO_5.out
       subst eo8
       have p104 : 0 ≤ (x7_1 : Int) := zD
       have q104 : x7_1 < (t101.length : Int) := zD
       obtain ⟨ad104, e104, hx104_0⟩ := Kd.at_int (Kd.R_reads' HO_5.out).2.2 x7_1 p104 q104
       cases e104
       replace p104 := eq_true p104
       replace q104 := eq_true q104
       go_wp2
       go_roundg k1
       case measure => have := HK1.out; omega
       case rel => exact ⟨(ji7), (wrap64 (x7_1 + 1)), (by first | rfl | (simp; done) | (simp only [← hji7] <;> (first | rfl | simp)) | (simp [*]; done)), zF, H', ⟨by have := HK1.out; omega⟩, ⟨zR HO_5.out⟩, ⟨zB⟩⟩
     · rw [if_neg c6] at H
       exact absurd H (by simp)
   · rw [if_neg c5] at H
     have c5b0 : decide (x7_1 < (t101.length : Int)) = false := decide_eq_false c5
     clear c5
     obtain rfl := Option.some.inj H
     obtain ⟨Ao9, co9, eo9⟩ := Kd.R_slice HO_5.out
     subst eo9
     go_wp2
     go_ret
     exact ⟨zE, zB⟩
end Go.Proofs.Ytgbapmmfhdphmaa.P
end
section
namespace Go.Proofs.Ytgbapmmfhdphmaa.P
open Go.RowKit Go.Proofs.YtgbapmmfhdphmaaW.PrintWords Go.Proofs.YtgbapmmfhdphmaaW.PrintLast Go.Proofs.YtgbapmmfhdphmaaW.PrintMore
attribute [local go_sem] max2_int min2_int max_two min_two max_three min_three max_four min_four   -- for this text's walks alone
set_option linter.unusedVariables false
set_option linter.unusedSimpArgs false
mutual
def spec_l01DrawServed.l0 : Nat → Int → List Int → Int → List Int → Int → Int → Option (List Int × List Int × Int × Int)
  | 0, _, _, _, _, _, _ => none
  | k + 1, x4, x5, x6, x1000, x1001, x1002 => if x6 < x4 then (spec_l01DrawServed.j1 k x4 x5 x6 (decide (x6 < (x5.length : Int))) x1000 x1001 x1002) else (spec_l01DrawServed.j1 k x4 x5 x6 false x1000 x1001 x1002)
def spec_l01DrawServed.j1 : Nat → Int → List Int → Int → Bool → List Int → Int → Int → Option (List Int × List Int × Int × Int)
  | 0, _, _, _, _, _, _, _ => none
  | k + 1, x4, x5, x6, x27, x1000, x1001, x1002 => if x27 = true then ((spec_l01Greatest.f k x5 x6).bind fun t116 => (if t116 = 0 then (if 0 ≤ x6 then (if x6 < (x5.length : Int) then (spec_l01DrawServed.l0 k x4 (x5.set (x6 : Int).toNat x6) (wrap64 (x6 + 1)) x1000 x1001 x1002) else (none)) else (none)) else (spec_l01DrawServed.l0 k x4 x5 (wrap64 (x6 + 1)) x1000 x1001 x1002))) else (spec_l01DrawServed.l1 k x4 x5 0 x1000 x1001 x1002 (([] : List Int)))
def spec_l01DrawServed.l1 : Nat → Int → List Int → Int → List Int → Int → Int → List Int → Option (List Int × List Int × Int × Int)
  | 0, _, _, _, _, _, _, _ => none
  | k + 1, x4, x5, x8, x1000, x1001, x1002, x122000 => if x8 < x4 then ((spec_l01Greatest.f k x5 x8).bind fun t122 => (if t122 = 0 then (spec_l01DrawServed.j3 k x4 x5 x8 40 x1000 x1001 x1002 x122000) else (spec_l01DrawServed.j3 k x4 x5 x8 t122 x1000 x1001 x1002 x122000))) else (some (x122000, x5, x1001, x1002))
def spec_l01DrawServed.j3 : Nat → Int → List Int → Int → Int → List Int → Int → Int → List Int → Option (List Int × List Int × Int × Int)
  | 0, _, _, _, _, _, _, _, _ => none
  | k + 1, x4, x5, x8, x9, x1000, x1001, x1002, x122000 => (spec_l01Next.f x1000 x1001 x1002 4).bind fun bt123 => (if bt123.1 = 0 then ((spec_l01Next.f x1000 bt123.2.1 bt123.2.2 4).bind fun bt126 => (if x122000.length < 17592186044416 then (spec_l01DrawServed.l1 k x4 x5 (wrap64 (x8 + 1)) x1000 bt126.2.1 bt126.2.2 (x122000 ++ [mx (mn (wrap64 ((wrap64 (x9 + bt126.1)) - 1)) 40) 1])) else (none))) else (if x122000.length < 17592186044416 then (spec_l01DrawServed.l1 k x4 x5 (wrap64 (x8 + 1)) x1000 bt123.2.1 bt123.2.2 (x122000 ++ [mx (mn x9 40) 1])) else (none)))
end
def spec_l01DrawServed.f (k : Nat) (s0_0 : List Int) (s0_1 : Int) (s0_2 : Int) : Option (List Int × List Int × Int × Int) := (spec_l01Pick.f s0_0 s0_1 s0_2 (([3, 5, 8] : List Int))).bind fun bt105 => ((spec_l01Next.f s0_0 bt105.2.1 bt105.2.2 bt105.1).bind fun bt108 => ((spec_l01DrawTurns.f k s0_0 bt108.2.1 bt108.2.2 (wrap64 (1 + bt108.1))).bind fun bt111 => (spec_l01DrawServed.l0 k (wrap64 (1 + bt108.1)) bt111.1 0 s0_0 bt111.2.1 bt111.2.2)))
theorem spec_l01DrawServed.mono_l : ∀ k, (∀ y0 y1 y2 y3 y4 y5, LeO (spec_l01DrawServed.l0 k y0 y1 y2 y3 y4 y5) (spec_l01DrawServed.l0 (k + 1) y0 y1 y2 y3 y4 y5)) ∧ (∀ y0 y1 y2 y3 y4 y5 y6, LeO (spec_l01DrawServed.j1 k y0 y1 y2 y3 y4 y5 y6) (spec_l01DrawServed.j1 (k + 1) y0 y1 y2 y3 y4 y5 y6)) ∧ (∀ y0 y1 y2 y3 y4 y5 y6, LeO (spec_l01DrawServed.l1 k y0 y1 y2 y3 y4 y5 y6) (spec_l01DrawServed.l1 (k + 1) y0 y1 y2 y3 y4 y5 y6)) ∧ (∀ y0 y1 y2 y3 y4 y5 y6 y7, LeO (spec_l01DrawServed.j3 k y0 y1 y2 y3 y4 y5 y6 y7) (spec_l01DrawServed.j3 (k + 1) y0 y1 y2 y3 y4 y5 y6 y7))
  | 0 => ⟨fun _ _ _ _ _ _ r h => by simp [spec_l01DrawServed.l0] at h, fun _ _ _ _ _ _ _ r h => by simp [spec_l01DrawServed.j1] at h, fun _ _ _ _ _ _ _ r h => by simp [spec_l01DrawServed.l1] at h, fun _ _ _ _ _ _ _ _ r h => by simp [spec_l01DrawServed.j3] at h⟩
  | k + 1 => by
    obtain ⟨ih0, ih1, ih2, ih3⟩ := spec_l01DrawServed.mono_l k
    refine ⟨?_, ?_, ?_, ?_⟩ <;> intros <;> (first | unfold spec_l01DrawServed.l0 | unfold spec_l01DrawServed.j1 | unfold spec_l01DrawServed.l1 | unfold spec_l01DrawServed.j3) <;> repeat' first | (with_reducible exact ih0 _ _ _ _ _ _) | (with_reducible exact ih1 _ _ _ _ _ _ _) | (with_reducible exact ih2 _ _ _ _ _ _ _) | (with_reducible exact ih3 _ _ _ _ _ _ _ _) | (with_reducible exact spec_l01DrawTurns.mono _ _ _ _ _) | (with_reducible exact spec_l01Greatest.mono _ _ _) | (with_reducible exact LeO.refl _) | (with_reducible exact LeO.none _) | (with_reducible refine LeO.ite ?_ ?_) | (with_reducible refine LeO.bind ?_ (fun _ => ?_)) | exact ih0 _ _ _ _ _ _ | exact ih1 _ _ _ _ _ _ _ | exact ih2 _ _ _ _ _ _ _ | exact ih3 _ _ _ _ _ _ _ _ | exact spec_l01DrawTurns.mono _ _ _ _ _ | exact spec_l01Greatest.mono _ _ _ | exact LeO.none _ | refine LeO.ite ?_ ?_ | refine LeO.bind ?_ (fun _ => ?_)
theorem spec_l01DrawServed.mono : ∀ a0 a1 a2 k, LeO (spec_l01DrawServed.f k a0 a1 a2) (spec_l01DrawServed.f (k + 1) a0 a1 a2) := by
  intro a0 a1 a2 k
  obtain ⟨ih0, ih1, ih2, ih3⟩ := spec_l01DrawServed.mono_l k
  unfold spec_l01DrawServed.f
  repeat' first | (with_reducible exact ih0 _ _ _ _ _ _) | (with_reducible exact ih1 _ _ _ _ _ _ _) | (with_reducible exact ih2 _ _ _ _ _ _ _) | (with_reducible exact ih3 _ _ _ _ _ _ _ _) | (with_reducible exact spec_l01DrawTurns.mono _ _ _ _ _) | (with_reducible exact spec_l01Greatest.mono _ _ _) | (with_reducible exact LeO.refl _) | (with_reducible exact LeO.none _) | (with_reducible refine LeO.ite ?_ ?_) | (with_reducible refine LeO.bind ?_ (fun _ => ?_)) | exact ih0 _ _ _ _ _ _ | exact ih1 _ _ _ _ _ _ _ | exact ih2 _ _ _ _ _ _ _ | exact ih3 _ _ _ _ _ _ _ _ | exact spec_l01DrawTurns.mono _ _ _ _ _ | exact spec_l01Greatest.mono _ _ _ | exact LeO.none _ | refine LeO.ite ?_ ?_ | refine LeO.bind ?_ (fun _ => ?_)
end Go.Proofs.Ytgbapmmfhdphmaa.P
end
