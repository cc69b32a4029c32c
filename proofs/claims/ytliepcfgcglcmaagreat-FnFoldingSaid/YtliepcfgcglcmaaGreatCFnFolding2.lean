/- Folded tasks served by turns are served by the divided turns, the gaps that turns serve are the least ones, and who asks more has greater gaps. -/
import Derived.Test.YtliepcfgcglcmaaGreatCFnFolding1
import Derived.ArgAppend
import Derived.Below
import Derived.BigQuiet
import Derived.ChangeArms
import Derived.ChangeOld
import Derived.ChangeSame
import Derived.Deep.AppendLies
import Derived.Deep.CutBlock
import Derived.Deep.DeepCutAuto
import Derived.Deep.Draws
import Derived.Deep.Fields
import Derived.Deep.LoopGhost
import Derived.Deep.OwnRows
import Derived.Deep.QuietTactic
import Derived.Deep.RegionHeld3
import Derived.Deep.Slices
import Derived.Ground.SlgnProg
import Derived.KernelRfl
import Derived.Laws.BitsLemmas
import Derived.Laws.BytesArg
import Derived.Laws.CopyOwn
import Derived.Laws.IdiomCopy
import Derived.Laws.MakeOwn
import Derived.Laws.OwnMore
import Derived.Laws.Rows
import Derived.Laws.Slices
import Derived.Lib.AppendStr
import Derived.Lib.BitFns
import Derived.Lib.ConvBytes
import Derived.Lib.OwnBridge
import Derived.Lib.SliceRun
import Derived.Lib.Slices
import Derived.Lib.Small
import Derived.Lib.SmallJoins
import Derived.Lib.Strings
import Derived.Lib.Walk
import Derived.LoopIn
import Derived.LoopNIn
import Derived.Maps.AppendAt
import Derived.OpenShut
import Derived.OrdersHeld
import Derived.OwnWalk
import Derived.OwnWalkIn
import Derived.ProofKit
import Derived.RangeFuncBound
import Derived.RangeFuncBox
import Derived.RangeFuncCalls
import Derived.RangeFuncLeaves
import Derived.RangeFuncNested
import Derived.RowKit
import Derived.RowKit3
import Derived.Shelf.Abstract
import Derived.Shelf.RegionOpen
import Derived.Shelf.SlicesG.Delete
import Derived.ShutString
import Derived.SizedLaws
import Derived.Tactics
import Derived.TacticsInMore
import Derived.Test.YtliepcfgcglcmaaGreatProg
import Derived.WalkKit
import Derived.WideLaws
import Derived.WideShapes

set_option maxRecDepth 100000
set_option maxHeartbeats 8000000
section
namespace Go.Proofs.YtliepcfgcglcmaaGreat.P
open Go.RowKit Go.Proofs.YtliepcfgcglcmaaGreatW.PrintWords Go.Proofs.YtliepcfgcglcmaaGreatW.PrintLast Go.Proofs.YtliepcfgcglcmaaGreatW.PrintMore
attribute [local go_sem] Kn Kj Ld Li Kb Ke Kl Km
set_option linter.unusedVariables false
set_option linter.unusedSimpArgs false
def q3v : Option Int → Value
 | none => .nilIface
 | some c => .iface 0 (.int .i64 c)
theorem Gn : q3v none = .nilIface := rfl
theorem Gm (c : Int) : q3v (some c) = .iface 0 (.int .i64 c) := rfl
theorem Gb : (Tryz.prog.info? 2).map (fun i => (i.zero, i.size, i.bytes)) = some (some (.int .i64 0), 1, 8) := by kernel_rfl
end Go.Proofs.YtliepcfgcglcmaaGreat.P
end
section
namespace Go.Proofs.YtliepcfgcglcmaaGreat.P
open Go.RowKit Go.Proofs.YtliepcfgcglcmaaGreatW.PrintWords Go.Proofs.YtliepcfgcglcmaaGreatW.PrintLast Go.Proofs.YtliepcfgcglcmaaGreatW.PrintMore
theorem zA {p : Prop} (h : p := by (try simp only [List.map_toArray, List.map_cons, List.map_nil]); first | done | rfl | (simp only [List.length_drop, List.length_take]; rfl)) : p := h
theorem zB {p : Prop} (h : p := by repeat (first | (with_reducible first | exact HB.out | apply Dz | apply Ef | apply Bz | refine Gl ?_ (Af.ge HI0.out) | refine Gl ?_ (Aa.out (by assumption : Aa (w0.heap.size ≤ _))) | refine Gl ?_ (Aa.out (by assumption : Aa (w.heap.size ≤ _)))) | exact HB.out)) : p := h
theorem zK {p : Prop} (h : p := by repeat (first | (with_reducible first | exact HK.out | apply Av.set_ | apply q0i | apply Ws | apply q0d | refine q2z ?_ (Aa.out (by assumption : Aa (w.heap.size ≤ _))) _) | exact HK.out)) : p := h
theorem zJ {p : Prop} (h : p := by repeat (first | (with_reducible first | exact HK.out | apply Dn.alloc | apply Dn.drewN | apply Dn.drew | refine Dn.setCell ?_ (.inl (.inr rfl)) _ | refine Dn.setCell ?_ (.inr (Aa.out (by assumption : Aa (w.heap.size ≤ _)))) _) | exact HK.out)) : p := h
theorem zI {p : Prop} (h : p := by repeat (first | (with_reducible first | exact HI0.out | apply Af.set_1 | apply Af.set_2 | apply Af.alloc | apply Af.drewN | apply Af.drew | refine Af.far ?_ (Aa.out (by assumption)) _) | exact HI0.out)) : p := h
theorem zX {p q : Prop} (b : p) (h : p → q := by intro b_; repeat (first | (with_reducible first | exact b_ | apply Af.set_1 | apply Af.set_2 | apply Af.alloc | apply Af.drewN | apply Af.drew | refine Af.far ?_ (Aa.out (by assumption)) _) | exact b_)) : q := h b
theorem zG {p q : Prop} (b : p) (h : p → q := by intro b_; (with_reducible repeat (first | refine Am ?_ _ | refine Ag ?_ | refine Ak ?_ _)); exact b_) : q := h b
theorem zR {p q : Prop} (b : p) (h : p → q := by intro b_; (with_reducible repeat (first | apply Kd.q0I | apply Kd.q2S | apply Kd.Ep)); exact b_) : q := h b
theorem zC {p q : Prop} (b : p) (h : p → q := by intro b_; repeat (first | exact b_ | (with_reducible refine Kd.Fb ?_ _) | (with_reducible refine Kd.Fa ?_ _) | (with_reducible refine Kd.Fv ?_))) : q := h b
theorem zD {p : Prop} [Decidable p] (h : decide p = true := by first | (with_reducible assumption) | assumption) : p := of_decide_eq_true h
theorem zH {α : Type} {a b : α} {q : Prop} (e : a = b) (h : a = b → q := by intro e_; first | (rw [e_]; with_reducible exact H) | (have H2_ := (Option.bind_some _ _).symm.trans H; rw [e_]; with_reducible exact H2_) | (have H2_ := (Option.bind_some _ _).symm.trans H; with_reducible exact H2_) | with_reducible exact H | (rw [e_]; exact H) | exact H) : q := h e
theorem zE {p : Prop} (h : p := by first | rfl | (simp [Gn, Gm] <;> rfl) | (simp [*, Gn, Gm] <;> rfl)) : p := h
theorem zF {p : Prop} (h : p := by first | rfl | (simp; done) | (simp [*]; done)) : p := h
theorem zN {p : Prop} (h : p := by first | exact Kd.Pa _ _ _ _ _ | exact Kd.q3A _ _ _ _ _ | exact Kd.q3B _ _ _ _ _ | exact Kd.q3H _ _ _ _ _ | exact Kd.q3F _ _ _ _ _) : p := h
theorem zS {a b c : Nat} (e : b = c) (h : a ≤ c := by exact (An zB)) : a ≤ b := e.symm ▸ h
theorem zL {p : Prop} {a b c : Nat} (e : b = c) (k : p) (h : p → a < c := by intro k_; exact My (zG k_)) : a ≠ b := by have := h k; omega
theorem zM {p : Prop} {a b c : Nat} (e : b = c) (k : p) (h : p → a < c := by intro k_; exact My (zG k_)) : b ≠ a := by have := h k; omega
theorem zr {p : Prop} (h : p := by rfl) : p := h
theorem zk {p : Prop} (h : p := by kernel_rfl) : p := h
theorem zg {p : Prop} (h : p := by first | (go_simp; done) | (go_simp; rfl)) : p := h
theorem zc {w : World} {g : Nat} {v : Value} {t : TypeId} (h : w.heap[g]? = some (.cells #[v] t (0, 0))) : w.cell? ⟨g, 0, none⟩ = some v := (Au h 0).trans rfl
theorem zb {p : Prop} {w w' : World} {g : Nat} {o : Obj} (b : p) (hb : Below w.heap.size w w') (h : p → w.heap[g]? = some o := by intro b_; exact zG b_) : w'.heap[g]? = some o := Cy (h b) hb
theorem zp {p : Prop} (h : p := by (intro w'; go_simp; with_reducible rfl)) : p := h
theorem zq {p : Prop} (h : p := by (simp only [Act.put, List.setIfInBounds_toArray, List.set_cons_zero, List.set_cons_succ, Ec, En]; rfl)) : p := h
theorem zd {p : Prop} (h : p := by first | exact ⟨rfl, _, World.drewN_drewN _ _ _⟩ | exact ⟨rfl, _, Eq.trans (World.drewN_drewN _ _ _) (congrArg (World.drewN _) (Nat.add_assoc _ _ _))⟩) : p := h
theorem y2 {a b : Prop} (xa : a) (xb : b) : Aa a ∧ Aa b := ⟨⟨xa⟩, ⟨xb⟩⟩
theorem y3 {a b c : Prop} (xa : a) (xb : b) (xc : c) : Aa a ∧ Aa b ∧ Aa c := ⟨⟨xa⟩, ⟨xb⟩, ⟨xc⟩⟩
theorem y4 {a b c d : Prop} (xa : a) (xb : b) (xc : c) (xd : d) : Aa a ∧ Aa b ∧ Aa c ∧ Aa d := ⟨⟨xa⟩, ⟨xb⟩, ⟨xc⟩, ⟨xd⟩⟩
theorem y5 {a b c d e : Prop} (xa : a) (xb : b) (xc : c) (xd : d) (xe : e) : Aa a ∧ Aa b ∧ Aa c ∧ Aa d ∧ Aa e := ⟨⟨xa⟩, ⟨xb⟩, ⟨xc⟩, ⟨xd⟩, ⟨xe⟩⟩
theorem y6 {a b c d e f : Prop} (xa : a) (xb : b) (xc : c) (xd : d) (xe : e) (xf : f) : Aa a ∧ Aa b ∧ Aa c ∧ Aa d ∧ Aa e ∧ Aa f := ⟨⟨xa⟩, ⟨xb⟩, ⟨xc⟩, ⟨xd⟩, ⟨xe⟩, ⟨xf⟩⟩
theorem y7 {a b c d e f g : Prop} (xa : a) (xb : b) (xc : c) (xd : d) (xe : e) (xf : f) (xg : g) : Aa a ∧ Aa b ∧ Aa c ∧ Aa d ∧ Aa e ∧ Aa f ∧ Aa g := ⟨⟨xa⟩, ⟨xb⟩, ⟨xc⟩, ⟨xd⟩, ⟨xe⟩, ⟨xf⟩, ⟨xg⟩⟩
theorem y8 {a b c d e f g h : Prop} (xa : a) (xb : b) (xc : c) (xd : d) (xe : e) (xf : f) (xg : g) (xh : h) : Aa a ∧ Aa b ∧ Aa c ∧ Aa d ∧ Aa e ∧ Aa f ∧ Aa g ∧ Aa h := ⟨⟨xa⟩, ⟨xb⟩, ⟨xc⟩, ⟨xd⟩, ⟨xe⟩, ⟨xf⟩, ⟨xg⟩, ⟨xh⟩⟩
theorem y9 {a b c d e f g h i : Prop} (xa : a) (xb : b) (xc : c) (xd : d) (xe : e) (xf : f) (xg : g) (xh : h) (xi : i) : Aa a ∧ Aa b ∧ Aa c ∧ Aa d ∧ Aa e ∧ Aa f ∧ Aa g ∧ Aa h ∧ Aa i := ⟨⟨xa⟩, ⟨xb⟩, ⟨xc⟩, ⟨xd⟩, ⟨xe⟩, ⟨xf⟩, ⟨xg⟩, ⟨xh⟩, ⟨xi⟩⟩
theorem y10 {a b c d e f g h i j : Prop} (xa : a) (xb : b) (xc : c) (xd : d) (xe : e) (xf : f) (xg : g) (xh : h) (xi : i) (xj : j) : Aa a ∧ Aa b ∧ Aa c ∧ Aa d ∧ Aa e ∧ Aa f ∧ Aa g ∧ Aa h ∧ Aa i ∧ Aa j := ⟨⟨xa⟩, ⟨xb⟩, ⟨xc⟩, ⟨xd⟩, ⟨xe⟩, ⟨xf⟩, ⟨xg⟩, ⟨xh⟩, ⟨xi⟩, ⟨xj⟩⟩
theorem y11 {a b c d e f g h i j k : Prop} (xa : a) (xb : b) (xc : c) (xd : d) (xe : e) (xf : f) (xg : g) (xh : h) (xi : i) (xj : j) (xk : k) : Aa a ∧ Aa b ∧ Aa c ∧ Aa d ∧ Aa e ∧ Aa f ∧ Aa g ∧ Aa h ∧ Aa i ∧ Aa j ∧ Aa k := ⟨⟨xa⟩, ⟨xb⟩, ⟨xc⟩, ⟨xd⟩, ⟨xe⟩, ⟨xf⟩, ⟨xg⟩, ⟨xh⟩, ⟨xi⟩, ⟨xj⟩, ⟨xk⟩⟩
theorem y12 {a b c d e f g h i j k l : Prop} (xa : a) (xb : b) (xc : c) (xd : d) (xe : e) (xf : f) (xg : g) (xh : h) (xi : i) (xj : j) (xk : k) (xl : l) : Aa a ∧ Aa b ∧ Aa c ∧ Aa d ∧ Aa e ∧ Aa f ∧ Aa g ∧ Aa h ∧ Aa i ∧ Aa j ∧ Aa k ∧ Aa l := ⟨⟨xa⟩, ⟨xb⟩, ⟨xc⟩, ⟨xd⟩, ⟨xe⟩, ⟨xf⟩, ⟨xg⟩, ⟨xh⟩, ⟨xi⟩, ⟨xj⟩, ⟨xk⟩, ⟨xl⟩⟩
theorem y13 {a b c d e f g h i j k l m : Prop} (xa : a) (xb : b) (xc : c) (xd : d) (xe : e) (xf : f) (xg : g) (xh : h) (xi : i) (xj : j) (xk : k) (xl : l) (xm : m) : Aa a ∧ Aa b ∧ Aa c ∧ Aa d ∧ Aa e ∧ Aa f ∧ Aa g ∧ Aa h ∧ Aa i ∧ Aa j ∧ Aa k ∧ Aa l ∧ Aa m := ⟨⟨xa⟩, ⟨xb⟩, ⟨xc⟩, ⟨xd⟩, ⟨xe⟩, ⟨xf⟩, ⟨xg⟩, ⟨xh⟩, ⟨xi⟩, ⟨xj⟩, ⟨xk⟩, ⟨xl⟩, ⟨xm⟩⟩
theorem y14 {a b c d e f g h i j k l m n : Prop} (xa : a) (xb : b) (xc : c) (xd : d) (xe : e) (xf : f) (xg : g) (xh : h) (xi : i) (xj : j) (xk : k) (xl : l) (xm : m) (xn : n) : Aa a ∧ Aa b ∧ Aa c ∧ Aa d ∧ Aa e ∧ Aa f ∧ Aa g ∧ Aa h ∧ Aa i ∧ Aa j ∧ Aa k ∧ Aa l ∧ Aa m ∧ Aa n := ⟨⟨xa⟩, ⟨xb⟩, ⟨xc⟩, ⟨xd⟩, ⟨xe⟩, ⟨xf⟩, ⟨xg⟩, ⟨xh⟩, ⟨xi⟩, ⟨xj⟩, ⟨xk⟩, ⟨xl⟩, ⟨xm⟩, ⟨xn⟩⟩
theorem zt {p : Prop} (h : p := by (intro w' s0; (try (have s1 := s0.2; replace s0 := s0.1)); (try (have s2 := s1.2; replace s1 := s1.1)); (try (have s3 := s2.2; replace s2 := s2.1)); (try (have s4 := s3.2; replace s3 := s3.1)); (try (have s5 := s4.2; replace s4 := s4.1)); (try (have s6 := s5.2; replace s5 := s5.1)); (try (have s7 := s6.2; replace s6 := s6.1)); go_simp; with_reducible rfl)) : p := h
section
variable {P : Program} {md : Region.Mode} {ops : Array Oper} {Q : Exit → Act → World → Prop} {S : World → Prop} {ds : List Nat} {T : Bool × List (List Nat × List Nat)} {B : List Nat} {oi : Oper} {v : Value} {fuel : Nat} {l : Array Bool} {a a' : Act} {w : World}
theorem pT (i n : Nat) (hT : Aa (rtab md ops = T)) (h : Dd P md ops Q S ds fuel (l.setIfInBounds i true) a' w) (hi : ops[i]? = some oi := by rfl) (hN : oi.dst = some n := by rfl) (hc : q3s T l.toList (l.setIfInBounds i true).toList i = true := by kernel_rfl) (hQ : ∀ c a w, Q (.panic c) (a.put oi.dst v) w → Q (.panic c) a w := by exact fun _ _ _ h => h) (hy : Yields P ops oi v a := by exact Or.inl ⟨by rfl, zp⟩) (ha : a.put (some n) v = a' := by exact zq) : Dd P md ops Q S ds (fuel + 1) l a w := Fz (i := i) (N := some n) _ hi hN (Ga hT.out hc) hQ hy ha h
theorem tT (i n : Nat) (hT : Aa (rtab md ops = T)) (hW : Aa (Gh T.2 B = true)) (hS : S w) (h : Dd P md ops Q S ds fuel (l.setIfInBounds i true) a' w) (hi : ops[i]? = some oi := by rfl) (hN : oi.dst = some n := by rfl) (hc : q2h T B ds l.toList (l.setIfInBounds i true).toList i = true := by kernel_rfl) (hQ : ∀ c a w, Q (.panic c) (a.put oi.dst v) w → Q (.panic c) a w := by exact fun _ _ _ h => h) (hy : YieldsIf P ops S oi v a := by exact Or.inl ⟨by rfl, zt⟩) (ha : a.put (some n) v = a' := by exact zq) : Dd P md ops Q S ds (fuel + 1) l a w := take_ (i := i) (N := some n) _ hi hN (q2x hT.out hW.out hc) hQ hy hS ha h
theorem pU (i n : Nat) (h : Dd P md ops Q S ds fuel (l.setIfInBounds i true) a' w) (hi : ops[i]? = some oi := by rfl) (hN : oi.dst = some n := by rfl) (hc : q1P md ops l (l.setIfInBounds i true) i = true := by kernel_rfl) (hQ : ∀ c a w, Q (.panic c) (a.put oi.dst v) w → Q (.panic c) a w := by exact fun _ _ _ h => h) (hy : Yields P ops oi v a := by exact Or.inl ⟨by rfl, zp⟩) (ha : a.put (some n) v = a' := by exact zq) : Dd P md ops Q S ds (fuel + 1) l a w := Fz (i := i) (N := some n) _ hi hN hc hQ hy ha h
theorem tU (i n : Nat) (hS : S w) (h : Dd P md ops Q S ds fuel (l.setIfInBounds i true) a' w) (hi : ops[i]? = some oi := by rfl) (hN : oi.dst = some n := by rfl) (hc : Wf md ops ds l (l.setIfInBounds i true) i = true := by kernel_rfl) (hQ : ∀ c a w, Q (.panic c) (a.put oi.dst v) w → Q (.panic c) a w := by exact fun _ _ _ h => h) (hy : YieldsIf P ops S oi v a := by exact Or.inl ⟨by rfl, zt⟩) (ha : a.put (some n) v = a' := by exact zq) : Dd P md ops Q S ds (fuel + 1) l a w := take_ (i := i) (N := some n) _ hi hN hc hQ hy hS ha h
theorem nT (n : Nat) {a0 : Act} {v : Value} (h : Dd P md ops Q S ds fuel l a' w) (hb : Act.put a0 (some n) v = a := by rfl) (ha : a0.put (some n) v = a' := by exact zq) : Dd P md ops Q S ds fuel l a w := Re (hb.symm.trans ha) h
end
theorem zO {α β : Type} {o : Option α} {f : α → Option β} {r : β} (H : o.bind f = some r) : ∃ a, Aa (o = some a) ∧ f a = some r := by
 obtain ⟨a, h1, h2⟩ := Option.bind_eq_some_iff.mp H
 exact ⟨a, ⟨h1⟩, h2⟩
theorem zY {α β : Type} {x : α} {f : α → Option β} {r : β} (H : (some x).bind f = some r) : ∃ y, y = x ∧ f y = some r := ⟨x, rfl, H⟩
theorem zf : ¬ (false = true) := by decide
theorem zw {w : World} {g : Nat} {v : Value} {t : TypeId} (h : w.heap[g]? = some (.cells #[v] t (0, 0))) : w.cell? ⟨g, 0, none⟩ = some v ∧ w.frozen? ⟨g, 0, none⟩ = false := ⟨zc h, Fl h 0⟩
theorem zV {α : Type} {d : Kd α} {e : Nat} {w : World} {base : Nat} {ok : Nat → Prop} {v : Value} {xs : List α} {g t : Nat} {cells : Array Value} {q : Prop} (h : d.R e w base ok v xs) (b : w.heap[g]? = some (.cells cells t (0, 0))) (k : (∀ u, d.R e (w.setCell ⟨g, 0, none⟩ u) base ok v xs) → q := by intro k_; refine zR ?_; exact k_ _) (ht : ∀ z, z ∈ e :: d.E → z ≠ t := by decide) : q := k (fun u => Kd.Ai (Kd.Dv (p := ⟨g, 0, none⟩) (Kd.Cj h b ht) (fun _ hk => hk.2) u) (fun _ h_ => h_.1))
theorem y16 {a0 a1 a2 a3 a4 a5 a6 a7 a8 a9 a10 a11 a12 a13 a14 a15 : Prop} (x0 : a0) (x1 : a1) (x2 : a2) (x3 : a3) (x4 : a4) (x5 : a5) (x6 : a6) (x7 : a7) (x8 : a8) (x9 : a9) (x10 : a10) (x11 : a11) (x12 : a12) (x13 : a13) (x14 : a14) (x15 : a15) : Aa a0 ∧ Aa a1 ∧ Aa a2 ∧ Aa a3 ∧ Aa a4 ∧ Aa a5 ∧ Aa a6 ∧ Aa a7 ∧ Aa a8 ∧ Aa a9 ∧ Aa a10 ∧ Aa a11 ∧ Aa a12 ∧ Aa a13 ∧ Aa a14 ∧ Aa a15 := ⟨⟨x0⟩, ⟨x1⟩, ⟨x2⟩, ⟨x3⟩, ⟨x4⟩, ⟨x5⟩, ⟨x6⟩, ⟨x7⟩, ⟨x8⟩, ⟨x9⟩, ⟨x10⟩, ⟨x11⟩, ⟨x12⟩, ⟨x13⟩, ⟨x14⟩, ⟨x15⟩⟩
theorem y17 {a0 a1 a2 a3 a4 a5 a6 a7 a8 a9 a10 a11 a12 a13 a14 a15 a16 : Prop} (x0 : a0) (x1 : a1) (x2 : a2) (x3 : a3) (x4 : a4) (x5 : a5) (x6 : a6) (x7 : a7) (x8 : a8) (x9 : a9) (x10 : a10) (x11 : a11) (x12 : a12) (x13 : a13) (x14 : a14) (x15 : a15) (x16 : a16) : Aa a0 ∧ Aa a1 ∧ Aa a2 ∧ Aa a3 ∧ Aa a4 ∧ Aa a5 ∧ Aa a6 ∧ Aa a7 ∧ Aa a8 ∧ Aa a9 ∧ Aa a10 ∧ Aa a11 ∧ Aa a12 ∧ Aa a13 ∧ Aa a14 ∧ Aa a15 ∧ Aa a16 := ⟨⟨x0⟩, ⟨x1⟩, ⟨x2⟩, ⟨x3⟩, ⟨x4⟩, ⟨x5⟩, ⟨x6⟩, ⟨x7⟩, ⟨x8⟩, ⟨x9⟩, ⟨x10⟩, ⟨x11⟩, ⟨x12⟩, ⟨x13⟩, ⟨x14⟩, ⟨x15⟩, ⟨x16⟩⟩
theorem y18 {a0 a1 a2 a3 a4 a5 a6 a7 a8 a9 a10 a11 a12 a13 a14 a15 a16 a17 : Prop} (x0 : a0) (x1 : a1) (x2 : a2) (x3 : a3) (x4 : a4) (x5 : a5) (x6 : a6) (x7 : a7) (x8 : a8) (x9 : a9) (x10 : a10) (x11 : a11) (x12 : a12) (x13 : a13) (x14 : a14) (x15 : a15) (x16 : a16) (x17 : a17) : Aa a0 ∧ Aa a1 ∧ Aa a2 ∧ Aa a3 ∧ Aa a4 ∧ Aa a5 ∧ Aa a6 ∧ Aa a7 ∧ Aa a8 ∧ Aa a9 ∧ Aa a10 ∧ Aa a11 ∧ Aa a12 ∧ Aa a13 ∧ Aa a14 ∧ Aa a15 ∧ Aa a16 ∧ Aa a17 := ⟨⟨x0⟩, ⟨x1⟩, ⟨x2⟩, ⟨x3⟩, ⟨x4⟩, ⟨x5⟩, ⟨x6⟩, ⟨x7⟩, ⟨x8⟩, ⟨x9⟩, ⟨x10⟩, ⟨x11⟩, ⟨x12⟩, ⟨x13⟩, ⟨x14⟩, ⟨x15⟩, ⟨x16⟩, ⟨x17⟩⟩
theorem y19 {a0 a1 a2 a3 a4 a5 a6 a7 a8 a9 a10 a11 a12 a13 a14 a15 a16 a17 a18 : Prop} (x0 : a0) (x1 : a1) (x2 : a2) (x3 : a3) (x4 : a4) (x5 : a5) (x6 : a6) (x7 : a7) (x8 : a8) (x9 : a9) (x10 : a10) (x11 : a11) (x12 : a12) (x13 : a13) (x14 : a14) (x15 : a15) (x16 : a16) (x17 : a17) (x18 : a18) : Aa a0 ∧ Aa a1 ∧ Aa a2 ∧ Aa a3 ∧ Aa a4 ∧ Aa a5 ∧ Aa a6 ∧ Aa a7 ∧ Aa a8 ∧ Aa a9 ∧ Aa a10 ∧ Aa a11 ∧ Aa a12 ∧ Aa a13 ∧ Aa a14 ∧ Aa a15 ∧ Aa a16 ∧ Aa a17 ∧ Aa a18 := ⟨⟨x0⟩, ⟨x1⟩, ⟨x2⟩, ⟨x3⟩, ⟨x4⟩, ⟨x5⟩, ⟨x6⟩, ⟨x7⟩, ⟨x8⟩, ⟨x9⟩, ⟨x10⟩, ⟨x11⟩, ⟨x12⟩, ⟨x13⟩, ⟨x14⟩, ⟨x15⟩, ⟨x16⟩, ⟨x17⟩, ⟨x18⟩⟩
theorem zQ {α : Type} {d : Kd α} {e : Nat} {w : World} {base : Nat} {ok : Nat → Prop} {A : Option Addr} {n c : Nat} {xs : List α} {g t : Nat} {cells : Array Value} {q : Prop} (h : d.R e w base ok (.slice A n c) xs) (b : w.heap[g]? = some (.cells cells t (0, 0))) (k : (∀ u, d.C (w.setCell ⟨g, 0, none⟩ u) A xs.length xs) → q := by intro k_; repeat (first | exact k_ _ | (with_reducible refine Kd.Fb ?_ _) | (with_reducible refine Kd.Fa ?_ _) | (with_reducible refine Kd.Fv ?_))) (ht : ∀ z, z ∈ e :: d.E → z ≠ t := by decide) : q := k (fun u => (Kd.Ae (Kd.Dv (p := ⟨g, 0, none⟩) (Kd.Cj h b ht) (fun _ hk => hk.2) u)).2.2)
theorem zW {w w1 : World} {g g' : Nat} {o : Obj} {p : Prop} (b : p) (h : Av w w1 g none) (hg : g' ≠ g) (hb : p → w.heap[g']? = some o := by intro b_; exact zG b_) : w1.heap[g']? = some o := Av.blk h (hb b) hg (by simp)
section
variable {P : Program} {ops : Array Oper} {Q : Exit → Act → World → Prop}
theorem gK {rest : List Oper} {oi : Oper} {a : Act} {w : World} (f : FuncId) {az : Array Operand} {ts : Array TypeId} (h : wpList P ops Q (oi :: rest) a w) (_hop : oi.op = .call { callee := .value (.func f), args := az, argTypes := ts } := by with_reducible rfl) : wpList P ops Q (oi :: rest) a w := h
theorem gL {rest : List Oper} {oi : Oper} {a : Act} {w : World} (n : Nat) {f : FuncId} {fn : Func} {az : Array Operand} {ts : Array TypeId} (hf : P.funcs[f]? = some fn) (args : Array Value) (h : Calls P f args w fun e w' => ∃ v, e = .returned v ∧ wpList P ops Q rest (a.put (some n) v) w') (hd : oi.dst = some n := by rfl) (hg : oi.guard = none := by rfl) (hname : (fn.name == "runtime.NumGoroutine") = false := by kernel_rfl) (hb : fn.body.isSome = true := by rfl) (hop : oi.op = .call { callee := .value (.func f), args := az, argTypes := ts } := by rfl) (hargs : az.map a.eval = args := by exact zA) : wpList P ops Q (oi :: rest) a w := Vj (some n) hd hg hf hname hb args hop hargs h
end
end Go.Proofs.YtliepcfgcglcmaaGreat.P
end
section
namespace Go.Proofs.YtliepcfgcglcmaaGreat.P
open Go.RowKit Go.Proofs.YtliepcfgcglcmaaGreatW.PrintWords Go.Proofs.YtliepcfgcglcmaaGreatW.PrintLast Go.Proofs.YtliepcfgcglcmaaGreatW.PrintMore
attribute [local go_sem] Kn Kj Ld Li Kb Ke Kl Km
set_option linter.unusedVariables false
set_option linter.unusedSimpArgs false
def Zq {α : Type} (p : α → Bool) (l : List α) : Int := if l.any p then (l.findIdx p : Int) else -1
def Ze (p : Int → Bool) (l : List Int) : Nat → Int → Option Int
 | 0, _ => none
 | k + 1, i => if i < (l.length : Int) then (if p (rd l i) = true then some i else Ze p l k (wrap64 (i + 1))) else some (-1)
theorem q2Q (p : Int → Bool) (l : List Int) (hl : l.length ≤ 9223372036854775807) : ∀ (d n : Nat), n + d = l.length → (∀ x ∈ l.take n, p x = false) → Ze p l (d + 1) (n : Int) = some (Zq p l) := by
 intro d
 induction d with
 | zero =>
  intro n hn hp
  have hno : l.any p = false := by
   rw [List.take_of_length_le (by omega)] at hp
   simpa using hp
  simp only [Ze]
  rw [if_neg (by omega), Zq, if_neg (by simp [hno])]
 | succ d ih =>
  intro n hn hp
  have hlt : n < l.length := by omega
  have hrd : rd l (n : Int) = l[n] := by simp [rd, hlt]
  have htake : l.take (n + 1) = l.take n ++ [l[n]] := by rw [List.take_succ_eq_append_getElem hlt]
  rw [Ze, if_pos (by omega), hrd]
  by_cases h : p l[n] = true
  ·
   rw [if_pos h, Zq, if_pos (by simp only [List.any_eq_true]; exact ⟨l[n], List.getElem_mem _, h⟩)]
   congr 2
   symm
   rw [List.findIdx_eq hlt]
   refine ⟨h, fun j hj => ?_⟩
   exact hp _ (List.mem_take_iff_getElem.2 ⟨j, by omega, rfl⟩)
  ·
   rw [if_neg h, show wrap64 ((n : Int) + 1) = ((n + 1 : Nat) : Int) by unfold wrap64; omega]
   refine ih (n + 1) (by omega) ?_
   rw [htake]
   intro x hx
   rcases List.mem_append.1 hx with hx | hx
   ·
    exact hp x hx
   ·
    rw [List.mem_singleton.1 hx]
    simpa using h
theorem Zj {α : Type} (p : α → Bool) (l : List α) : decide (0 ≤ Zq p l) = l.any p := by
 unfold Zq
 by_cases h : l.any p = true
 ·
  rw [if_pos h, h]; simp
 ·
  rw [if_neg h]
  simp only [Bool.not_eq_true] at h
  rw [h]; simp
theorem Xx {α : Type} (p : α → Bool) (l : List α) : l.all p = !(l.any fun x => !p x) := by
 induction l with
 | nil => rfl
 | cons x l ih => rw [List.all_cons, List.any_cons, Bool.not_or, Bool.not_not, ih]
theorem Fs {l : List Int} {i : Int} (h0 : 0 ≤ i) (h : i < (l.length : Int)) : rd l i ∈ l := by
 have hlt : i.toNat < l.length := by omega
 simp [rd, hlt]
set_option maxHeartbeats 4000000 in
theorem Xj (g : Nat) (lb : Array Value) (eg : ∀ args w, (callFunc g args).run Tryz.prog w = .ok (.enter g args) w) (p : Int → Bool) (A0 : Option Addr) (c0 : Nat) (l0 : List Int) (w : World)
    (hr0 : Kd.C (Kd.int .i64) w A0 l0.length l0) (hc0 : l0.length ≤ c0)
    (hp : ∀ (W : World) (x : Int), Below w.heap.size w W → x ∈ l0 → Calls Tryz.prog g (#[.int .i64 x] ++ lb) W fun e w' => e = .returned (.bool (p x)) ∧ Below W.heap.size W w') :
    Calls Tryz.prog 91 #[.slice A0 l0.length c0, .func (.func g) #[] lb] w fun e w' => e = .returned (.int .i64 (Zq p l0)) ∧ Below w.heap.size w w' := by
  have H : Ze p l0 (l0.length + 1) 0 = some (Zq p l0) := q2Q p l0 hr0.2.1 l0.length 0 (by omega) (by simp)
  generalize Zq p l0 = r at H ⊢
  have HR0 := Aa.mk hr0
  have HC0 := Aa.mk hc0
  have HP := Aa.mk hp
  clear hr0 hc0 hp
  have H' := Aa.mk H
  clear H
  have HB := Aa.mk (Below.refl w.heap.size w)
  go_enter Tryz.func91, Tryz.ntmps91
  go_wp2
  go_loopg [5, 8] (l0.length + 1) (fun kq v5 v8 w' => ∃ x8 : Int, v8 = .int .i64 x8 ∧ Aa (Ze p l0 kq x8 = some r) ∧ Aa (0 ≤ x8) ∧ Aa (Below w.heap.size w w'))
  case atStart => exact ⟨0, rfl, H', ⟨by omega⟩, HB⟩
  case round =>
    clear H' HB
    obtain ⟨x8, rfl, HA, H0, HB⟩ := hrel
    cases gk with
    | zero => exact absurd HA.out (by simp [Ze])
    | succ k1 =>
      have H := HA.out
      clear HA
      simp only [Ze] at H
      by_cases c3 : x8 < (l0.length : Int)
      · rw [if_pos c3] at H
        obtain ⟨ad, e1, hx⟩ := Kd.Cv HR0.out x8 H0.out c3
        cases e1
        have hcell := Gu HB.out hx
        clear hx
        have hcall := HP.out _ (rd l0 x8) HB.out (Fs H0.out c3)
        have c3b := decide_eq_true c3
        have c0b := eq_true H0.out
        have c3c := eq_true c3
        have HM : Aa (x8 < 9223372036854775807) := ⟨by have := HR0.out.2.1; omega⟩
        clear c3
        generalize rd l0 x8 = y at H hcell hcall
        cases hq : p y with
        | true =>
          rw [hq, if_pos rfl] at H
          rw [hq] at hcall
          obtain rfl := Option.some.inj H
          clear H hq
          have HQ := Aa.mk hcall
          clear hcall
          go_wp2_with (go_at_fn g; refine HQ.out.mono ?_; rintro e w' ⟨rfl, hb1⟩)
          go_ret
          exact ⟨rfl, Ab HB.out hb1⟩
        | false =>
          rw [hq, if_neg (by simp)] at H
          rw [hq] at hcall
          have H' := Aa.mk H
          clear H hq
          have HQ := Aa.mk hcall
          clear hcall
          go_wp2_with (go_at_fn g; refine HQ.out.mono ?_; rintro e w' ⟨rfl, hb1⟩)
          go_roundg k1
          case measure => omega
          case rel => exact ⟨(wrap64 (x8 + 1)), zF, H', ⟨by have h1 := HM.out; have h2 := H0.out; unfold wrap64; omega⟩, ⟨Ab HB.out hb1⟩⟩
      · rw [if_neg c3] at H
        obtain rfl := Option.some.inj H
        have c3b := decide_eq_false c3
        clear c3 H
        go_wp2
        go_ret
        exact ⟨rfl, HB.out⟩
set_option maxHeartbeats 4000000 in
theorem Tk (g : Nat) (lb : Array Value) (eg : ∀ args w, (callFunc g args).run Tryz.prog w = .ok (.enter g args) w) (p : Int → Bool) (A0 : Option Addr) (c0 : Nat) (l0 : List Int) (w : World)
    (hr0 : Kd.C (Kd.int .i64) w A0 l0.length l0) (hc0 : l0.length ≤ c0)
    (hp : ∀ (W : World) (x : Int), Below w.heap.size w W → x ∈ l0 → Calls Tryz.prog g (#[.int .i64 x] ++ lb) W fun e w' => e = .returned (.bool (p x)) ∧ Below W.heap.size W w') :
    Calls Tryz.prog 83 #[.slice A0 l0.length c0, .func (.func g) #[] lb] w fun e w' => e = .returned (.bool (l0.any p)) ∧ Below w.heap.size w w' := by
  rw [← Zj p l0]
  have HQ := Aa.mk (Xj g lb eg p A0 c0 l0 w hr0 hc0 hp)
  clear hr0 hc0 hp
  go_enter Tryz.func83, Tryz.ntmps83
  go_wp2_with (go_at_call 91; refine HQ.out.mono ?_; rintro e w' ⟨rfl, hb1⟩)
  go_ret
  exact ⟨rfl, hb1⟩
set_option maxHeartbeats 4000000 in
theorem Zm (g : Nat) (lb : Array Value) (eg : ∀ args w, (callFunc g args).run Tryz.prog w = .ok (.enter g args) w) (p : Int → Bool) (B : Nat) (x : Int) (W : World)
    (hc : W.cell? ⟨B, 0, none⟩ = some (.func (.func g) #[] lb))
    (hp : Calls Tryz.prog g (#[.int .i64 x] ++ lb) W fun e w' => e = .returned (.bool (p x)) ∧ Below W.heap.size W w') :
    Calls Tryz.prog 84 #[.int .i64 x, .pointer (some ⟨B, 0, none⟩)] W fun e w' => e = .returned (.bool (!p x)) ∧ Below W.heap.size W w' := by
  have HQ := Aa.mk hp
  clear hp
  generalize p x = b at HQ ⊢
  go_enter Tryz.func84, Tryz.ntmps84
  go_wp2_with (go_at_fn g; refine HQ.out.mono ?_; rintro e w' ⟨rfl, hb1⟩)
  go_ret
  exact ⟨rfl, hb1⟩
set_option maxHeartbeats 4000000 in
theorem Wr (g : Nat) (lb : Array Value) (eg : ∀ args w, (callFunc g args).run Tryz.prog w = .ok (.enter g args) w) (p : Int → Bool) (A0 : Option Addr) (c0 : Nat) (l0 : List Int) (w : World)
    (hr0 : Kd.C (Kd.int .i64) w A0 l0.length l0) (hc0 : l0.length ≤ c0)
    (hp : ∀ (W : World) (x : Int), Below w.heap.size w W → x ∈ l0 → Calls Tryz.prog g (#[.int .i64 x] ++ lb) W fun e w' => e = .returned (.bool (p x)) ∧ Below W.heap.size W w') :
    Calls Tryz.prog 73 #[.slice A0 l0.length c0, .func (.func g) #[] lb] w fun e w' => e = .returned (.bool (l0.all p)) ∧ Below w.heap.size w w' := by
  rw [Xx p l0]
  have e1 : ∀ args w, (callFunc 84 args).run Tryz.prog w = .ok (.enter 84 args) w := enters_of Tryz.func84 zk rfl
  have hB : Below w.heap.size w (w.alloc (.cells #[.func (.func g) #[] lb] 57)) := Dz (Below.refl _ _) _
  have HQ := Aa.mk (Tk 84 #[.pointer (some ⟨w.heap.size, 0, none⟩)] e1 (fun x => !p x) A0 c0 l0 (w.alloc (.cells #[.func (.func g) #[] lb] 57)) (Kd.Bh hr0 hB) hc0
    (fun W x hb hx => Zm g lb eg p w.heap.size x W ((hb.cell (p := ⟨w.heap.size, 0, none⟩) (by simp)).trans (by simp)) (hp W x (Ab hB hb) hx)))
  have HB := Aa.mk hB
  clear hr0 hc0 hp hB
  generalize (l0.any fun x => !p x) = b at HQ ⊢
  go_enter Tryz.func73, Tryz.ntmps73
  go_wp2_with (go_at_call 83; refine HQ.out.mono ?_; rintro e w' ⟨rfl, hb1⟩)
  go_ret
  exact ⟨rfl, Ab HB.out hb1⟩
def Es.f (a0 : Int) (a1 : Int) (a2 : Int) : Option (Bool) := if a1 ≤ a0 then (some (decide (a0 ≤ a2))) else (some false)
theorem Es.calls (a0 : Int) (a1 : Int) (a2 : Int) (r : Bool) (w : World) (h : Es.f a0 a1 a2 = some r) :
    Calls Tryz.prog 43 #[.int .i64 a0, .int .i64 a1, .int .i64 a2] w fun e w' => e = .returned (.bool r) ∧ Ct w w' := by
 have H := h
 clear h
 unfold Es.f at H
 by_cases c4 : a1 ≤ a0
 ·
  rw [if_pos c4] at H
  have c4b0 := decide_eq_true c4
  clear c4
  obtain rfl := Option.some.inj H
  go_enter Tryz.func43, Tryz.ntmps43
  go_wp2
  go_ret
  exact ⟨by first | rfl | (simp; done) | (simp [*]; done), by repeat (first | exact Ct.refl _ | apply Ct.step)⟩
 rw [if_neg c4] at H
 have c4b0 := decide_eq_false c4
 clear c4
 obtain rfl := Option.some.inj H
 go_enter Tryz.func43, Tryz.ntmps43
 go_wp2
 go_ret
 exact ⟨by first | rfl | (simp; done) | (simp [*]; done), by repeat (first | exact Ct.refl _ | apply Ct.step)⟩
theorem Mp (n lo hi : Int) : Es.f n lo hi = some (decide (lo ≤ n ∧ n ≤ hi)) := by
  unfold Es.f
  by_cases h : lo ≤ n
  · rw [if_pos h]; simp [h]
  · rw [if_neg h]; simp [h]
theorem Ve {n lo hi : Int} (h : lo ≤ n ∧ n ≤ hi) : Es.f n lo hi = some true := by rw [Mp, decide_eq_true h]
theorem Vd {n lo hi : Int} (h : ¬ (lo ≤ n ∧ n ≤ hi)) : Es.f n lo hi = some false := by rw [Mp, decide_eq_false h]
def Fe.f (l0 : List Int) : Option (Int) := some (l0.length : Int)
theorem Fe.calls (A0 : Option Addr) (c0 : Nat) (l0 : List Int) (r : Int) (w : World) (hr0 : Kd.C (Kd.int .i64) w A0 l0.length l0) (hc0 : l0.length ≤ c0) (h : Fe.f l0 = some r) :
    Calls Tryz.prog 47 #[.slice A0 l0.length c0] w fun e w' => e = .returned (.int .i64 r) ∧ Ct w w' := by
 have HR0 := Aa.mk hr0
 have HC0 := Aa.mk hc0
 clear hr0 hc0
 have H := h
 clear h
 unfold Fe.f at H
 obtain rfl := Option.some.inj H
 go_enter Tryz.func47, Tryz.ntmps47
 go_wp2
 go_ret
 exact ⟨by first | rfl | (simp; done) | (simp [*]; done), by repeat (first | exact Ct.refl _ | apply Ct.step)⟩
def Fj.f (l0_0 : List Int) : Option Bool := some (decide (1 ≤ (l0_0.length : Int) ∧ (l0_0.length : Int) ≤ 8) && l0_0.all fun g => decide (1 ≤ g ∧ g ≤ 40))
theorem Xn (x : Int) (W : World) :
    Calls Tryz.prog 76 (#[.int .i64 x] ++ #[]) W fun e w' => e = .returned (.bool (decide (1 ≤ x ∧ x ≤ 40))) ∧ Below W.heap.size W w' := by
  have HQ := Aa.mk (Es.calls x 1 40 _ W (Mp x 1 40))
  generalize decide (1 ≤ x ∧ x ≤ 40) = b at HQ ⊢
  show Calls Tryz.prog 76 #[.int .i64 x] W _
  go_enter Tryz.func76, Tryz.ntmps76
  go_wp2_with (go_at_call 43; refine HQ.out.mono ?_; rintro e w' ⟨rfl, hb1⟩)
  go_ret
  exact ⟨rfl, hb1.below⟩
set_option maxHeartbeats 4000000 in
theorem Fj.calls (A0_0 : Option Addr) (c0_0 : Nat) (l0_0 : List Int) (r : Bool) (w : World) (hr0_0 : Kd.C (Kd.int .i64) w A0_0 l0_0.length l0_0) (hc0_0 : l0_0.length ≤ c0_0) (h : Fj.f l0_0 = some r) :
    Calls Tryz.prog 57 #[.agg #[.slice A0_0 l0_0.length c0_0]] w fun e w' => e = .returned (.bool r) ∧ Below w.heap.size w w' := by
  have hu := Tryz.underlying26
  obtain rfl := Option.some.inj h
  clear h
  have e1 : ∀ args w, (callFunc 76 args).run Tryz.prog w = .ok (.enter 76 args) w := enters_of Tryz.func76 zk rfl
  have HQ := Aa.mk (fun (W : World) (hb : Below w.heap.size w W) => Wr 76 #[] e1 (fun g => decide (1 ≤ g ∧ g ≤ 40)) A0_0 c0_0 l0_0 W (Kd.Bh hr0_0 hb) hc0_0 (fun W' x _ _ => Xn x W'))
  have HL := Aa.mk (fun (W : World) (hb : Below w.heap.size w W) => Fe.calls A0_0 c0_0 l0_0 _ W (Kd.Bh hr0_0 hb) hc0_0 rfl)
  have HR := Aa.mk hr0_0
  clear hr0_0 hc0_0 e1
  have HB := Aa.mk (Below.refl w.heap.size w)
  generalize l0_0.all (fun g => decide (1 ≤ g ∧ g ≤ 40)) = b at HQ ⊢
  by_cases h1 : 1 ≤ (l0_0.length : Int) ∧ (l0_0.length : Int) ≤ 8
  · have HW := Aa.mk (fun W => Es.calls (l0_0.length : Int) 1 8 _ W (Ve h1))
    rw [decide_eq_true h1, Bool.true_and]
    clear h1
    go_enter Tryz.func57, Tryz.ntmps57
    go_wp2_with (first
      | (go_at_call 47; refine (HL.out _ (by repeat (first | exact HB.out | apply Dz | apply Ef | apply Bz))).mono ?_; rintro e w' ⟨rfl, ⟨n1, rfl⟩⟩)
      | (go_at_call 43; refine (HW.out _).mono ?_; rintro e w' ⟨rfl, ⟨n2, rfl⟩⟩)
      | (go_at_call 73; refine (HQ.out _ (by repeat (first | exact HB.out | apply Dz | apply Ef | apply Bz))).mono ?_; rintro e w' ⟨rfl, hb1⟩))
    go_ret
    exact ⟨rfl, Ab (by repeat (first | exact HB.out | apply Dz | apply Ef | apply Bz)) hb1⟩
  · have HW := Aa.mk (fun W => Es.calls (l0_0.length : Int) 1 8 _ W (Vd h1))
    rw [decide_eq_false h1, Bool.false_and]
    clear h1
    go_enter Tryz.func57, Tryz.ntmps57
    go_wp2_with (first
      | (go_at_call 47; refine (HL.out _ (by repeat (first | exact HB.out | apply Dz | apply Ef | apply Bz))).mono ?_; rintro e w' ⟨rfl, ⟨n1, rfl⟩⟩)
      | (go_at_call 43; refine (HW.out _).mono ?_; rintro e w' ⟨rfl, ⟨n2, rfl⟩⟩))
    go_ret
    exact ⟨rfl, by repeat (first | exact HB.out | apply Dz | apply Ef | apply Bz)⟩
def Fr.f (a0 : Int) : Option (Bool) := some (a0 != a0)
theorem Fr.calls (a0 : Int) (r : Bool) (w : World) (h : Fr.f a0 = some r) :
    Calls Tryz.prog 110 #[.int .i64 a0] w fun e w' => e = .returned (.bool r) ∧ Ct w w' := by
 have H := h
 clear h
 unfold Fr.f at H
 obtain rfl := Option.some.inj H
 go_enter Tryz.func110, Tryz.ntmps110
 go_wp2
 go_ret
 exact ⟨by first | rfl | (simp; done) | (simp [*]; done), by repeat (first | exact Ct.refl _ | apply Ct.step)⟩
def Gq.f (a0 : Int) (a1 : Int) : Option (Bool) := (Fr.f a0).bind fun t101 => (if t101 = true then ((Fr.f a1).bind fun t102 => (if t102 = true then (some (decide (a0 < a1))) else (some true))) else (some (decide (a0 < a1))))
theorem Gq.calls (a0 : Int) (a1 : Int) (r : Bool) (w : World) (h : Gq.f a0 a1 = some r) :
    Calls Tryz.prog 98 #[.int .i64 a0, .int .i64 a1] w fun e w' => e = .returned (.bool r) ∧ Ct w w' := by
 have H := h
 clear h
 unfold Gq.f at H
 obtain ⟨t101, A3, H⟩ := zO H
 try dsimp only at H
 by_cases c4 : t101 = true
 case neg =>
  replace c4 := Bool.eq_false_iff.mpr c4
  subst c4
  rw [if_neg zf] at H
  obtain rfl := Option.some.inj H
  go_enter Tryz.func98, Tryz.ntmps98
  go_wp2_with (first | (refine gK 110 ?_; refine gL 6 Tryz.func110 #[.int .i64 a0] ?_; (with_reducible refine (Fr.calls a0 false _ A3.out).mono ?_); rintro e w' ⟨rfl, ⟨nd, rfl⟩⟩; refine ⟨_, rfl, ?_⟩))
  go_ret
  exact ⟨by first | rfl | (simp; done) | (simp [*]; done), by repeat (first | exact Ct.refl _ | apply Ct.step)⟩
 subst c4
 rw [if_pos rfl] at H
 obtain ⟨t102, A5, H⟩ := zO H
 try dsimp only at H
 by_cases c6 : t102 = true
 ·
  subst c6
  rw [if_pos rfl] at H
  obtain rfl := Option.some.inj H
  go_enter Tryz.func98, Tryz.ntmps98
  go_wp2_with (first | (refine gK 110 ?_; refine gL 6 Tryz.func110 #[.int .i64 a0] ?_; (with_reducible refine (Fr.calls a0 true _ A3.out).mono ?_); rintro e w' ⟨rfl, ⟨nd, rfl⟩⟩; refine ⟨_, rfl, ?_⟩) | (go_at_call 110; (with_reducible refine (Fr.calls a1 true _ A5.out).mono ?_); rintro e w' ⟨rfl, ⟨nd, rfl⟩⟩))
  go_ret
  exact ⟨by first | rfl | (simp; done) | (simp [*]; done), by repeat (first | exact Ct.refl _ | apply Ct.step)⟩
 replace c6 := Bool.eq_false_iff.mpr c6
 subst c6
 rw [if_neg zf] at H
 obtain rfl := Option.some.inj H
 go_enter Tryz.func98, Tryz.ntmps98
 go_wp2_with (first | (refine gK 110 ?_; refine gL 6 Tryz.func110 #[.int .i64 a0] ?_; (with_reducible refine (Fr.calls a0 true _ A3.out).mono ?_); rintro e w' ⟨rfl, ⟨nd, rfl⟩⟩; refine ⟨_, rfl, ?_⟩) | (go_at_call 110; (with_reducible refine (Fr.calls a1 false _ A5.out).mono ?_); rintro e w' ⟨rfl, ⟨nd, rfl⟩⟩))
 go_ret
 exact ⟨by first | rfl | (simp; done) | (simp [*]; done), by repeat (first | exact Ct.refl _ | apply Ct.step)⟩
mutual
def Ac.l0 : Nat → List Int → Int → Int → Int → Option (List Int)
 | 0, _, _, _, _ => none
 | k + 1, x0, x1, x2, x6 => if x6 < x2 then (Ac.l1 k x0 x1 x2 x6 x6) else (some x0)
def Ac.l1 : Nat → List Int → Int → Int → Int → Int → Option (List Int)
 | 0, _, _, _, _, _ => none
 | k + 1, x0, x1, x2, x6, x7 => if x7 > x1 then (if 0 ≤ x7 then (if x7 < (x0.length : Int) then (if 0 ≤ (wrap64 (x7 - 1)) then (if (wrap64 (x7 - 1)) < (x0.length : Int) then ((Gq.f (rd x0 x7) (rd x0 (wrap64 (x7 - 1)))).bind fun t103 => (if t103 = true then (Ac.l1 k ((x0.set (x7 : Int).toNat (rd x0 (wrap64 (x7 - 1)))).set ((wrap64 (x7 - 1)) : Int).toNat (rd x0 x7)) x1 x2 x6 (wrap64 (x7 - 1))) else (Ac.l0 k x0 x1 x2 (wrap64 (x6 + 1))))) else (none)) else (none)) else (none)) else (none)) else (Ac.l0 k x0 x1 x2 (wrap64 (x6 + 1)))
end
def Ac.f (k : Nat) (l0 : List Int) (a1 : Int) (a2 : Int) : Option (List Int) := Ac.l0 k l0 a1 a2 (wrap64 (a1 + 1))
theorem Ac.mono_l : ∀ k, (∀ y0 y1 y2 y3, LeO (Ac.l0 k y0 y1 y2 y3) (Ac.l0 (k + 1) y0 y1 y2 y3)) ∧ (∀ y0 y1 y2 y3 y4, LeO (Ac.l1 k y0 y1 y2 y3 y4) (Ac.l1 (k + 1) y0 y1 y2 y3 y4))
 | 0 => ⟨fun _ _ _ _ r h => by simp [Ac.l0] at h, fun _ _ _ _ _ r h => by simp [Ac.l1] at h⟩
 | k + 1 => by
  obtain ⟨ih0, ih1⟩ := Ac.mono_l k
  refine ⟨?_, ?_⟩ <;> intros <;> (first | unfold Ac.l0 | unfold Ac.l1) <;> repeat' first | (with_reducible first | exact ih0 _ _ _ _ | exact ih1 _ _ _ _ _ | exact LeO.refl _ | exact LeO.none _ | refine LeO.ite ?_ ?_ | refine LeO.bind ?_ (fun _ => ?_)) | exact ih0 _ _ _ _ | exact ih1 _ _ _ _ _ | exact LeO.none _ | refine LeO.ite ?_ ?_ | refine LeO.bind ?_ (fun _ => ?_)
theorem Ac.mono : ∀ a0 a1 a2 k, LeO (Ac.f k a0 a1 a2) (Ac.f (k + 1) a0 a1 a2) := by
 intro a0 a1 a2 k
 obtain ⟨ih0, ih1⟩ := Ac.mono_l k
 unfold Ac.f
 repeat' first | (with_reducible first | exact ih0 _ _ _ _ | exact ih1 _ _ _ _ _ | exact LeO.refl _ | exact LeO.none _ | refine LeO.ite ?_ ?_ | refine LeO.bind ?_ (fun _ => ?_)) | exact ih0 _ _ _ _ | exact ih1 _ _ _ _ _ | exact LeO.none _ | refine LeO.ite ?_ ?_ | refine LeO.bind ?_ (fun _ => ?_)
def Ac.T4 : Bool × List (List Nat × List Nat) := (true, [([], []), ([], []), ([0, 1], [0, 1]), ([2], [2]), ([3], [3]), ([3], [3]), ([4, 5, 3], [3, 4, 5]), ([6, 3], [3, 6]), ([3], [3]), ([3], [3]), ([9, 3], [3, 9]), ([8, 10, 3], [3, 8, 10]), ([11, 3], [3, 11]), ([7, 12, 3, 3], [3, 7, 12]), ([3, 13], [3, 13])])
def Ac.B4 : List Nat := [0, 0, 3, 7, 15, 15, 63, 127, 15, 15, 527, 1807, 3855, 8191, 16383]
theorem Ac.tab4 : rtab .any (Lz Tryz.f92 4) = Ac.T4 := by kernel_rfl
theorem Ac.bits4 : Gh Ac.T4.2 Ac.B4 = true := by kernel_rfl
def Ac.T6 : Bool × List (List Nat × List Nat) := (true, [([], []), ([], []), ([], []), ([], []), ([3], [3]), ([], []), ([], []), ([6], [6]), ([5, 7], [5, 7]), ([8], [8]), ([], []), ([], []), ([10, 11], [10, 11]), ([12], [12]), ([0, 1, 0, 1, 5, 6, 7, 8, 9, 13], [0, 1]), ([14, 9, 0, 1, 5, 6, 7, 8, 9, 13], [9, 14]), ([2, 4, 0, 1, 2, 3, 4, 5, 6, 7, 8, 9, 10, 11, 12, 13, 14, 15], [2, 4]), ([16, 13, 15, 0, 1, 2, 3, 4, 5, 6, 7, 8, 9, 10, 11, 12, 13, 14, 15], [13, 16])])
def Ac.B6 : List Nat := [0, 0, 0, 0, 8, 0, 0, 64, 224, 480, 0, 0, 3072, 7168, 16355, 32739, 65535, 131071]
theorem Ac.tab6 : rtab .any (Lz Tryz.f92 6) = Ac.T6 := by kernel_rfl
theorem Ac.bits6 : Gh Ac.T6.2 Ac.B6 = true := by kernel_rfl
theorem Ac.calls (k : Nat) (P0_ : Nat → Prop) (u9000_ : Value) (l0 : List Int) (a1 : Int) (a2 : Int) (r : List Int) (w0 w : World) (hB : Below w0.heap.size w0 w) (ho0 : Kd.R (Kd.int .i64) 2 w w0.heap.size P0_ u9000_ l0) (h : Ac.f k l0 a1 a2 = some r) :
    Calls Tryz.prog 92 #[u9000_, .int .i64 a1, .int .i64 a2] w fun e w' => e = .returned (.tuple #[]) ∧ Kd.R (Kd.int .i64) 2 w' w0.heap.size (fun k_ => (P0_ k_ ∨ w.heap.size ≤ k_)) u9000_ r ∧ Below w0.heap.size w0 w' ∧ Dn w w' (fun k_ => P0_ k_) := by
 have HO0 := Aa.mk (show Kd.R (Kd.int .i64) 2 w w0.heap.size (fun k_ => (P0_ k_ ∨ w.heap.size ≤ k_)) u9000_ l0 from Kd.Ai ho0 (fun k_ hk => (.inl hk)))
 have HK := Aa.mk (Dn.refl w (fun k_ => P0_ k_))
 have HW0 := Aa.mk hB.size
 have HB := Aa.mk hB
 clear hB
 have H := h
 clear h
 unfold Ac.f at H
 have H' := Aa.mk H
 clear H
 go_enter Tryz.func92, Tryz.ntmps92
 go_wp2
 go_loopg [6] k (fun kq v6 w' => ∃ (x0_1 : List Int) (x6_1 : Int), v6 = .int .i64 x6_1 ∧ Aa (Ac.l0 kq x0_1 a1 a2 x6_1 = some r) ∧ Aa (kq ≤ k) ∧ Aa (Kd.R (Kd.int .i64) 2 w' w0.heap.size (fun k_ => (P0_ k_ ∨ w.heap.size ≤ k_)) u9000_ x0_1) ∧ Aa (Dn w w' (fun k_ => P0_ k_)) ∧ Aa (Below w0.heap.size w0 w'))
 case atStart => exact ⟨(l0), (wrap64 (a1 + 1)), zF, H', ⟨Nat.le_refl _⟩, ⟨zR HO0.out⟩, ⟨zJ⟩, ⟨zB⟩⟩
 clear H'
 obtain ⟨x0_1, x6_1, rfl, HA, HK1, HO_0, HK, HB⟩ := hrel
 cases gk with
 | zero => exact absurd HA.out (by simp [Ac.l0])
 | succ k1 =>
  have H := HA.out
  clear HA
  simp only [Ac.l0] at H
  by_cases c4 : x6_1 < a2
  case neg =>
   rw [if_neg c4] at H
   have c4b0 := decide_eq_false c4
   clear c4
   obtain rfl := Option.some.inj H
   go_wp2
   first | go_end0 | ((try simp only [Exit.inBlock, Exit.then]); refine bodyPost_ret (results_none rfl _ _ _) rfl ?_)
   exact ⟨zE, zR HO_0.out, zB, zJ⟩
  rw [if_pos c4] at H
  have c4b0 := decide_eq_true c4
  clear c4
  have H' := Aa.mk H
  clear H
  go_wp2
  go_loopg [7] k1 (fun kq v7 w' => ∃ (x0_2 : List Int) (x7_2 : Int), v7 = .int .i64 x7_2 ∧ Aa (Ac.l1 kq x0_2 a1 a2 x6_1 x7_2 = some r) ∧ Aa (kq ≤ k1) ∧ Aa (Kd.R (Kd.int .i64) 2 w' w0.heap.size (fun k_ => (P0_ k_ ∨ w.heap.size ≤ k_)) u9000_ x0_2) ∧ Aa (Dn w w' (fun k_ => P0_ k_)) ∧ Aa (Below w0.heap.size w0 w'))
  case atStart => exact ⟨(x0_1), (x6_1), zF, H', ⟨Nat.le_refl _⟩, ⟨zR HO_0.out⟩, ⟨zJ⟩, ⟨zB⟩⟩
  clear H'
  try clear c4
  try clear c4b0
  obtain ⟨x0_2, x7_2, rfl, HA, HK2, HO_0, HK, HB⟩ := hrel
  cases gk with
  | zero => exact absurd HA.out (by simp [Ac.l1])
  | succ k2 =>
   have H := HA.out
   clear HA
   simp only [Ac.l1] at H
   by_cases c5 : x7_2 > a1
   case neg =>
    rw [if_neg c5] at H
    have c5b0 := decide_eq_false c5
    clear c5
    have H' := Aa.mk H
    clear H
    try go_wp2
    have n_ := y3 (Kd.Ep HO_0.out) (Dn.drew HK.out) (Bz HB.out)
    clear HO_0 HK HB
    obtain ⟨HO_0, HK, HB⟩ := n_
    refine Fg (n := 15) (S := fun w' => True) (ds := []) #[false,false,false,false,false,false,false,false,false,false,false,false,false,false,false] zk rfl rfl trivial (fun hHeld => ?_); refine Eh Ac.tab4 Ac.bits4 (fun HT_ HW_ => ?_)
    generalize wr.drew = w22 at HO_0 HK HB hHeld ⊢
    refine pT 0 16 HT_ ?_
    refine pT 1 17 HT_ ?_
    refine pT 2 18 HT_ ?_
    refine pT 3 19 HT_ ?_
    refine Fz (i := 4) (N := some 20) (v := undef) (a' := ?_) #[true,true,true,true,true,false,false,false,false,false,false,false,false,false,false] rfl rfl (Ga HT_.out zk) (fun _ _ _ h => h) (Or.inr ⟨by rfl, rfl⟩) ?_ ?_
    rotate_left
    ·
     simp only [Act.put, List.setIfInBounds_toArray, List.set_cons_zero, List.set_cons_succ, Ec, En]
     rfl
    refine Fz (i := 5) (N := some 21) (v := undef) (a' := ?_) #[true,true,true,true,true,true,false,false,false,false,false,false,false,false,false] rfl rfl (Ga HT_.out zk) (fun _ _ _ h => h) (Or.inr ⟨by rfl, rfl⟩) ?_ ?_
    rotate_left
    ·
     simp only [Act.put, List.setIfInBounds_toArray, List.set_cons_zero, List.set_cons_succ, Ec, En]
     rfl
    refine Fz (i := 6) (N := some 22) (v := undef) (a' := ?_) #[true,true,true,true,true,true,true,false,false,false,false,false,false,false,false] rfl rfl (Ga HT_.out zk) (fun _ _ _ h => h) (Or.inr ⟨by rfl, rfl⟩) ?_ ?_
    rotate_left
    ·
     simp only [Act.put, List.setIfInBounds_toArray, List.set_cons_zero, List.set_cons_succ, Ec, En]
     rfl
    refine Fz (i := 7) (N := some 23) (v := undef) (a' := ?_) #[true,true,true,true,true,true,true,true,false,false,false,false,false,false,false] rfl rfl (Ga HT_.out zk) (fun _ _ _ h => h) (Or.inr ⟨by rfl, rfl⟩) ?_ ?_
    rotate_left
    ·
     simp only [Act.put, List.setIfInBounds_toArray, List.set_cons_zero, List.set_cons_succ, Ec, En]
     rfl
    refine Fz (i := 8) (N := some 24) (v := undef) (a' := ?_) #[true,true,true,true,true,true,true,true,true,false,false,false,false,false,false] rfl rfl (Ga HT_.out zk) (fun _ _ _ h => h) (Or.inr ⟨by rfl, rfl⟩) ?_ ?_
    rotate_left
    ·
     simp only [Act.put, List.setIfInBounds_toArray, List.set_cons_zero, List.set_cons_succ, Ec, En]
     rfl
    refine Fz (i := 9) (N := some 25) (v := undef) (a' := ?_) #[true,true,true,true,true,true,true,true,true,true,false,false,false,false,false] rfl rfl (Ga HT_.out zk) (fun _ _ _ h => h) (Or.inr ⟨by rfl, rfl⟩) ?_ ?_
    rotate_left
    ·
     simp only [Act.put, List.setIfInBounds_toArray, List.set_cons_zero, List.set_cons_succ, Ec, En]
     rfl
    refine Fz (i := 10) (N := some 26) (v := undef) (a' := ?_) #[true,true,true,true,true,true,true,true,true,true,true,false,false,false,false] rfl rfl (Ga HT_.out zk) (fun _ _ _ h => h) (Or.inr ⟨by rfl, rfl⟩) ?_ ?_
    rotate_left
    ·
     simp only [Act.put, List.setIfInBounds_toArray, List.set_cons_zero, List.set_cons_succ, Ec, En]
     rfl
    refine Fz (i := 11) (N := some 27) (v := undef) (a' := ?_) #[true,true,true,true,true,true,true,true,true,true,true,true,false,false,false] rfl rfl (Ga HT_.out zk) (fun _ _ _ h => h) (Or.inr ⟨by rfl, rfl⟩) ?_ ?_
    rotate_left
    ·
     simp only [Act.put, List.setIfInBounds_toArray, List.set_cons_zero, List.set_cons_succ, Ec, En]
     rfl
    refine Fz (i := 12) (N := some 28) (v := undef) (a' := ?_) #[true,true,true,true,true,true,true,true,true,true,true,true,true,false,false] rfl rfl (Ga HT_.out zk) (fun _ _ _ h => h) (Or.inr ⟨by rfl, rfl⟩) ?_ ?_
    rotate_left
    ·
     simp only [Act.put, List.setIfInBounds_toArray, List.set_cons_zero, List.set_cons_succ, Ec, En]
     rfl
    refine Fz (i := 13) (N := some 29) (v := undef) (a' := ?_) #[true,true,true,true,true,true,true,true,true,true,true,true,true,true,false] rfl rfl (Ga HT_.out zk) (fun _ _ _ h => h) (Or.inr ⟨by rfl, rfl⟩) ?_ ?_
    rotate_left
    ·
     simp only [Act.put, List.setIfInBounds_toArray, List.set_cons_zero, List.set_cons_succ, Ec, En]
     rfl
    refine pT 14 30 HT_ ?_
    refine Gf (Fo HT_.out zk) ?_
    try go_wp2
    go_roundg k2
    case measure => have := HK1.out; have := HK2.out; omega
    case rel => exact ⟨(x0_2), (wrap64 (x6_1 + 1)), zF, H', ⟨by have := HK1.out; have := HK2.out; omega⟩, ⟨zR HO_0.out⟩, ⟨zJ⟩, ⟨zB⟩⟩
   rw [if_pos c5] at H
   have c5b0 := decide_eq_true c5
   clear c5
   by_cases c6 : 0 ≤ x7_2
   case neg => rw [if_neg c6] at H; exact absurd H (by simp)
   rw [if_pos c6] at H
   have c6b0 := decide_eq_true c6
   clear c6
   by_cases c7 : x7_2 < (x0_2.length : Int)
   case neg => rw [if_neg c7] at H; exact absurd H (by simp)
   rw [if_pos c7] at H
   have c7b0 := decide_eq_true c7
   clear c7
   obtain ⟨ji8, hji8⟩ : ∃ j_ : Int, (wrap64 (x7_2 - 1)) = j_ := ⟨_, rfl⟩
   replace H : (if 0 ≤ (ji8) then (if (ji8) < (x0_2.length : Int) then ((Gq.f (rd x0_2 x7_2) (rd x0_2 (ji8))).bind fun t103 => (if t103 = true then (Ac.l1 k2 ((x0_2.set (x7_2 : Int).toNat (rd x0_2 (ji8))).set ((ji8) : Int).toNat (rd x0_2 x7_2)) a1 a2 x6_1 ji8) else (Ac.l0 k2 x0_2 a1 a2 (wrap64 (x6_1 + 1))))) else (none)) else (none)) = some r := by first | (rw [hji8] at H; exact H) | (simp only [hji8] at H ⊢; exact H)
   have hji8w : (IntKind.i64.wrap (x7_2 - 1)) = ji8 := (Ec _).trans hji8
   by_cases c9 : 0 ≤ (ji8)
   case neg => rw [if_neg c9] at H; exact absurd H (by simp)
   rw [if_pos c9] at H
   have c9b0 := decide_eq_true c9
   clear c9
   by_cases c10 : (ji8) < (x0_2.length : Int)
   case neg => rw [if_neg c10] at H; exact absurd H (by simp)
   rw [if_pos c10] at H
   have c10b0 := decide_eq_true c10
   clear c10
   obtain ⟨t103, A11, H⟩ := zO H
   try dsimp only at H
   by_cases c12 : t103 = true
   case neg =>
    replace c12 := Bool.eq_false_iff.mpr c12
    subst c12
    rw [if_neg zf] at H
    have H' := Aa.mk H
    clear H
    try go_wp2
    have n_ := y3 (Kd.Ep HO_0.out) (Dn.drew HK.out) (Bz HB.out)
    clear HO_0 HK HB
    obtain ⟨HO_0, HK, HB⟩ := n_
    obtain ⟨Ao21, co21, eo21⟩ := Kd.Bb HO_0.out
    (first | subst eo21 | (injection eo21 with f1_ f2_ f3_; have f4_ := f1_.symm; have f5_ := f3_.symm; clear f1_ f2_ f3_; subst f4_; subst f5_))
    have p101 : 0 ≤ (x7_2 : Int) := zD
    have q101 : x7_2 < (x0_2.length : Int) := zD
    obtain ⟨ad101, e101, hx101_0⟩ := Kd.Cv (Kd.Ae HO_0.out).2.2 x7_2 p101 q101
    cases e101
    replace p101 := eq_true p101
    replace q101 := eq_true q101
    have p102 : 0 ≤ ((ji8) : Int) := zD
    have q102 : (ji8) < (x0_2.length : Int) := zD
    obtain ⟨ad102, e102, hx102_0⟩ := Kd.Cv (Kd.Ae HO_0.out).2.2 (ji8) p102 q102
    obtain rfl : ad101 = ad102 := (by injection e102)
    replace p102 := eq_true p102
    replace q102 := eq_true q102
    refine Fg (n := 15) (S := fun w' => w'.cell? (ad101.add (x7_2).toNat) = some (.int .i64 (rd x0_2 x7_2)) ∧ w'.cell? (ad101.add ((ji8)).toNat) = some (.int .i64 (rd x0_2 (ji8)))) (ds := []) #[false,false,false,false,false,false,false,false,false,false,false,false,false,false,false] zk rfl rfl ⟨hx101_0, hx102_0⟩ (fun hHeld => ?_); refine Eh Ac.tab4 Ac.bits4 (fun HT_ HW_ => ?_)
    generalize wr.drew = w20 at HO_0 HK HB hx101_0 hx102_0 hHeld ⊢
    refine pT 0 16 HT_ ?_
    refine pT 1 17 HT_ ?_
    refine pT 2 18 HT_ ?_
    refine pT 3 19 HT_ ?_
    refine pT 4 20 HT_ ?_
    refine pT 5 21 HT_ ?_
    refine pT 6 22 HT_ ?_
    refine pT 8 24 HT_ ?_
    refine pT 9 25 HT_ ?_
    refine pT 10 26 HT_ ?_
    refine pT 11 27 HT_ ?_
    refine tT 7 23 HT_ HW_ hHeld ?_
    refine tT 12 28 HT_ HW_ hHeld ?_
    refine Fk (i := 13) (N := some 29) #[true,true,true,true,true,true,true,true,true,true,true,true,true,true,false] rfl rfl (Db HT_.out zk) (by decide) (fun K hK => ?_)
    refine Ff Tryz.func98 zk rfl #[.int .i64 (rd x0_2 x7_2), .int .i64 (rd x0_2 (ji8))] (by rfl) rfl rfl (by (try simp only [List.map_toArray, List.map_cons, List.map_nil]); first | done | (simp only [hji8]; rfl) | rfl | (simp only [List.length_drop, List.length_take]; rfl)) ?_
    with_reducible refine (Gq.calls (rd x0_2 x7_2) (rd x0_2 (ji8)) false _ A11.out).mono ?_
    rintro e w' ⟨rfl, ⟨nd, rfl⟩⟩
    refine ⟨_, rfl, ?_⟩
    refine hK.out _ _ ⟨hHeld.1, hHeld.2⟩ (fun hHeld => ?_)
    clear hK K
    refine nT 29 ?_
    refine pT 14 30 HT_ ?_
    refine Gf (Fo HT_.out zk) ?_
    try go_wp2
    go_roundg k2
    case measure => have := HK1.out; have := HK2.out; omega
    case rel => exact ⟨(x0_2), (wrap64 (x6_1 + 1)), zF, H', ⟨by have := HK1.out; have := HK2.out; omega⟩, ⟨zR HO_0.out⟩, ⟨zJ⟩, ⟨zB⟩⟩
   subst c12
   rw [if_pos rfl] at H
   obtain ⟨y106, hy106⟩ : ∃ y_ : List Int, y_ = (x0_2.set (x7_2 : Int).toNat (rd x0_2 (ji8))) := ⟨_, rfl⟩
   replace H : (Ac.l1 k2 (y106.set ((ji8) : Int).toNat (rd x0_2 x7_2)) a1 a2 x6_1 ji8) = some r := zH hy106
   have Ny106 := Aa.mk hy106
   clear hy106
   obtain ⟨y107, hy107⟩ : ∃ y_ : List Int, y_ = (y106.set ((ji8) : Int).toNat (rd x0_2 x7_2)) := ⟨_, rfl⟩
   replace H : (Ac.l1 k2 y107 a1 a2 x6_1 ji8) = some r := zH hy107
   have Ny107 := Aa.mk hy107
   clear hy107
   have H' := Aa.mk H
   clear H
   try go_wp2
   have n_ := y3 (Kd.Ep HO_0.out) (Dn.drew HK.out) (Bz HB.out)
   clear HO_0 HK HB
   obtain ⟨HO_0, HK, HB⟩ := n_
   obtain ⟨Ao16, co16, eo16⟩ := Kd.Bb HO_0.out
   (first | subst eo16 | (injection eo16 with f1_ f2_ f3_; have f4_ := f1_.symm; have f5_ := f3_.symm; clear f1_ f2_ f3_; subst f4_; subst f5_))
   have p101 : 0 ≤ (x7_2 : Int) := zD
   have q101 : x7_2 < (x0_2.length : Int) := zD
   obtain ⟨ad101, e101, hx101_0⟩ := Kd.Cv (Kd.Ae HO_0.out).2.2 x7_2 p101 q101
   cases e101
   replace p101 := eq_true p101
   replace q101 := eq_true q101
   have p102 : 0 ≤ ((ji8) : Int) := zD
   have q102 : (ji8) < (x0_2.length : Int) := zD
   obtain ⟨ad102, e102, hx102_0⟩ := Kd.Cv (Kd.Ae HO_0.out).2.2 (ji8) p102 q102
   obtain rfl : ad101 = ad102 := (by injection e102)
   replace p102 := eq_true p102
   replace q102 := eq_true q102
   refine Fg (n := 15) (S := fun w' => w'.cell? (ad101.add (x7_2).toNat) = some (.int .i64 (rd x0_2 x7_2)) ∧ w'.cell? (ad101.add ((ji8)).toNat) = some (.int .i64 (rd x0_2 (ji8)))) (ds := []) #[false,false,false,false,false,false,false,false,false,false,false,false,false,false,false] zk rfl rfl ⟨hx101_0, hx102_0⟩ (fun hHeld => ?_); refine Eh Ac.tab4 Ac.bits4 (fun HT_ HW_ => ?_)
   generalize wr.drew = w15 at HO_0 HK HB hx101_0 hx102_0 hHeld ⊢
   refine pT 0 16 HT_ ?_
   refine pT 1 17 HT_ ?_
   refine pT 2 18 HT_ ?_
   refine pT 3 19 HT_ ?_
   refine pT 4 20 HT_ ?_
   refine pT 5 21 HT_ ?_
   refine pT 6 22 HT_ ?_
   refine pT 8 24 HT_ ?_
   refine pT 9 25 HT_ ?_
   refine pT 10 26 HT_ ?_
   refine pT 11 27 HT_ ?_
   refine tT 7 23 HT_ HW_ hHeld ?_
   refine tT 12 28 HT_ HW_ hHeld ?_
   refine Fk (i := 13) (N := some 29) #[true,true,true,true,true,true,true,true,true,true,true,true,true,true,false] rfl rfl (Db HT_.out zk) (by decide) (fun K hK => ?_)
   refine Ff Tryz.func98 zk rfl #[.int .i64 (rd x0_2 x7_2), .int .i64 (rd x0_2 (ji8))] (by rfl) rfl rfl (by (try simp only [List.map_toArray, List.map_cons, List.map_nil]); first | done | (simp only [hji8]; rfl) | rfl | (simp only [List.length_drop, List.length_take]; rfl)) ?_
   with_reducible refine (Gq.calls (rd x0_2 x7_2) (rd x0_2 (ji8)) true _ A11.out).mono ?_
   rintro e w' ⟨rfl, ⟨nd, rfl⟩⟩
   refine ⟨_, rfl, ?_⟩
   refine hK.out _ _ ⟨hHeld.1, hHeld.2⟩ (fun hHeld => ?_)
   clear hK K
   refine nT 29 ?_
   refine pT 14 30 HT_ ?_
   refine Gf (Fo HT_.out zk) ?_
   try go_wp2
   (try (rw [Pq w15]; generalize hq_ : World.drewN w15 _ = w15; have n0_ : Aa (Kd.R (Kd.int .i64) 2 w15 w0.heap.size (fun k_ => (P0_ k_ ∨ w.heap.size ≤ k_)) (.slice (some ad101) x0_2.length co16) x0_2) := ⟨by rw [← hq_]; exact (zR HO_0.out)⟩; have n1_ : Aa (Dn w w15 (fun k_ => P0_ k_)) := ⟨by rw [← hq_]; exact (zJ)⟩; have n2_ : Aa (Below w0.heap.size w0 w15) := ⟨by rw [← hq_]; exact (zB)⟩; clear HO_0 HK HB hq_; have HO_0 := n0_; have HK := n1_; have HB := n2_; clear n0_ n1_ n2_))
   have n_ := y3 (Kd.Ep HO_0.out) (Dn.drew HK.out) (Bz HB.out)
   clear HO_0 HK HB
   obtain ⟨HO_0, HK, HB⟩ := n_
   have p104 : 0 ≤ ((ji8) : Int) := zD
   have q104 : (ji8) < (x0_2.length : Int) := zD
   obtain ⟨ad104, e104, hx104_0⟩ := Kd.Cv (Kd.Ae HO_0.out).2.2 (ji8) p104 q104
   obtain rfl : ad101 = ad104 := (by injection e104)
   replace p104 := eq_true p104
   replace q104 := eq_true q104
   have p105 : 0 ≤ (x7_2 : Int) := zD
   have q105 : x7_2 < (x0_2.length : Int) := zD
   obtain ⟨ad105, e105, hx105_0⟩ := Kd.Cv (Kd.Ae HO_0.out).2.2 x7_2 p105 q105
   obtain rfl : ad101 = ad105 := (by injection e105)
   replace p105 := eq_true p105
   replace q105 := eq_true q105
   have p13 : 0 ≤ (x7_2 : Int) := zD
   have q13 : (x7_2 : Int) < ((x0_2.length : Int) : Int) := zD
   obtain ⟨go13, co13, eo13, gb13, gl13, cl13, HG13⟩ := Kd.Lk HO_0.out (by omega)
   (first | cases eo13 | (injection eo13 with ea_ en_ ec_; (first | subst ea_ | (injection ea_ with ea_; subst ea_)); subst ec_; clear en_))
   have GB13 := Aa.mk gb13
   have GG13 := Aa.mk HG13
   clear gb13 gl13 HG13
   have HMgo13 := Aa.mk (show (P0_ go13 ∨ w.heap.size ≤ go13) from (HO_0.out.1 _ rfl))
   (first | simp only [Gw] at hx101_0 | skip)
   (first | simp only [Gw] at hx102_0 | skip)
   (first | simp only [Gw] at hx104_0 | skip)
   (first | simp only [Gw] at hx105_0 | skip)
   obtain ⟨hx13_0, hf13_0⟩ := Kd.Fx 0 HO_0.out (x7_2 : Int) p13 q13
   replace p13 := eq_true p13
   replace q13 := eq_true q13
   have HP18 := Kd.Pm HO_0.out (x7_2 : Int) (rd x0_2 (ji8))
   rw [← Ny106.out] at HP18
   have HQ18 := Aa.mk HP18
   clear HP18
   have p14 : 0 ≤ ((ji8) : Int) := zD
   have q14 : ((ji8) : Int) < ((x0_2.length : Int) : Int) := zD
   obtain ⟨hx14_0, hf14_0⟩ := Kd.Fx 0 HQ18.out ((ji8) : Int) p14 q14
   replace p14 := eq_true p14
   replace q14 := eq_true q14
   have HP19 := Kd.Pm HQ18.out ((ji8) : Int) (rd x0_2 x7_2)
   rw [← Ny107.out] at HP19
   have HQ19 := Aa.mk HP19
   clear HP19
   refine Fg (n := 18) (S := fun w' => w'.cell? ⟨go13, ((ji8)).toNat, none⟩ = some (.int .i64 (rd x0_2 (ji8))) ∧ w'.cell? ⟨go13, (x7_2).toNat, none⟩ = some (.int .i64 (rd x0_2 x7_2))) (ds := [15, 17]) #[false,false,false,false,false,false,false,false,false,false,false,false,false,false,false,false,false,false] zk rfl rfl ⟨hx104_0, hx105_0⟩ (fun hHeld => ?_); refine Eh Ac.tab6 Ac.bits6 (fun HT_ HW_ => ?_)
   generalize w15.drew = w17 at HO_0 HK HB GG13 HQ18 HQ19 hf13_0 hf14_0 hx101_0 hx102_0 hx104_0 hx105_0 hx13_0 hx14_0 hHeld ⊢
   refine pT 0 33 HT_ ?_
   refine pT 1 34 HT_ ?_
   refine pT 2 35 HT_ ?_
   refine pT 3 36 HT_ ?_
   refine pT 4 37 HT_ ?_
   refine pT 5 38 HT_ ?_
   refine pT 6 39 HT_ ?_
   refine pT 7 40 HT_ ?_
   refine pT 8 41 HT_ ?_
   refine pT 10 43 HT_ ?_
   refine pT 11 44 HT_ ?_
   refine pT 12 45 HT_ ?_
   refine tT 9 42 HT_ HW_ hHeld ?_
   refine tT 13 46 HT_ HW_ hHeld ?_
   refine pT 14 47 HT_ ?_
   refine Ms (i := 15) (N := none) #[true,true,true,true,true,true,true,true,true,true,true,true,true,true,true,true,false,false] rfl rfl (Db HT_.out zk) (by decide) (fun K hK => ?_)
   refine Lo (w1 := ?_) (by rfl) rfl ?_ ?_
   rotate_left
   ·
    go_simp
    rfl
   refine hK.out _ _ ?_
   clear hK K
   refine pT 16 48 HT_ ?_
   refine Ms (i := 17) (N := none) #[true,true,true,true,true,true,true,true,true,true,true,true,true,true,true,true,true,true] rfl rfl (Db HT_.out zk) (by decide) (fun K hK => ?_)
   refine Lo (w1 := ?_) (by rfl) rfl ?_ ?_
   rotate_left
   ·
    go_simp
    rfl
   refine hK.out _ _ ?_
   clear hK K
   refine Gf (Fo HT_.out zk) ?_
   try go_wp2
   go_roundg k2
   case measure => have := HK1.out; have := HK2.out; omega
   case rel => exact ⟨(y107), (ji8), (by first | rfl | (simp; done) | (simp only [← hji8] <;> (first | rfl | simp)) | (simp [*]; done)), H', ⟨by have := HK1.out; have := HK2.out; omega⟩, ⟨zR HQ19.out⟩, ⟨by repeat (first | (with_reducible first | exact HK.out | apply Dn.alloc | apply Dn.drewN | apply Dn.drew | refine Dn.setCell ?_ HMgo13.out _ | refine Dn.setCell ?_ HMgo13.out _) | exact HK.out)⟩, ⟨zB⟩⟩
end Go.Proofs.YtliepcfgcglcmaaGreat.P
end
section
namespace Go.Proofs.YtliepcfgcglcmaaGreat.P
open Go.RowKit Go.Proofs.YtliepcfgcglcmaaGreatW.PrintWords Go.Proofs.YtliepcfgcglcmaaGreatW.PrintLast Go.Proofs.YtliepcfgcglcmaaGreatW.PrintMore
attribute [local go_sem] Kn Kj Ld Li Kb Ke Kl Km
set_option linter.unusedVariables false
set_option linter.unusedSimpArgs false
set_option maxHeartbeats 4000000 in
theorem q1n (x : Int) (w : World) (h0 : 0 ≤ x) (h1 : x ≤ 12) : Calls Tryz.prog 102 #[.int .u64 x] w fun e w' => (∃ y, e = .returned (.int .i64 y)) ∧ w' = w := by
 go_enter Tryz.func102, Tryz.ntmps102
 go_wp2
 all_goals first
  | (exfalso; omega)
  | (go_ret; exact ⟨⟨_, rfl⟩, rfl⟩)
set_option maxHeartbeats 4000000 in
theorem q3c (x : Int) (w : World) (h0 : 0 ≤ x) (h1 : x ≤ 12) : Calls Tryz.prog 89 #[.int .u64 x] w fun e w' => (∃ y, e = .returned (.int .i64 y)) ∧ w' = w := by
 have HC := Aa.mk (q1n x w h0 h1)
 clear h0 h1
 go_enter Tryz.func89, Tryz.ntmps89
 go_wp2_with (go_at_call 102; refine HC.out.mono ?_; rintro e w' ⟨⟨y, rfl⟩, rfl⟩)
 go_ret
 exact ⟨⟨_, rfl⟩, rfl⟩
theorem q2T (k : Nat) (P0_ : Nat → Prop) (u : Value) (l : List Int) (n lim : Int) (hn : 0 ≤ n ∧ n ≤ 12) (r : List Int) (w0 w : World) (hB : Below w0.heap.size w0 w) (ho0 : Kd.R (Kd.int .i64) 2 w w0.heap.size P0_ u l) (h : Ac.f k l 0 n = some r) :
    Calls Tryz.prog 88 #[u, .int .i64 0, .int .i64 n, .int .i64 lim] w fun e w' => e = .returned (.tuple #[]) ∧ Kd.R (Kd.int .i64) 2 w' w0.heap.size (fun k_ => (P0_ k_ ∨ w.heap.size ≤ k_)) u r ∧ Below w0.heap.size w0 w' := by
  have HC := Aa.mk (Ac.calls k P0_ u l 0 n r w0 w hB ho0 h)
  have d0 : wrap64 n = n := by unfold wrap64; omega
  have d1 : decide (n ≤ 12) = true := decide_eq_true hn.2
  clear hB ho0 h hn
  go_enter Tryz.func88, Tryz.ntmps88
  go_wp2
  go_loopg [1, 2, 3, 8, 9] 1 (fun kq v1 v2 v3 v8 v9 w' => v1 = .int .i64 0 ∧ v2 = .int .i64 n ∧ v3 = .int .i64 lim ∧ v8 = .bool true ∧ v9 = .bool true ∧ w' = w)
  case atStart => exact ⟨rfl, rfl, rfl, rfl, rfl, rfl⟩
  case round =>
    obtain ⟨rfl, rfl, rfl, rfl, rfl, rfl⟩ := hrel
    go_wp2_with (go_at_call 92; refine HC.out.mono ?_; rintro e w4 ⟨rfl, hR, hb, hk⟩; have HR := Aa.mk hR; have HB := Aa.mk hb; clear hR hb hk)
    first | go_end0 | (refine bodyPost_ret (results_none rfl _ _ _) rfl ?_)
    exact ⟨rfl, HR.out, HB.out⟩
theorem q2q (k : Nat) (P0_ : Nat → Prop) (A : Option Addr) (c : Nat) (l : List Int) (hn : (l.length : Int) ≤ 12) (r : List Int) (w0 w : World) (hB : Below w0.heap.size w0 w) (ho0 : Kd.R (Kd.int .i64) 2 w w0.heap.size P0_ (.slice A l.length c) l) (h : Ac.f k l 0 (l.length : Int) = some r) :
    Calls Tryz.prog 79 #[.slice A l.length c] w fun e w' => e = .returned (.tuple #[]) ∧ Kd.R (Kd.int .i64) 2 w' w0.heap.size (fun k_ => (P0_ k_ ∨ w.heap.size ≤ k_)) (.slice A l.length c) r ∧ Below w0.heap.size w0 w' := by
  have HC := fun lim => Aa.mk (q2T k P0_ _ l _ lim ⟨by omega, hn⟩ r w0 w hB ho0 h)
  have e9 : IntKind.u64.wrap (l.length : Int) = (l.length : Int) := by show (l.length : Int) % 18446744073709551616 = _; omega
  have HL := Aa.mk (q3c (l.length : Int) w (by omega) hn)
  clear hB ho0 h hn
  generalize l.length = n at HC HL e9 ⊢
  go_enter Tryz.func79, Tryz.ntmps79
  go_wp2_with (first | (go_at_call 89; refine HL.out.mono ?_; rintro e w' ⟨⟨y, rfl⟩, rfl⟩) | (go_at_call 88; refine (HC _).out.mono ?_; rintro e w4 ⟨rfl, hR, hb⟩; have HR := Aa.mk hR; have HB := Aa.mk hb; clear hR hb))
  first | go_end0 | (refine bodyPost_ret (results_none rfl _ _ _) rfl ?_)
  exact ⟨rfl, HR.out, HB.out⟩
attribute [local go_sem] Oper.semAt_some
theorem Yt {zs : List Int} (k : Nat) : zs.take k <+: zs := List.take_prefix _ _
set_option maxHeartbeats 4000000 in
theorem Yo (F : Fence) (n : Nat) (h7 : F.fn 80) (hro : F.round = none) (hn : 1 ≤ n) (l_ B : Nat) (A0 : Option Addr) (c0 : Nat) (zs : List Int) (w : World) (hr0 : Kd.C (Kd.int .i64) w A0 zs.length zs) (J Jx : List Int → World → Prop)
    (hY : ∀ pre x W, J pre W → pre.length < zs.length → YieldAt F (n - 1) Tryz.prog l_ #[.int .i64 x] W fun e W' =>
      (e = .returned (.bool true) ∧ J (pre ++ [x]) W' ∧ Below w.heap.size W W') ∨ (e = .returned (.bool false) ∧ Jx (pre ++ [x]) W'))
    (W : World) (hW : Below w.heap.size w W) (hBs : W.cell? ⟨B, 0, none⟩ = some (.slice A0 zs.length c0)) (h0 : J [] W) :
    CallsIn F n Tryz.prog 80 #[.func (.yield l_) #[] #[], .pointer (some ⟨B, 0, none⟩)] W fun e W' => (∃ v, e = .returned v) ∧
      ((∃ ys, ys = zs ∧ J ys W') ∨ (∃ pre, pre <+: zs ∧ Jx pre W')) := by
  have HR0 := Aa.mk hr0
  refine callsIn_of_wp Tryz.func80 rfl h7 ?_ hro
  simp only [Tryz.ntmps80, List.size_toArray, List.length_cons, List.length_nil, Nat.reduceAdd, Nat.reduceSub, Array.replicate_succ, Array.replicate_zero, List.push_toArray, List.append_toArray, List.nil_append, List.cons_append]
  clear hr0
  gi_wp2
  gi_loopw [7] (fun i wr => ∃ x8 : Int, i = .int .i64 x8 ∧ 0 ≤ x8 ∧ x8.toNat ≤ zs.length ∧ J (zs.take x8.toNat) wr ∧ Below w.heap.size w wr)
    (fun i _ => zs.length - (intOf i).toNat)
  case atStart => exact ⟨0, rfl, by omega, by simp, by simpa using h0, hW⟩
  case round =>
    obtain ⟨x8, rfl, h80, hk, hJs, hnx⟩ := hrel
    by_cases hlt : x8 < (zs.length : Int)
    · obtain ⟨ad, e1, hx⟩ := Kd.Cv HR0.out x8 h80 hlt
      cases e1
      have hcell := Gu hnx hx
      clear hx
      have htake : zs.take x8.toNat ++ [rd zs x8] = zs.take (wrap64 (x8 + 1)).toNat := by
        have hl9 := HR0.out.2.1
        rw [show (wrap64 (x8 + 1)).toNat = x8.toNat + 1 by unfold wrap64; omega, List.take_succ_eq_append_getElem (show x8.toNat < zs.length by omega)]
        congr 2
        simp [rd, show x8.toNat < zs.length by omega]
      have hw8 : 0 ≤ wrap64 (x8 + 1) ∧ (wrap64 (x8 + 1)).toNat = x8.toNat + 1 := by
        have hl9 := HR0.out.2.1
        unfold wrap64; omega
      obtain ⟨fn, tmps, assign, body, hy, hR⟩ := hY _ (rd zs x8) wr hJs (by rw [List.length_take]; omega)
      have c1 := decide_eq_true hlt
      have c2 := eq_true h80
      have c3 := eq_true hlt
      generalize rd zs x8 = y at hcell htake hy hR
      gi_wp2
      refine hR.mono ?_
      rintro e W3 (⟨rfl, hJ3, hk3⟩ | ⟨rfl, hJx3⟩)
      · gi_wp2
        go_roundw
        case rel => exact ⟨_, rfl, hw8.1, by omega, by rw [← htake]; exact hJ3, hnx.trans hk3⟩
        case measure => simp only [intOf]; omega
      · gi_wp2
        refine bodyPost_ret (results_none rfl _ _ _) rfl ?_
        exact ⟨⟨_, rfl⟩, .inr ⟨_, by rw [htake]; exact Yt _, hJx3⟩⟩
    · have c1 := decide_eq_false hlt
      gi_wp2
      go_end0
      rw [List.take_of_length_le (by omega)] at hJs
      exact ⟨⟨_, rfl⟩, .inl (by first | exact hJs | exact ⟨zs, rfl, hJs⟩)⟩
set_option maxHeartbeats 1000000 in
theorem Rt (A0 : Option Addr) (n c0 : Nat) (w : World) :
    Calls Tryz.prog 62 #[.slice A0 n c0] w fun e w' => e = .returned (.func (.func 80) #[] #[.pointer (some ⟨w.heap.size, 0, none⟩)]) ∧ w' = w.alloc (.cells #[.slice A0 n c0] 24) := by
  go_enter Tryz.func62, Tryz.ntmps62
  go_wp2
  go_ret
  exact ⟨rfl, rfl⟩
theorem q1E (F : Fence) (n : Nat) (h7 : F.fn 80) (hro : F.round = none) (hn : 1 ≤ n) (B : Nat) (A0 : Option Addr) (c0 : Nat) (zs : List Int) (w : World) (hBs : B < w.heap.size) (hc : w.cell? ⟨B, 0, none⟩ = some (.slice A0 zs.length c0)) (hr0 : Kd.C (Kd.int .i64) w A0 zs.length zs) :
    SeqStopsK F n Tryz.prog 80 #[.pointer (some ⟨B, 0, none⟩)] (fun x : Int => #[Value.int .i64 x]) (Below w.heap.size) (fun ys => ys = zs) (fun pre => pre <+: zs) zs.length w := fun l J Jx W hW _ _ hY h0 =>
  Yo F n h7 hro hn l B A0 c0 zs w hr0 J Jx hY W hW ((hW.cell (p := ⟨B, 0, none⟩) hBs).trans hc) h0
theorem q3E : (Tryz.prog.info? 2).map (fun i => (i.zero, i.size, i.bytes)) = some (some (.int .i64 0), 1, 8) := by kernel_rfl
set_option maxHeartbeats 4000000 in
theorem Vr (F : Fence) (n : Nat) (hf1 : F.fn 87) (hf2 : F.fn 80) (hro : F.round = none) (hn : 3 ≤ n) (B : Nat) (A0 : Option Addr) (c0 : Nat) (zs : List Int) (hlen : zs.length ≤ 12) (w : World) (hBs : B < w.heap.size) (hcB : w.cell? ⟨B, 0, none⟩ = some (.slice A0 zs.length c0)) (hr0 : Kd.C (Kd.int .i64) w A0 zs.length zs) :
    CallsIn F n Tryz.prog 87 #[.slice none 0 0, .func (.func 80) #[] #[.pointer (some ⟨B, 0, none⟩)]] w fun e W' => ∃ v, e = .returned v ∧ W'.ownsRow w.heap.size 2 1 v zs.length (zs.map (Value.int .i64)) ∧ Below w.heap.size w W' := by
  have h1 : 1 ≤ n := by omega
  have hmax : zs.length ≤ maxLen := Nat.le_trans hlen (by decide)
  obtain ⟨i0, hi, hz0, hz1, hz2⟩ := info_parts q3E
  refine callsIn_of_wp_marks Tryz.func87 rfl hf1 ?_ hro
  simp only [Tryz.ntmps87, List.size_toArray, List.length_cons, List.length_nil, Nat.reduceAdd, Nat.reduceSub, Array.replicate_succ, Array.replicate_zero, List.push_toArray, List.append_toArray, List.nil_append, List.cons_append]
  gi_wp2
  have bO := Boxed.new w 24 (.slice none 0 0)
  have hB0 : Below w.heap.size w (w.alloc (.cells #[.slice none 0 0] 24)) := (Below.refl _ w).alloc (Nat.le_refl _) _
  refine wpIn_rangeFunc_ownG hro h1 (gf := 80) (lb := #[.pointer (some ⟨B, 0, none⟩)]) rfl hf2 (enters_of Tryz.func80 zk rfl)
    (q1E F (n - 1) hf2 hro (by omega) B A0 c0 zs w hBs hcB hr0) belowK_t (belowK_b (by simp)) hB0 (fun _ => rfl)
    (fun pre W => (∃ v, Boxed W w.heap.size 24 v ∧ W.ownsRow w.heap.size 2 1 v pre.length (pre.map (Value.int .i64)) ∧ True) ∧ Below w.heap.size w W)
    (fun _ _ _ => False)
    (OwnFrom.and (Own.from (holdsRow_own w.heap.size w.heap.size 24 2 1 (fun pre : List Int => pre.length) (fun pre => pre.map (Value.int .i64)) (fun _ _ => True)) _) (ownFrom_below (Nat.le_refl _) (by simp)))
    (fun _ _ _ _ _ hs _ _ => hs)
    ⟨⟨_, bO, World.ownsRow_nil _ _ _ _, trivial⟩, hB0⟩
    (fun x => { tmps := #[.slice none 0 0, .func (.func 80) #[] #[.pointer (some ⟨B, 0, none⟩)], .pointer (some ⟨w.heap.size, 0, none⟩), undef, .slice none 0 0, .int .i64 x, .func (.func 80) #[] #[.pointer (some ⟨B, 0, none⟩)], .int .i64 x, undef, undef, undef, undef, undef], defers := [] }) ?assign ?body ?done ?stop
  case assign =>
    intro l x W K hK
    gi_wp2
    exact hK
  case body =>
    rintro l pre x W ⟨⟨v, hv, hrow, _⟩, hB⟩ hlt
    have hc := hv.cell
    gi_wp2_with (gi_at_builtin; refine wpListIn_append_own _ rfl _ _ 24 rfl w.heap.size 2 i0 (.int .i64 0) 1 8 Tryz.underlying24 hi hz0 hz1 hz2 rfl (by decide) _ _ _ rfl (hrow.alloc _) ⟨W.heap.size, 0, none⟩ 1 1 [.int .i64 x] rfl rfl (cell_one_new _ _ _) (by simp [Value.oneCell']) (by omega) (by omega) (by have := hB.size; simp; omega) ?_; intro v' w1 hown' hgrow _; obtain ⟨g', cap', rfl⟩ := ownsRow_succ hown'; obtain ⟨hv1, hv2, hr2, hk2, hb2⟩ := hv.appended (by decide) hrow hB.size (Nat.le_refl _) hown' hgrow; have hc1 := hv1.cell; have hf1 := hv1.frozen)
    exact ⟨hk2.from _, hb2, ⟨_, hv2, by simpa using hr2, trivial⟩, hB.trans hb2⟩
  case done =>
    rintro D ys W hD rfl ⟨⟨v, hv, hrow, _⟩, hB⟩ hK
    have hc := hv.cell
    gi_wp2
    refine ⟨by simp, .inl ⟨_, _, rfl, run_takeDeferred hK, ?_⟩⟩
    exact ⟨_, results_tmp rfl _ _ _, v, rfl, ownsRow_putObj hrow _ hK rfl, hB.trans (belowK_b (w := w) (Nat.le_refl _) W D _ _ (by simp at hD; omega) hK rfl rfl)⟩
  case stop =>
    rintro D c pre W _ _ h _
    exact h.elim
set_option maxHeartbeats 4000000 in
theorem Zf (B : Nat) (A0 : Option Addr) (c0 : Nat) (zs : List Int) (hlen : zs.length ≤ 12) (w : World) (hBs : B < w.heap.size) (hcB : w.cell? ⟨B, 0, none⟩ = some (.slice A0 zs.length c0)) (hr0 : Kd.C (Kd.int .i64) w A0 zs.length zs) :
    Calls Tryz.prog 78 #[.func (.func 80) #[] #[.pointer (some ⟨B, 0, none⟩)]] w fun e W' => ∃ v, e = .returned v ∧ Kd.R (Kd.int .i64) 2 W' w.heap.size (fun _ => True) v zs ∧ Below w.heap.size w W' := by
  have HC := Aa.mk (callsIn_wide.1 (Vr Fence.wide 3 trivial trivial rfl (Nat.le_refl _) B A0 c0 zs hlen w hBs hcB hr0))
  clear hBs hcB hr0 hlen
  go_enter Tryz.func78, Tryz.ntmps78
  go_wp2_with (go_at_call 87; refine HC.out.mono ?_; rintro e w4 ⟨v, rfl, hrow, hb⟩; have HR := Aa.mk (Kd.Ql (h1 := fun _ => rfl) (show w4.ownsRow w.heap.size 2 1 v zs.length (encs (Value.int .i64) zs) from hrow) (ok := fun _ => True) (fun _ _ => trivial)); have HB := Aa.mk hb; clear hrow hb)
  go_ret
  exact ⟨v, rfl, HR.out, HB.out⟩
set_option maxHeartbeats 4000000 in
theorem Rj (k : Nat) (B : Nat) (A0 : Option Addr) (c0 : Nat) (l : List Int) (hlen : l.length ≤ 12) (w : World) (hBs : B < w.heap.size) (hcB : w.cell? ⟨B, 0, none⟩ = some (.slice A0 l.length c0)) (hr0 : Kd.C (Kd.int .i64) w A0 l.length l) (r : List Int) (h : Ac.f k l 0 (l.length : Int) = some r) :
    Calls Tryz.prog 61 #[.func (.func 80) #[] #[.pointer (some ⟨B, 0, none⟩)]] w fun e W' => ∃ v, e = .returned v ∧ Kd.R (Kd.int .i64) 2 W' w.heap.size (fun _ => True) v r ∧ Below w.heap.size w W' := by
  have HC := Aa.mk (Zf B A0 c0 l hlen w hBs hcB hr0)
  have HS := fun (A : Option Addr) (c : Nat) (W : World) => fun hB hR => Aa.mk (q2q k (fun _ => True) A c l (by omega) r w W hB hR h)
  clear hBs hcB hr0 hlen h
  go_enter Tryz.func61, Tryz.ntmps61
  go_wp2_with (first
    | (go_at_call 78; refine HC.out.mono ?_; rintro e w4 ⟨v, rfl, hR, hb⟩; obtain ⟨A, c, rfl⟩ := Kd.Bb hR; have HR := Aa.mk hR; have HB := Aa.mk hb; clear hR hb)
    | (go_at_call 79; refine (HS _ _ _ HB.out HR.out).out.mono ?_; rintro e w5 ⟨rfl, hR, hb⟩; have HR5 := Aa.mk hR; have HB5 := Aa.mk hb; clear hR hb))
  go_ret
  exact ⟨_, rfl, Kd.Ai HR5.out (fun _ _ => trivial), HB5.out⟩
end Go.Proofs.YtliepcfgcglcmaaGreat.P
end
section
namespace Go.Proofs.YtliepcfgcglcmaaGreat.P
open Go.RowKit Go.Proofs.YtliepcfgcglcmaaGreatW.PrintWords Go.Proofs.YtliepcfgcglcmaaGreatW.PrintLast Go.Proofs.YtliepcfgcglcmaaGreatW.PrintMore
attribute [local go_sem] Kn Kj Ld Li Kb Ke Kl Km
set_option linter.unusedVariables false
set_option linter.unusedSimpArgs false
def Eb.f (l0_0 : List Int) : Option (Int) := (Fe.f l0_0).bind fun t102 => (some t102)
theorem Eb.calls (A0_0 : Option Addr) (c0_0 : Nat) (l0_0 : List Int) (r : Int) (w : World) (hr0_0 : Kd.C (Kd.int .i64) w A0_0 l0_0.length l0_0) (hc0_0 : l0_0.length ≤ c0_0) (h : Eb.f l0_0 = some r) :
    Calls Tryz.prog 60 #[.agg #[.slice A0_0 l0_0.length c0_0]] w fun e w' => e = .returned (.int .i64 r) ∧ Below w.heap.size w w' := by
 have hu26 := Tryz.underlying26
 have HR0_0 := Aa.mk hr0_0
 have HC0_0 := Aa.mk hc0_0
 clear hr0_0 hc0_0
 have HB := Aa.mk (Below.refl w.heap.size w)
 have H := h
 clear h
 unfold Eb.f at H
 obtain ⟨t102, A2, H⟩ := zO H
 try dsimp only at H
 obtain rfl := Option.some.inj H
 go_enter Tryz.func60, Tryz.ntmps60
 go_wp2_with (first | ((with_reducible refine Ay (N := 1) rfl ?_); refine Be zr (N := 1) zr (cs := #[.slice A0_0 l0_0.length c0_0]) (t := 26) zg ?_; intro gb101 hg w3 hbox hb; have n_ := y4 (Ab (zB) hb) (hbox) ((zS hg : w.heap.size ≤ gb101)) ((zS hg : w.heap.size ≤ gb101)); clear HB; obtain ⟨HB, BK101, GW101, GE101⟩ := n_; clear hb hbox hg; obtain ⟨hcz4_0, hfz4_0⟩ := zw BK101.out) | (refine gK 47 ?_; refine gL 5 Tryz.func47 #[.slice A0_0 l0_0.length c0_0] ?_; (with_reducible refine (Fe.calls _ _ l0_0 t102 _ ?side1 HC0_0.out A2.out).mono ?_); (case side1 => exact zC (Kd.Bh HR0_0.out HB.out)); rintro e w' ⟨rfl, ⟨nd, rfl⟩⟩; refine ⟨_, rfl, ?_⟩))
 go_ret
 exact ⟨zE, zB⟩
def Dh.l0 : Nat → List Int → List Int → Int → Option (Bool × Int)
 | 0, _, _, _ => none
 | k + 1, s0, s1, i => if i < (s1.length : Int) then (if 0 ≤ i then (if i < (s0.length : Int) then (if rd s1 i < rd s0 i then (some (false, 0)) else (Dh.l0 k s0 s1 (wrap64 (i + 1)))) else (none)) else (none)) else (some (true, 0))
def Dh.f (k : Nat) (l0_0 : List Int) (l1_0 : List Int) : Option (Bool × Int) := (Fj.f l0_0).bind fun t0 => (if t0 = true then ((Fj.f l1_0).bind fun t1 => (if t1 = true then ((Eb.f l0_0).bind fun n0 => ((Eb.f l1_0).bind fun n1 => (if n0 < n1 then (some (false, 0)) else (if (l0_0.length ≤ 12 ∧ l1_0.length ≤ 12) then ((Ac.f k l0_0 0 (l0_0.length : Int)).bind fun s0 => ((Ac.f k l1_0 0 (l1_0.length : Int)).bind fun s1 => (Dh.l0 k s0 s1 0))) else (none))))) else (some (false, 1)))) else (some (false, 1)))
theorem Dh.mono_l : ∀ k, ∀ y0 y1 y2, LeO (Dh.l0 k y0 y1 y2) (Dh.l0 (k + 1) y0 y1 y2)
 | 0 => fun _ _ _ r h => by simp [Dh.l0] at h
 | k + 1 => by
  have ih0 := Dh.mono_l k
  intro y0 y1 y2
  unfold Dh.l0
  repeat' first | (with_reducible first | exact ih0 _ _ _ | exact LeO.refl _ | exact LeO.none _ | refine LeO.ite ?_ ?_)
theorem Dh.mono : ∀ a0 a1 k, LeO (Dh.f k a0 a1) (Dh.f (k + 1) a0 a1) := by
 intro a0 a1 k
 unfold Dh.f
 repeat' first | (with_reducible first | exact Dh.mono_l k _ _ _ | exact Ac.mono _ _ _ _ | exact LeO.refl _ | exact LeO.none _ | refine LeO.ite ?_ ?_ | refine LeO.bind ?_ (fun _ => ?_))
theorem Dh.calls (k : Nat) (A0_0 : Option Addr) (c0_0 : Nat) (l0_0 : List Int) (A1_0 : Option Addr) (c1_0 : Nat) (l1_0 : List Int) (r1 : Bool) (r2 : Int) (w : World) (hr0_0 : Kd.C (Kd.int .i64) w A0_0 l0_0.length l0_0) (hc0_0 : l0_0.length ≤ c0_0) (hr1_0 : Kd.C (Kd.int .i64) w A1_0 l1_0.length l1_0) (hc1_0 : l1_0.length ≤ c1_0) (h : Dh.f k l0_0 l1_0 = some (r1, r2)) :
    Calls Tryz.prog 16 #[.agg #[.slice A0_0 l0_0.length c0_0], .agg #[.slice A1_0 l1_0.length c1_0]] w fun e w' => e = .returned (.tuple #[.bool r1, .int .i64 r2]) ∧ Below w.heap.size w w' := by
  have hu28 := Tryz.underlying26
  have HR0 := Aa.mk hr0_0
  have HC0 := Aa.mk hc0_0
  have HR1 := Aa.mk hr1_0
  have HC1 := Aa.mk hc1_0
  obtain ⟨t0, e0, h⟩ := Option.bind_eq_some_iff.mp h
  have E0 := Aa.mk e0
  have H := Aa.mk h
  have HB := Aa.mk (Dz (Dz (Below.refl w.heap.size w) (.cells #[.slice A0_0 l0_0.length c0_0] 26)) (.cells #[.slice A1_0 l1_0.length c1_0] 26))
  have hq0 := Au (Ak (Ny w (.cells #[.slice A0_0 l0_0.length c0_0] 26)) (.cells #[.slice A1_0 l1_0.length c1_0] 26)) 0
  have hq1 := Au (Ny (w.alloc (.cells #[.slice A0_0 l0_0.length c0_0] 26)) (.cells #[.slice A1_0 l1_0.length c1_0] 26)) 0
  (try simp only [List.getElem?_toArray, List.getElem?_cons_zero, World.size_alloc] at hq0 hq1)
  clear hr0_0 hc0_0 hr1_0 hc1_0 h e0
  cases t0 with
  | false =>
    have h1 := H.out
    rw [if_neg (by simp)] at h1
    obtain ⟨rfl, rfl⟩ := Prod.mk.inj (Option.some.inj h1)
    clear h1 H
    go_enter Tryz.func16, Tryz.ntmps16
    go_wp2_with (go_at_call 57; (with_reducible refine (Fj.calls A0_0 c0_0 l0_0 false _ ?side1 HC0.out E0.out).mono ?_); (case side1 => exact Kd.Bh HR0.out HB.out); rintro e w3 ⟨rfl, hb⟩; have n0_ := Aa.mk (Ab HB.out hb); have q0 := (hb.cell (World.block_lt_of_cell? _ _ hq0)).trans hq0; have q1 := (hb.cell (World.block_lt_of_cell? _ _ hq1)).trans hq1; clear hq0 hq1 HB hb; have HB := n0_; have hq0 := q0; have hq1 := q1; clear n0_ q0 q1)
    go_ret2
    exact ⟨rfl, HB.out⟩
  | true =>
    have h1 := H.out
    rw [if_pos rfl] at h1
    obtain ⟨t1, e1, h2⟩ := Option.bind_eq_some_iff.mp h1
    have E1 := Aa.mk e1
    have H2 := Aa.mk h2
    clear h1 H e1 h2
    cases t1 with
    | false =>
      have h1 := H2.out
      rw [if_neg (by simp)] at h1
      obtain ⟨rfl, rfl⟩ := Prod.mk.inj (Option.some.inj h1)
      clear h1 H2
      go_enter Tryz.func16, Tryz.ntmps16
      go_wp2_with (first | (go_at_call 57; (with_reducible refine (Fj.calls A0_0 c0_0 l0_0 true _ ?side1 HC0.out E0.out).mono ?_); (case side1 => exact Kd.Bh HR0.out HB.out); rintro e w3 ⟨rfl, hb⟩; have n0_ := Aa.mk (Ab HB.out hb); have q0 := (hb.cell (World.block_lt_of_cell? _ _ hq0)).trans hq0; have q1 := (hb.cell (World.block_lt_of_cell? _ _ hq1)).trans hq1; clear hq0 hq1 HB hb; have HB := n0_; have hq0 := q0; have hq1 := q1; clear n0_ q0 q1) | (go_at_call 57; (with_reducible refine (Fj.calls A1_0 c1_0 l1_0 false _ ?side1 HC1.out E1.out).mono ?_); (case side1 => exact Kd.Bh HR1.out HB.out); rintro e w3 ⟨rfl, hb⟩; have n0_ := Aa.mk (Ab HB.out hb); have q0 := (hb.cell (World.block_lt_of_cell? _ _ hq0)).trans hq0; have q1 := (hb.cell (World.block_lt_of_cell? _ _ hq1)).trans hq1; clear hq0 hq1 HB hb; have HB := n0_; have hq0 := q0; have hq1 := q1; clear n0_ q0 q1))
      go_ret2
      exact ⟨rfl, HB.out⟩
    | true =>
      have h1 := H2.out
      rw [if_pos rfl] at h1
      obtain ⟨n0, m0, h2⟩ := Option.bind_eq_some_iff.mp h1
      obtain ⟨n1, m1, h3⟩ := Option.bind_eq_some_iff.mp h2
      have M0 := Aa.mk m0
      have M1 := Aa.mk m1
      have H3 := Aa.mk h3
      clear h1 H2 h2 h3 m0 m1
      go_enter Tryz.func16, Tryz.ntmps16
      go_wp2_with (first | (go_at_call 57; (with_reducible refine (Fj.calls A0_0 c0_0 l0_0 true _ ?side1 HC0.out E0.out).mono ?_); (case side1 => exact Kd.Bh HR0.out HB.out); rintro e w3 ⟨rfl, hb⟩; have n0_ := Aa.mk (Ab HB.out hb); have q0 := (hb.cell (World.block_lt_of_cell? _ _ hq0)).trans hq0; have q1 := (hb.cell (World.block_lt_of_cell? _ _ hq1)).trans hq1; clear hq0 hq1 HB hb; have HB := n0_; have hq0 := q0; have hq1 := q1; clear n0_ q0 q1) | (go_at_call 57; (with_reducible refine (Fj.calls A1_0 c1_0 l1_0 true _ ?side1 HC1.out E1.out).mono ?_); (case side1 => exact Kd.Bh HR1.out HB.out); rintro e w3 ⟨rfl, hb⟩; have n0_ := Aa.mk (Ab HB.out hb); have q0 := (hb.cell (World.block_lt_of_cell? _ _ hq0)).trans hq0; have q1 := (hb.cell (World.block_lt_of_cell? _ _ hq1)).trans hq1; clear hq0 hq1 HB hb; have HB := n0_; have hq0 := q0; have hq1 := q1; clear n0_ q0 q1))
      try go_wp2
      refine Fg (n := 5) (S := fun w' => w'.cell? ⟨w.heap.size, 0, none⟩ = some (.slice A0_0 l0_0.length c0_0) ∧ w'.cell? ⟨w.heap.size + 1, 0, none⟩ = some (.slice A1_0 l1_0.length c1_0)) (ds := []) #[false,false,false,false,false] zk rfl rfl ⟨hq0, hq1⟩ (fun hHeld => ?_)
      replace HB := Aa.mk (Bz HB.out)
      generalize w3.drew = wd at HB hHeld ⊢
      refine tU 0 18 hHeld ?_
      refine tU 2 20 hHeld ?_
      refine Fk (i := 1) (N := some 19) #[true,true,true,false,false] rfl rfl zk (by decide) (fun K hK => ?_)
      refine Ff Tryz.func60 zk rfl #[.agg #[.slice A0_0 l0_0.length c0_0]] (by rfl) rfl rfl (by (try simp only [List.map_toArray, List.map_cons, List.map_nil]); first | done | rfl) ?_
      refine (Eb.calls A0_0 c0_0 l0_0 n0 _ (Kd.Bh HR0.out HB.out) HC0.out M0.out).mono ?_
      rintro e w4 ⟨rfl, hb⟩
      have hy0 := (hb.cell (World.block_lt_of_cell? _ _ hHeld.1)).trans hHeld.1
      have hy1 := (hb.cell (World.block_lt_of_cell? _ _ hHeld.2)).trans hHeld.2
      clear hHeld
      replace HB := Aa.mk (Ab HB.out hb)
      clear hb
      refine ⟨_, rfl, ?_⟩
      refine hK.out _ _ ⟨hy0, hy1⟩ (fun hHeld => ?_)
      clear hK K
      refine nT 19 ?_
      refine Fk (i := 3) (N := some 21) #[true,true,true,true,false] rfl rfl zk (by decide) (fun K hK => ?_)
      refine Ff Tryz.func60 zk rfl #[.agg #[.slice A1_0 l1_0.length c1_0]] (by rfl) rfl rfl (by (try simp only [List.map_toArray, List.map_cons, List.map_nil]); first | done | rfl) ?_
      refine (Eb.calls A1_0 c1_0 l1_0 n1 _ (Kd.Bh HR1.out HB.out) HC1.out M1.out).mono ?_
      rintro e w4 ⟨rfl, hb⟩
      have hy0 := (hb.cell (World.block_lt_of_cell? _ _ hHeld.1)).trans hHeld.1
      have hy1 := (hb.cell (World.block_lt_of_cell? _ _ hHeld.2)).trans hHeld.2
      clear hHeld
      replace HB := Aa.mk (Ab HB.out hb)
      clear hb
      refine ⟨_, rfl, ?_⟩
      refine hK.out _ _ ⟨hy0, hy1⟩ (fun hHeld => ?_)
      clear hK K
      refine nT 21 ?_
      refine pU 4 22 ?_
      refine Gf zk ?_
      by_cases c5 : n0 < n1
      · have h1 := H3.out
        rw [if_pos c5] at h1
        obtain ⟨rfl, rfl⟩ := Prod.mk.inj (Option.some.inj h1)
        have c5b := decide_eq_true c5
        clear h1 H3
        (try simp only [c5b])
        try go_wp2
        go_ret2
        exact ⟨rfl, HB.out⟩
      · have h1 := H3.out
        rw [if_neg c5] at h1
        have c5b := decide_eq_false c5
        clear H3
        (try simp only [c5b])
        by_cases c6 : (l0_0.length ≤ 12 ∧ l1_0.length ≤ 12)
        · rw [if_pos c6] at h1
          obtain ⟨s0, e2, h2⟩ := Option.bind_eq_some_iff.mp h1
          obtain ⟨s1, e3, h3⟩ := Option.bind_eq_some_iff.mp h2
          have L0 := Aa.mk c6.1
          have L1 := Aa.mk c6.2
          have S0 := Aa.mk e2
          have S1 := Aa.mk e3
          have H' := Aa.mk h3
          clear h1 h2 h3 e2 e3 c6
          have hq0 := hHeld.1
          have hq1 := hHeld.2
          clear hHeld
          generalize w4 = w3 at HB hq0 hq1 ⊢
          try go_wp2
          refine Fg (n := 10) (S := fun w' => w'.cell? ⟨w.heap.size, 0, none⟩ = some (.slice A0_0 l0_0.length c0_0) ∧ w'.cell? ⟨w.heap.size + 1, 0, none⟩ = some (.slice A1_0 l1_0.length c1_0)) (ds := []) #[false,false,false,false,false,false,false,false,false,false] zk rfl rfl ⟨hq0, hq1⟩ (fun hHeld => ?_)
          replace HB := Aa.mk (Bz HB.out)
          generalize w3.drew = wd at HB hHeld ⊢
          refine tU 0 23 hHeld ?_
          refine tU 1 24 hHeld ?_
          refine tU 4 27 hHeld ?_
          refine tU 5 28 hHeld ?_
          refine Fk (i := 2) (N := some 25) #[true,true,true,false,true,true,false,false,false,false] rfl rfl zk (by decide) (fun K hK => ?_)
          refine Ff Tryz.func62 zk rfl #[.slice A0_0 l0_0.length c0_0] (by rfl) rfl rfl (by (try simp only [List.map_toArray, List.map_cons, List.map_nil]); first | done | rfl) ?_
          refine (Rt A0_0 l0_0.length c0_0 _).mono ?_
          rintro e w4 ⟨rfl, rfl⟩
          have hb := Dz (Below.refl wd.heap.size wd) (.cells #[.slice A0_0 l0_0.length c0_0] 24)
          have hBn : wd.heap.size < (wd.alloc (.cells #[.slice A0_0 l0_0.length c0_0] 24)).heap.size := by simp
          have hcn := Au (Ny wd (.cells #[.slice A0_0 l0_0.length c0_0] 24)) 0
          (try simp only [List.getElem?_toArray, List.getElem?_cons_zero] at hcn)
          have hy0 := (hb.cell (World.block_lt_of_cell? _ _ hHeld.1)).trans hHeld.1
          have hy1 := (hb.cell (World.block_lt_of_cell? _ _ hHeld.2)).trans hHeld.2
          clear hHeld
          replace HB := Aa.mk (Ab HB.out hb)
          clear hb
          refine ⟨_, rfl, ?_⟩
          refine hK.out _ _ ⟨hy0, hy1⟩ (fun hHeld => ?_)
          clear hK K
          refine nT 25 ?_
          have HV := Aa.mk (Rj k wd.heap.size A0_0 c0_0 l0_0 L0.out _ hBn hcn (Kd.Bh HR0.out HB.out) s0 S0.out)
          clear hcn hBn
          generalize wd.alloc (.cells #[.slice A0_0 l0_0.length c0_0] 24) = we at HB hHeld HV  ⊢
          generalize wd.heap.size = Bv at HV ⊢
          (try clear wd)
          refine Fk (i := 3) (N := some 26) #[true,true,true,true,true,true,false,false,false,false] rfl rfl zk (by decide) (fun K hK => ?_)
          refine Ff Tryz.func61 zk rfl #[.func (.func 80) #[] #[.pointer (some ⟨Bv, 0, none⟩)]] (by rfl) rfl rfl (by (try simp only [List.map_toArray, List.map_cons, List.map_nil]); first | done | rfl) ?_
          refine (HV.out).mono ?_
          rintro e w4 ⟨v0, rfl, hR, hb⟩
          have HS0 := Aa.mk (Kd.Bk hR HB.out.size)
          clear hR HV
          have hy0 := (hb.cell (World.block_lt_of_cell? _ _ hHeld.1)).trans hHeld.1
          have hy1 := (hb.cell (World.block_lt_of_cell? _ _ hHeld.2)).trans hHeld.2
          clear hHeld
          replace HB := Aa.mk (Ab HB.out hb)
          clear hb
          refine ⟨_, rfl, ?_⟩
          refine hK.out _ _ ⟨hy0, hy1⟩ (fun hHeld => ?_)
          clear hK K
          refine nT 26 ?_
          (try clear we)
          generalize w4 = wd at HB hHeld HS0  ⊢
          refine Fk (i := 6) (N := some 29) #[true,true,true,true,true,true,true,false,false,false] rfl rfl zk (by decide) (fun K hK => ?_)
          refine Ff Tryz.func62 zk rfl #[.slice A1_0 l1_0.length c1_0] (by rfl) rfl rfl (by (try simp only [List.map_toArray, List.map_cons, List.map_nil]); first | done | rfl) ?_
          refine (Rt A1_0 l1_0.length c1_0 _).mono ?_
          rintro e w4 ⟨rfl, rfl⟩
          have hb := Dz (Below.refl wd.heap.size wd) (.cells #[.slice A1_0 l1_0.length c1_0] 24)
          have hBn : wd.heap.size < (wd.alloc (.cells #[.slice A1_0 l1_0.length c1_0] 24)).heap.size := by simp
          have hcn := Au (Ny wd (.cells #[.slice A1_0 l1_0.length c1_0] 24)) 0
          (try simp only [List.getElem?_toArray, List.getElem?_cons_zero] at hcn)
          have HS0_ := Aa.mk (Kd.Ap HS0.out hb)
          clear HS0
          have HS0 := HS0_
          clear HS0_
          have hy0 := (hb.cell (World.block_lt_of_cell? _ _ hHeld.1)).trans hHeld.1
          have hy1 := (hb.cell (World.block_lt_of_cell? _ _ hHeld.2)).trans hHeld.2
          clear hHeld
          replace HB := Aa.mk (Ab HB.out hb)
          clear hb
          refine ⟨_, rfl, ?_⟩
          refine hK.out _ _ ⟨hy0, hy1⟩ (fun hHeld => ?_)
          clear hK K
          refine nT 29 ?_
          have HV := Aa.mk (Rj k wd.heap.size A1_0 c1_0 l1_0 L1.out _ hBn hcn (Kd.Bh HR1.out HB.out) s1 S1.out)
          clear hcn hBn
          generalize wd.alloc (.cells #[.slice A1_0 l1_0.length c1_0] 24) = we at HB hHeld HV HS0 ⊢
          generalize wd.heap.size = Bv at HV ⊢
          (try clear wd)
          refine Fk (i := 7) (N := some 30) #[true,true,true,true,true,true,true,true,false,false] rfl rfl zk (by decide) (fun K hK => ?_)
          refine Ff Tryz.func61 zk rfl #[.func (.func 80) #[] #[.pointer (some ⟨Bv, 0, none⟩)]] (by rfl) rfl rfl (by (try simp only [List.map_toArray, List.map_cons, List.map_nil]); first | done | rfl) ?_
          refine (HV.out).mono ?_
          rintro e w4 ⟨v1, rfl, hR, hb⟩
          have HS1 := Aa.mk (Kd.Bk hR HB.out.size)
          have HS0_ := Aa.mk (Kd.Ap HS0.out hb)
          clear HS0
          have HS0 := HS0_
          clear HS0_
          clear hR HV
          have hy0 := (hb.cell (World.block_lt_of_cell? _ _ hHeld.1)).trans hHeld.1
          have hy1 := (hb.cell (World.block_lt_of_cell? _ _ hHeld.2)).trans hHeld.2
          clear hHeld
          replace HB := Aa.mk (Ab HB.out hb)
          clear hb
          refine ⟨_, rfl, ?_⟩
          refine hK.out _ _ ⟨hy0, hy1⟩ (fun hHeld => ?_)
          clear hK K
          refine nT 30 ?_
          (try clear we)
          generalize w4 = wd at HB hHeld HS1 HS0 ⊢
          refine pU 8 6 ?_
          refine pU 9 7 ?_
          refine Gf zk ?_
          obtain ⟨A2, c2, rfl⟩ := Kd.Bb HS0.out
          obtain ⟨A3, c3, rfl⟩ := Kd.Bb HS1.out
          have HD0 := Aa.mk (Kd.Ae HS0.out).2.2
          have HD1 := Aa.mk (Kd.Ae HS1.out).2.2
          clear HS0 HS1 hHeld
          try go_wp2
          go_loopg [33] k (fun kq v33 w' => ∃ i : Int, v33 = .int .i64 i ∧ Aa (Dh.l0 kq s0 s1 i = some (r1, r2)) ∧ Aa (w' = wd))
          case atStart => exact ⟨0, rfl, H', ⟨rfl⟩⟩
          case round =>
            clear H'
            obtain ⟨i, rfl, HA, hw_⟩ := hrel
            obtain rfl := hw_.out
            cases gk with
            | zero => exact absurd HA.out (by simp [Dh.l0])
            | succ k1 =>
              have H := HA.out
              clear HA hw_
              simp only [Dh.l0] at H
              by_cases d1 : i < (s1.length : Int)
              · rw [if_pos d1] at H
                by_cases d2 : 0 ≤ i
                · rw [if_pos d2] at H
                  by_cases d3 : i < (s0.length : Int)
                  · rw [if_pos d3] at H
                    obtain ⟨ad0, e0, hx0⟩ := Kd.Cv HD0.out i d2 d3
                    cases e0
                    obtain ⟨ad1, e1, hx1⟩ := Kd.Cv HD1.out i d2 d1
                    cases e1
                    have d1b := decide_eq_true d1
                    have d2b := eq_true d2
                    have d1c := eq_true d1
                    have d3c := eq_true d3
                    by_cases d4 : rd s1 i < rd s0 i
                    · rw [if_pos d4] at H
                      obtain ⟨rfl, rfl⟩ := Prod.mk.inj (Option.some.inj H)
                      have d4b := decide_eq_true d4
                      clear H d1 d2 d3 d4
                      generalize rd s1 i = y1 at hx1 d4b
                      generalize rd s0 i = y0 at hx0 d4b
                      go_wp2
                      go_ret2
                      exact ⟨rfl, HB.out⟩
                    · rw [if_neg d4] at H
                      have d4b := decide_eq_false d4
                      have H' := Aa.mk H
                      clear H d1 d2 d3 d4
                      generalize rd s1 i = y1 at hx1 d4b
                      generalize rd s0 i = y0 at hx0 d4b
                      go_wp2
                      go_roundg k1
                      case measure => omega
                      case rel => exact ⟨_, rfl, H', ⟨rfl⟩⟩
                  · rw [if_neg d3] at H
                    exact absurd H (by simp)
                · rw [if_neg d2] at H
                  exact absurd H (by simp)
              · rw [if_neg d1] at H
                obtain ⟨rfl, rfl⟩ := Prod.mk.inj (Option.some.inj H)
                have d1b := decide_eq_false d1
                clear H d1
                go_wp2
                go_ret2
                exact ⟨rfl, HB.out⟩
        · rw [if_neg c6] at h1
          exact absurd h1 (by simp)
theorem q2y {P : Program} {ops : Array Oper} {Q : Exit → Act → World → Prop} {oi : Oper} {N : Option Tmp} {a : Act} {w : World} {K : Act → World → Prop} {g : Nat} {lb : Array Value} {c : Operand} {as_ : Array Operand} {ts : Array TypeId} (vs : Array Value)
    (hw : Region.wanted oi (yielded ops a.tmps) = true) (hN : oi.dst = N) (hop : oi.op = .call { callee := .value c, args := as_, argTypes := ts }) (hc : a.eval c = .func (.func g) #[] lb) (hargs : as_.map a.eval = vs)
    (eg : ∀ args w, (callFunc g args).run P w = .ok (.enter g args) w)
    (h : Calls P g (vs ++ lb) w fun e w' => ∃ v, e = .returned v ∧ K (a.put N v) w') : if Region.wanted oi (yielded ops a.tmps) = true then Oper.wp P oi a w K Q else K (a.put N undef) w := by
  refine q3g g (vs ++ lb) hw hN ?_ h
  unfold execOp
  simp [hop, resolve, Deferred.ofValue, invoke, hc, hargs, eg]
mutual
def insF.l0 (cmp : Int → Int → Int) : Nat → List Int → Int → Int → Int → Option (List Int)
 | 0, _, _, _, _ => none
 | k + 1, l, a, b, i => if i < b then (insF.l1 cmp k l a b i i) else (some l)
def insF.l1 (cmp : Int → Int → Int) : Nat → List Int → Int → Int → Int → Int → Option (List Int)
 | 0, _, _, _, _, _ => none
 | k + 1, l, a, b, i, j => if j > a then (if 0 ≤ j then (if j < (l.length : Int) then (if 0 ≤ wrap64 (j - 1) then (if wrap64 (j - 1) < (l.length : Int) then (if cmp (rd l j) (rd l (wrap64 (j - 1))) < 0 then (if wrap64 (j - 1) ≠ j then (insF.l1 cmp k ((l.set j.toNat (rd l (wrap64 (j - 1)))).set (wrap64 (j - 1)).toNat (rd l j)) a b i (wrap64 (j - 1))) else (none)) else (insF.l0 cmp k l a b (wrap64 (i + 1)))) else (none)) else (none)) else (none)) else (none)) else (insF.l0 cmp k l a b (wrap64 (i + 1)))
end
theorem insF.mono_l (cmp : Int → Int → Int) : ∀ k, (∀ y0 y1 y2 y3, LeO (insF.l0 cmp k y0 y1 y2 y3) (insF.l0 cmp (k + 1) y0 y1 y2 y3)) ∧ (∀ y0 y1 y2 y3 y4, LeO (insF.l1 cmp k y0 y1 y2 y3 y4) (insF.l1 cmp (k + 1) y0 y1 y2 y3 y4))
 | 0 => ⟨fun _ _ _ _ r h => by simp [insF.l0] at h, fun _ _ _ _ _ r h => by simp [insF.l1] at h⟩
 | k + 1 => by
  obtain ⟨ih0, ih1⟩ := insF.mono_l cmp k
  refine ⟨?_, ?_⟩
  ·
   intro y0 y1 y2 y3
   unfold insF.l0
   repeat' first | (with_reducible first | exact ih1 _ _ _ _ _ | exact LeO.refl _ | exact LeO.none _ | refine LeO.ite ?_ ?_)
  ·
   intro y0 y1 y2 y3 y4
   unfold insF.l1
   repeat' first | (with_reducible first | exact ih0 _ _ _ _ | exact ih1 _ _ _ _ _ | exact LeO.refl _ | exact LeO.none _ | refine LeO.ite ?_ ?_)
theorem Zn {l : List Int} {i j : Nat} {x y z : Int} (h : z ∈ (l.set i x).set j y) : z = x ∨ z = y ∨ z ∈ l := by
  rcases List.mem_or_eq_of_mem_set h with h | h
  · rcases List.mem_or_eq_of_mem_set h with h | h
    · exact .inr (.inr h)
    · exact .inl h
  · exact .inr (.inl h)
set_option maxHeartbeats 16000000 in
theorem Vv (k g : Nat) (lb : Array Value) (eg : ∀ args w, (callFunc g args).run Tryz.prog w = .ok (.enter g args) w) (cmp : Int → Int → Int) (Q_ : Int → Prop) (P0_ : Nat → Prop) (u : Value) (l : List Int) (a b : Int) (r : List Int) (w0 w : World) (hB : Below w0.heap.size w0 w) (ho0 : Kd.R (Kd.int .i64) 2 w w0.heap.size P0_ u l) (hq : ∀ x ∈ l, Q_ x)
    (hp : ∀ W : World, Dn w W P0_ → ∀ x y : Int, Q_ x → Q_ y → Calls Tryz.prog g (#[.int .i64 x, .int .i64 y] ++ lb) W fun e w' => e = .returned (.int .i64 (cmp x y)) ∧ Below W.heap.size W w') (h : insF.l0 cmp k l a b (wrap64 (a + 1)) = some r) :
    Calls Tryz.prog 103 #[u, .int .i64 a, .int .i64 b, .func (.func g) #[] lb] w fun e w' => e = .returned (.tuple #[]) ∧ Kd.R (Kd.int .i64) 2 w' w0.heap.size P0_ u r ∧ Below w0.heap.size w0 w' ∧ Dn w w' P0_ := by
  have HO := Aa.mk ho0
  have HQ := Aa.mk hq
  have HP := Aa.mk hp
  have HB := Aa.mk hB
  have HK := Aa.mk (Dn.refl w P0_)
  have H' := Aa.mk h
  obtain ⟨Ao, co, rfl⟩ := Kd.Bb ho0
  generalize l.length = n0 at HO ⊢
  clear ho0 hq hp hB h
  go_enter Tryz.func103, Tryz.ntmps103
  go_wp2
  go_loopg [8] k (fun kq v8 w' => ∃ (l_1 : List Int) (i_1 : Int), v8 = .int .i64 i_1 ∧ Aa (insF.l0 cmp kq l_1 a b i_1 = some r) ∧ Aa (kq ≤ k) ∧ Aa (∀ x ∈ l_1, Q_ x) ∧ Aa (Kd.R (Kd.int .i64) 2 w' w0.heap.size P0_ (.slice Ao n0 co) l_1) ∧ Aa (Below w0.heap.size w0 w') ∧ Aa (Dn w w' P0_))
  case atStart => exact ⟨l, (wrap64 (a + 1)), zF, H', ⟨Nat.le_refl _⟩, HQ, HO, HB, HK⟩
  case round =>
    clear H' HQ HO HB HK
    obtain ⟨l_1, i_1, rfl, HA, HK1, HQ, HO, HB, HK⟩ := hrel
    cases gk with
    | zero => exact absurd HA.out (by simp [insF.l0])
    | succ k1 =>
      have H := HA.out
      clear HA
      simp only [insF.l0] at H
      by_cases c12 : i_1 < b
      · rw [if_pos c12] at H
        have c12b0 := decide_eq_true c12
        clear c12
        have H' := Aa.mk H
        clear H
        go_wp2
        go_loopg [9] k1 (fun kq v9 w' => ∃ (l_2 : List Int) (j_2 : Int), v9 = .int .i64 j_2 ∧ Aa (insF.l1 cmp kq l_2 a b i_1 j_2 = some r) ∧ Aa (kq ≤ k1) ∧ Aa (∀ x ∈ l_2, Q_ x) ∧ Aa (Kd.R (Kd.int .i64) 2 w' w0.heap.size P0_ (.slice Ao n0 co) l_2) ∧ Aa (Below w0.heap.size w0 w') ∧ Aa (Dn w w' P0_))
        case atStart => exact ⟨l_1, i_1, zF, H', ⟨Nat.le_refl _⟩, HQ, HO, HB, HK⟩
        case round =>
          clear H' HQ HO HB HK
          try clear c12b0
          obtain ⟨l_2, j_2, rfl, HA, HK2, HQ, HO, HB, HK⟩ := hrel
          cases gk with
          | zero => exact absurd HA.out (by simp [insF.l1])
          | succ k2 =>
            have H := HA.out
            clear HA
            simp only [insF.l1] at H
            obtain rfl := (Kd.Ae HO.out).1
            by_cases c13 : j_2 > a
            · rw [if_pos c13] at H
              have c13b0 := decide_eq_true c13
              have c13b1 := decide_eq_true c13
              by_cases c14 : 0 ≤ j_2
              · rw [if_pos c14] at H
                by_cases c15 : j_2 < (l_2.length : Int)
                · rw [if_pos c15] at H
                  by_cases c16 : 0 ≤ wrap64 (j_2 - 1)
                  · rw [if_pos c16] at H
                    by_cases c17 : wrap64 (j_2 - 1) < (l_2.length : Int)
                    · rw [if_pos c17] at H
                      obtain ⟨go15, co15, eo15, gb15, gl15, cl15, HG15⟩ := Kd.Lk HO.out (by omega)
                      (first | cases eo15 | (injection eo15 with ea_ en_ ec_; (first | subst ea_ | (injection ea_ with ea_; subst ea_)); subst ec_; clear en_))
                      have GB15 := Aa.mk gb15
                      clear gb15 gl15 HG15
                      obtain ⟨hx0, hf0⟩ := Kd.Fx 0 HO.out j_2 c14 c15
                      obtain ⟨hx1, hf1⟩ := Kd.Fx 0 HO.out (wrap64 (j_2 - 1)) c16 c17
                      have p14 := eq_true c14
                      have p15 := eq_true c15
                      have p16 := eq_true c16
                      have p17 := eq_true c17
                      have HPG := Aa.mk (HO.out.1 _ rfl)
                      by_cases c18 : cmp (rd l_2 j_2) (rd l_2 (wrap64 (j_2 - 1))) < 0
                      · rw [if_pos c18] at H
                        by_cases c19 : wrap64 (j_2 - 1) ≠ j_2
                        · rw [if_pos c19] at H
                          have c18b0 := decide_eq_true c18
                          have H' := Aa.mk H
                          clear H c18 c19
                          have HQ2 := Aa.mk (fun (x : Int) (hx : x ∈ (l_2.set j_2.toNat (rd l_2 (wrap64 (j_2 - 1)))).set (wrap64 (j_2 - 1)).toNat (rd l_2 j_2)) => show Q_ x from by
                            rcases Zn hx with rfl | rfl | hx
                            · exact HQ.out _ (Fs c16 c17)
                            · exact HQ.out _ (Fs c14 c15)
                            · exact HQ.out _ hx)
                          try go_wp2
                          refine Fg (n := 17) (S := fun w' => w'.cell? ⟨go15, j_2.toNat, none⟩ = some (.int .i64 (rd l_2 j_2)) ∧ w'.cell? ⟨go15, (wrap64 (j_2 - 1)).toNat, none⟩ = some (.int .i64 (rd l_2 (wrap64 (j_2 - 1))))) (ds := []) #[false,false,false,false,false,false,false,false,false,false,false,false,false,false,false,false,false] zk rfl rfl ⟨hx0, hx1⟩ (fun hHeld => ?_)
                          have HO1 := Aa.mk (Kd.Ep HO.out)
                          have HB1 := Aa.mk (Bz HB.out)
                          have HK1_ := Aa.mk (Dn.drew HK.out)
                          clear HO HB HK hx0 hx1 hf0 hf1
                          generalize wr.drew = w3 at HO1 HB1 HK1_ hHeld ⊢
                          refine pU 0 18 ?_
                          refine pU 1 19 ?_
                          refine pU 2 20 ?_
                          refine pU 3 21 ?_
                          refine pU 4 22 ?_
                          refine pU 5 23 ?_
                          refine pU 6 24 ?_
                          refine pU 7 25 ?_
                          refine tU 8 26 hHeld ?_
                          refine pU 9 27 ?_
                          refine pU 10 28 ?_
                          refine pU 11 29 ?_
                          refine pU 12 30 ?_
                          refine tU 13 31 hHeld ?_
                          refine Fk (i := 14) (N := some 32) #[true,true,true,true,true,true,true,true,true,true,true,true,true,true,true,false,false] rfl rfl zk (by decide) (fun K hK => ?_)
                          refine q2y (g := g) (lb := lb) #[.int .i64 (rd l_2 j_2), .int .i64 (rd l_2 (wrap64 (j_2 - 1)))] (by rfl) rfl rfl (by rfl) (by (try simp only [List.map_toArray, List.map_cons, List.map_nil]); first | done | rfl) eg ?_
                          refine (HP.out _ HK1_.out _ _ (HQ.out _ (Fs c14 c15)) (HQ.out _ (Fs c16 c17))).mono ?_
                          rintro e w4 ⟨rfl, hb⟩
                          have HO2 := Aa.mk (Kd.q0n HO1.out (Dn.of_below hb (fun _ => False)) (fun _ _ h_ => h_))
                          have HB2 := Aa.mk (Ab HB1.out hb)
                          have HK2_ := Aa.mk (Dn.below HK1_.out hb)
                          have hy0 := (hb.cell (World.block_lt_of_cell? _ _ hHeld.1)).trans hHeld.1
                          have hy1 := (hb.cell (World.block_lt_of_cell? _ _ hHeld.2)).trans hHeld.2
                          clear HO1 HB1 HK1_ hb
                          refine ⟨_, rfl, ?_⟩
                          refine hK.out _ _ ⟨hy0, hy1⟩ (fun hHeld => ?_)
                          clear hK K
                          refine nT 32 ?_
                          refine pU 15 33 ?_
                          refine pU 16 34 ?_
                          refine Gf zk ?_
                          try go_wp2
                          have HO3 := Aa.mk (Kd.Ep HO2.out)
                          have HB3 := Aa.mk (Bz HB2.out)
                          have HK3_ := Aa.mk (Dn.drew HK2_.out)
                          obtain ⟨hx0, hf0⟩ := Kd.Fx 0 HO3.out j_2 (of_eq_true p14) (of_eq_true p15)
                          obtain ⟨hx1, hf1⟩ := Kd.Fx 0 HO3.out (wrap64 (j_2 - 1)) (of_eq_true p16) (of_eq_true p17)
                          have hP1 := Kd.Pm HO3.out j_2 (rd l_2 (wrap64 (j_2 - 1)))
                          obtain ⟨hx2, hf2⟩ := Kd.Fx 0 hP1 (wrap64 (j_2 - 1)) (of_eq_true p16) (of_eq_true p17)
                          have HP2 := Aa.mk (Kd.Pm hP1 (wrap64 (j_2 - 1)) (rd l_2 j_2))
                          clear hP1
                          refine Fg (n := 18) (S := fun w' => w'.cell? ⟨go15, j_2.toNat, none⟩ = some (.int .i64 (rd l_2 j_2)) ∧ w'.cell? ⟨go15, (wrap64 (j_2 - 1)).toNat, none⟩ = some (.int .i64 (rd l_2 (wrap64 (j_2 - 1))))) (ds := [15, 17]) #[false,false,false,false,false,false,false,false,false,false,false,false,false,false,false,false,false,false] zk rfl rfl ⟨hx0, hx1⟩ (fun hHeld => ?_)
                          generalize w4.drew = w5 at HO3 HB3 HK3_ HP2 hx0 hf0 hx1 hf1 hx2 hf2 hHeld ⊢
                          refine pU 0 37 ?_
                          refine pU 1 38 ?_
                          refine pU 2 39 ?_
                          refine pU 3 40 ?_
                          refine pU 4 41 ?_
                          refine pU 5 42 ?_
                          refine pU 6 43 ?_
                          refine pU 7 44 ?_
                          refine pU 8 45 ?_
                          refine tU 9 46 hHeld ?_
                          refine pU 10 47 ?_
                          refine pU 11 48 ?_
                          refine pU 12 49 ?_
                          refine tU 13 50 hHeld ?_
                          refine pU 14 51 ?_
                          refine Ms (i := 15) (N := none) #[true,true,true,true,true,true,true,true,true,true,true,true,true,true,true,true,false,false] rfl rfl zk (by decide) (fun K hK => ?_)
                          refine Lo (w1 := ?_) (by rfl) rfl ?_ ?_
                          rotate_left
                          · go_simp
                            rfl
                          refine hK.out _ _ ?_
                          clear hK K
                          refine pU 16 52 ?_
                          refine Ms (i := 17) (N := none) #[true,true,true,true,true,true,true,true,true,true,true,true,true,true,true,true,true,true] rfl rfl zk (by decide) (fun K hK => ?_)
                          refine Lo (w1 := ?_) (by rfl) rfl ?_ ?_
                          rotate_left
                          · go_simp
                            rfl
                          refine hK.out _ _ ?_
                          clear hK K
                          refine Gf zk ?_
                          try go_wp2
                          go_roundg k2
                          case measure => have := HK1.out; have := HK2.out; omega
                          case rel => exact ⟨_, (wrap64 (j_2 - 1)), zF, H', ⟨by have := HK1.out; have := HK2.out; omega⟩, ⟨HQ2.out⟩, HP2, ⟨Gl (Gl HB3.out GB15.out) GB15.out⟩, ⟨Dn.setCell (p := ⟨go15, (wrap64 (j_2 - 1)).toNat, none⟩) (Dn.setCell (p := ⟨go15, j_2.toNat, none⟩) HK3_.out (.inl HPG.out) _) (.inl HPG.out) _⟩⟩
                        · rw [if_neg c19] at H
                          exact absurd H (by simp)
                      · rw [if_neg c18] at H
                        have c18b0 := decide_eq_false c18
                        have H' := Aa.mk H
                        clear H c18
                        try go_wp2
                        refine Fg (n := 17) (S := fun w' => w'.cell? ⟨go15, j_2.toNat, none⟩ = some (.int .i64 (rd l_2 j_2)) ∧ w'.cell? ⟨go15, (wrap64 (j_2 - 1)).toNat, none⟩ = some (.int .i64 (rd l_2 (wrap64 (j_2 - 1))))) (ds := []) #[false,false,false,false,false,false,false,false,false,false,false,false,false,false,false,false,false] zk rfl rfl ⟨hx0, hx1⟩ (fun hHeld => ?_)
                        have HO1 := Aa.mk (Kd.Ep HO.out)
                        have HB1 := Aa.mk (Bz HB.out)
                        have HK1_ := Aa.mk (Dn.drew HK.out)
                        clear HO HB HK hx0 hx1 hf0 hf1
                        generalize wr.drew = w3 at HO1 HB1 HK1_ hHeld ⊢
                        refine pU 0 18 ?_
                        refine pU 1 19 ?_
                        refine pU 2 20 ?_
                        refine pU 3 21 ?_
                        refine pU 4 22 ?_
                        refine pU 5 23 ?_
                        refine pU 6 24 ?_
                        refine pU 7 25 ?_
                        refine tU 8 26 hHeld ?_
                        refine pU 9 27 ?_
                        refine pU 10 28 ?_
                        refine pU 11 29 ?_
                        refine pU 12 30 ?_
                        refine tU 13 31 hHeld ?_
                        refine Fk (i := 14) (N := some 32) #[true,true,true,true,true,true,true,true,true,true,true,true,true,true,true,false,false] rfl rfl zk (by decide) (fun K hK => ?_)
                        refine q2y (g := g) (lb := lb) #[.int .i64 (rd l_2 j_2), .int .i64 (rd l_2 (wrap64 (j_2 - 1)))] (by rfl) rfl rfl (by rfl) (by (try simp only [List.map_toArray, List.map_cons, List.map_nil]); first | done | rfl) eg ?_
                        refine (HP.out _ HK1_.out _ _ (HQ.out _ (Fs c14 c15)) (HQ.out _ (Fs c16 c17))).mono ?_
                        rintro e w4 ⟨rfl, hb⟩
                        have HO2 := Aa.mk (Kd.q0n HO1.out (Dn.of_below hb (fun _ => False)) (fun _ _ h_ => h_))
                        have HB2 := Aa.mk (Ab HB1.out hb)
                        have HK2_ := Aa.mk (Dn.below HK1_.out hb)
                        have hy0 := (hb.cell (World.block_lt_of_cell? _ _ hHeld.1)).trans hHeld.1
                        have hy1 := (hb.cell (World.block_lt_of_cell? _ _ hHeld.2)).trans hHeld.2
                        clear HO1 HB1 HK1_ hb
                        refine ⟨_, rfl, ?_⟩
                        refine hK.out _ _ ⟨hy0, hy1⟩ (fun hHeld => ?_)
                        clear hK K
                        refine nT 32 ?_
                        refine pU 15 33 ?_
                        refine pU 16 34 ?_
                        refine Gf zk ?_
                        try go_wp2
                        go_roundg k2
                        case measure => have := HK1.out; have := HK2.out; omega
                        case rel => exact ⟨l_2, (wrap64 (i_1 + 1)), zF, H', ⟨by have := HK1.out; have := HK2.out; omega⟩, HQ, HO2, HB2, HK2_⟩
                    · rw [if_neg c17] at H
                      exact absurd H (by simp)
                  · rw [if_neg c16] at H
                    exact absurd H (by simp)
                · rw [if_neg c15] at H
                  exact absurd H (by simp)
              · rw [if_neg c14] at H
                exact absurd H (by simp)
            · rw [if_neg c13] at H
              have c13b0 := decide_eq_false c13
              have c13b1 : decide (a < j_2) = false := decide_eq_false (by omega)
              clear c13
              have H' := Aa.mk H
              clear H
              try go_wp2
              refine Fg (n := 17) (S := fun w' => True) (ds := []) #[false,false,false,false,false,false,false,false,false,false,false,false,false,false,false,false,false] zk rfl rfl trivial (fun hHeld => ?_)
              have HO1 := Aa.mk (Kd.Ep HO.out)
              have HB1 := Aa.mk (Bz HB.out)
              have HK1_ := Aa.mk (Dn.drew HK.out)
              clear HO HB HK
              generalize wr.drew = w3 at HO1 HB1 HK1_ hHeld ⊢
              refine pU 0 18 ?_
              refine pU 1 19 ?_
              refine pU 2 20 ?_
              refine pU 3 21 ?_
              refine Fz (i := 4) (N := some 22) (v := undef) (a' := ?_) #[true,true,true,true,true,false,false,false,false,false,false,false,false,false,false,false,false] rfl rfl zk (fun _ _ _ h => h) (Or.inr ⟨by rfl, rfl⟩) ?_ ?_
              rotate_left
              · simp only [Act.put, List.setIfInBounds_toArray, List.set_cons_zero, List.set_cons_succ, Ec, En]
                rfl
              refine Fz (i := 5) (N := some 23) (v := undef) (a' := ?_) #[true,true,true,true,true,true,false,false,false,false,false,false,false,false,false,false,false] rfl rfl zk (fun _ _ _ h => h) (Or.inr ⟨by rfl, rfl⟩) ?_ ?_
              rotate_left
              · simp only [Act.put, List.setIfInBounds_toArray, List.set_cons_zero, List.set_cons_succ, Ec, En]
                rfl
              refine Fz (i := 6) (N := some 24) (v := undef) (a' := ?_) #[true,true,true,true,true,true,true,false,false,false,false,false,false,false,false,false,false] rfl rfl zk (fun _ _ _ h => h) (Or.inr ⟨by rfl, rfl⟩) ?_ ?_
              rotate_left
              · simp only [Act.put, List.setIfInBounds_toArray, List.set_cons_zero, List.set_cons_succ, Ec, En]
                rfl
              refine Fz (i := 7) (N := some 25) (v := undef) (a' := ?_) #[true,true,true,true,true,true,true,true,false,false,false,false,false,false,false,false,false] rfl rfl zk (fun _ _ _ h => h) (Or.inr ⟨by rfl, rfl⟩) ?_ ?_
              rotate_left
              · simp only [Act.put, List.setIfInBounds_toArray, List.set_cons_zero, List.set_cons_succ, Ec, En]
                rfl
              refine Fz (i := 8) (N := some 26) (v := undef) (a' := ?_) #[true,true,true,true,true,true,true,true,true,false,false,false,false,false,false,false,false] rfl rfl zk (fun _ _ _ h => h) (Or.inr ⟨by rfl, rfl⟩) ?_ ?_
              rotate_left
              · simp only [Act.put, List.setIfInBounds_toArray, List.set_cons_zero, List.set_cons_succ, Ec, En]
                rfl
              refine Fz (i := 9) (N := some 27) (v := undef) (a' := ?_) #[true,true,true,true,true,true,true,true,true,true,false,false,false,false,false,false,false] rfl rfl zk (fun _ _ _ h => h) (Or.inr ⟨by rfl, rfl⟩) ?_ ?_
              rotate_left
              · simp only [Act.put, List.setIfInBounds_toArray, List.set_cons_zero, List.set_cons_succ, Ec, En]
                rfl
              refine Fz (i := 10) (N := some 28) (v := undef) (a' := ?_) #[true,true,true,true,true,true,true,true,true,true,true,false,false,false,false,false,false] rfl rfl zk (fun _ _ _ h => h) (Or.inr ⟨by rfl, rfl⟩) ?_ ?_
              rotate_left
              · simp only [Act.put, List.setIfInBounds_toArray, List.set_cons_zero, List.set_cons_succ, Ec, En]
                rfl
              refine Fz (i := 11) (N := some 29) (v := undef) (a' := ?_) #[true,true,true,true,true,true,true,true,true,true,true,true,false,false,false,false,false] rfl rfl zk (fun _ _ _ h => h) (Or.inr ⟨by rfl, rfl⟩) ?_ ?_
              rotate_left
              · simp only [Act.put, List.setIfInBounds_toArray, List.set_cons_zero, List.set_cons_succ, Ec, En]
                rfl
              refine Fz (i := 12) (N := some 30) (v := undef) (a' := ?_) #[true,true,true,true,true,true,true,true,true,true,true,true,true,false,false,false,false] rfl rfl zk (fun _ _ _ h => h) (Or.inr ⟨by rfl, rfl⟩) ?_ ?_
              rotate_left
              · simp only [Act.put, List.setIfInBounds_toArray, List.set_cons_zero, List.set_cons_succ, Ec, En]
                rfl
              refine Fz (i := 13) (N := some 31) (v := undef) (a' := ?_) #[true,true,true,true,true,true,true,true,true,true,true,true,true,true,false,false,false] rfl rfl zk (fun _ _ _ h => h) (Or.inr ⟨by rfl, rfl⟩) ?_ ?_
              rotate_left
              · simp only [Act.put, List.setIfInBounds_toArray, List.set_cons_zero, List.set_cons_succ, Ec, En]
                rfl
              refine Fk (i := 14) (N := some 32) #[true,true,true,true,true,true,true,true,true,true,true,true,true,true,true,false,false] rfl rfl zk (by decide) (fun K hK => ?_)
              rw [if_neg (by simp [Region.wanted, yielded])]
              refine hK.out _ _ trivial (fun hHeld => ?_)
              clear hK K
              refine Re (a' := ?_) ?_ ?_
              rotate_left
              · simp only [Act.put, List.setIfInBounds_toArray, List.set_cons_zero, List.set_cons_succ, Ec, En]
                rfl
              refine Fz (i := 15) (N := some 33) (v := undef) (a' := ?_) #[true,true,true,true,true,true,true,true,true,true,true,true,true,true,true,true,false] rfl rfl zk (fun _ _ _ h => h) (Or.inr ⟨by rfl, rfl⟩) ?_ ?_
              rotate_left
              · simp only [Act.put, List.setIfInBounds_toArray, List.set_cons_zero, List.set_cons_succ, Ec, En]
                rfl
              refine pU 16 34 ?_
              refine Gf zk ?_
              try go_wp2
              go_roundg k2
              case measure => have := HK1.out; have := HK2.out; omega
              case rel => exact ⟨l_2, (wrap64 (i_1 + 1)), zF, H', ⟨by have := HK1.out; have := HK2.out; omega⟩, HQ, HO1, HB1, HK1_⟩
      · rw [if_neg c12] at H
        have c12b0 := decide_eq_false c12
        clear c12
        obtain rfl := Option.some.inj H
        clear H
        go_wp2
        go_end0
        exact ⟨rfl, HO.out, HB.out, HK.out⟩
theorem q0C (k g : Nat) (lb : Array Value) (eg : ∀ args w, (callFunc g args).run Tryz.prog w = .ok (.enter g args) w) (cmp : Int → Int → Int) (Q_ : Int → Prop) (P0_ : Nat → Prop) (u : Value) (l : List Int) (n : Int) (hn : n < 20) (r : List Int) (w0 w : World) (hB : Below w0.heap.size w0 w) (ho0 : Kd.R (Kd.int .i64) 2 w w0.heap.size P0_ u l) (hq : ∀ x ∈ l, Q_ x)
    (hp : ∀ W : World, Dn w W P0_ → ∀ x y : Int, Q_ x → Q_ y → Calls Tryz.prog g (#[.int .i64 x, .int .i64 y] ++ lb) W fun e w' => e = .returned (.int .i64 (cmp x y)) ∧ Below W.heap.size W w') (h : insF.l0 cmp k l 0 n (wrap64 (0 + 1)) = some r) :
    Calls Tryz.prog 90 #[u, .int .i64 n, .func (.func g) #[] lb] w fun e w' => e = .returned (.tuple #[]) ∧ Kd.R (Kd.int .i64) 2 w' w0.heap.size P0_ u r ∧ Below w0.heap.size w0 w' ∧ Dn w w' P0_ := by
  have HC := Aa.mk (Vv k g lb eg cmp Q_ P0_ u l 0 n r w0 w hB ho0 hq hp h)
  have d1 : decide ((20 : Int) ≤ n) = false := decide_eq_false (by omega)
  have d2 : decide ((20 : Int) < n) = false := decide_eq_false (by omega)
  clear hB ho0 hq hp h hn eg
  go_enter Tryz.func90, Tryz.ntmps90
  go_wp2
  go_loopg [7, 8] 1 (fun kq v7 v8 w' => v7 = .int .i64 0 ∧ v8 = .int .i64 20 ∧ w' = w)
  case atStart => exact ⟨rfl, rfl, rfl⟩
  case round =>
    obtain ⟨rfl, rfl, rfl⟩ := hrel
    go_wp2_with (go_at_call 103; refine HC.out.mono ?_; rintro e w4 ⟨rfl, hR, hb, hk⟩; have HR := Aa.mk hR; have HB := Aa.mk hb; have HK := Aa.mk hk; clear hR hb hk)
    go_loopg [6, 7, 8, 9] 1 (fun kq v6 v7 v8 v9 w' => v6 = .int .i64 20 ∧ w' = w4)
    case atStart => exact ⟨rfl, rfl⟩
    case round =>
      obtain ⟨rfl, rfl⟩ := hrel
      go_wp2
      go_end0
      exact ⟨rfl, HR.out, HB.out, HK.out⟩
theorem Ug (k g : Nat) (lb : Array Value) (eg : ∀ args w, (callFunc g args).run Tryz.prog w = .ok (.enter g args) w) (cmp : Int → Int → Int) (Q_ : Int → Prop) (P0_ : Nat → Prop) (A : Option Addr) (c : Nat) (l : List Int) (hn : (l.length : Int) < 20) (r : List Int) (w0 w : World) (hB : Below w0.heap.size w0 w) (ho0 : Kd.R (Kd.int .i64) 2 w w0.heap.size P0_ (.slice A l.length c) l) (hq : ∀ x ∈ l, Q_ x)
    (hp : ∀ W : World, Dn w W P0_ → ∀ x y : Int, Q_ x → Q_ y → Calls Tryz.prog g (#[.int .i64 x, .int .i64 y] ++ lb) W fun e w' => e = .returned (.int .i64 (cmp x y)) ∧ Below W.heap.size W w') (h : insF.l0 cmp k l 0 (l.length : Int) (wrap64 (0 + 1)) = some r) :
    Calls Tryz.prog 81 #[.slice A l.length c, .func (.func g) #[] lb] w fun e w' => e = .returned (.tuple #[]) ∧ Kd.R (Kd.int .i64) 2 w' w0.heap.size P0_ (.slice A l.length c) r ∧ Below w0.heap.size w0 w' ∧ Dn w w' P0_ := by
  have HC := Aa.mk (q0C k g lb eg cmp Q_ P0_ _ l _ hn r w0 w hB ho0 hq hp h)
  clear hB ho0 hq hp h hn eg
  generalize l.length = n at HC ⊢
  go_enter Tryz.func81, Tryz.ntmps81
  go_wp2_with (go_at_call 90; refine HC.out.mono ?_; rintro e w4 ⟨rfl, hR, hb, hk⟩; have HR := Aa.mk hR; have HB := Aa.mk hb; have HK := Aa.mk hk; clear hR hb hk)
  go_end0
  exact ⟨rfl, HR.out, HB.out, HK.out⟩
def Lx (G : List Int) (x y : Int) : Int := wrap64 (rd G x - rd G y)
set_option maxHeartbeats 4000000 in
theorem q0F (x y : Int) (G : List Int) (A0 : Option Addr) (c0 : Nat) (B : Nat) (W : World) (hr0 : Kd.C (Kd.int .i64) W A0 G.length G) (hx : 0 ≤ x ∧ x < (G.length : Int)) (hy : 0 ≤ y ∧ y < (G.length : Int)) (hc : W.cell? ⟨B, 0, none⟩ = some (.slice A0 G.length c0)) :
    Calls Tryz.prog 82 (#[.int .i64 x, .int .i64 y] ++ #[.pointer (some ⟨B, 0, none⟩)]) W fun e w' => e = .returned (.int .i64 (Lx G x y)) ∧ Below W.heap.size W w' := by
  obtain ⟨ad, e1, hx0⟩ := Kd.Cv hr0 x hx.1 hx.2
  cases e1
  obtain ⟨ad1, e1, hy0⟩ := Kd.Cv hr0 y hy.1 hy.2
  obtain rfl : ad = ad1 := Option.some.inj e1
  show Calls Tryz.prog 82 #[.int .i64 x, .int .i64 y, .pointer (some ⟨B, 0, none⟩)] W _
  unfold Lx
  have p0 := eq_true hx.1
  have p1 := eq_true hx.2
  have p2 := eq_true hy.1
  have p3 := eq_true hy.2
  have hu46 := Tryz.underlying26
  clear hr0 hx hy e1
  generalize rd G x = gx at hx0 ⊢
  generalize rd G y = gy at hy0 ⊢
  go_enter Tryz.func82, Tryz.ntmps82
  try go_wp2
  refine Fg (n := 12) (S := fun w' => w'.cell? ⟨B, 0, none⟩ = some (.slice (some ad) G.length c0) ∧ w'.cell? (ad.add x.toNat) = some (.int .i64 gx) ∧ w'.cell? (ad.add y.toNat) = some (.int .i64 gy)) (ds := []) #[false,false,false,false,false,false,false,false,false,false,false,false] zk rfl rfl ⟨hc, hx0, hy0⟩ (fun hHeld => ?_)
  have HB := Aa.mk (Bz (Below.refl W.heap.size W))
  generalize W.drew = w1 at HB hHeld ⊢
  refine pU 0 6 ?_
  refine tU 1 7 hHeld ?_
  refine pU 2 8 ?_
  refine pU 3 9 ?_
  refine tU 4 10 hHeld ?_
  refine pU 5 11 ?_
  refine tU 6 12 hHeld ?_
  refine pU 7 13 ?_
  refine pU 8 14 ?_
  refine tU 9 15 hHeld ?_
  refine pU 10 16 ?_
  refine pU 11 5 ?_
  refine Gf zk ?_
  try go_wp2
  go_ret
  exact ⟨rfl, HB.out⟩
def Cc.l0 : Nat → List Int → Int → List Int → Int → Option (List Int)
 | 0, _, _, _, _ => none
 | k + 1, G, all, out, i => if i < all then (if out.length < 17592186044416 then (Cc.l0 k G all (out ++ [i]) (wrap64 (i + 1))) else (none)) else (if ((out.length : Int) < 20 ∧ ∀ x ∈ out, 0 ≤ x ∧ x < (G.length : Int)) then (insF.l0 (Lx G) k out 0 (out.length : Int) (wrap64 (0 + 1))) else (none))
def Cc.f (k : Nat) (l0_0 : List Int) : Option (List Int) := (Eb.f l0_0).bind fun t => (Cc.l0 k l0_0 t [] 0)
theorem Cc.mono_l : ∀ k, ∀ y0 y1 y2 y3, LeO (Cc.l0 k y0 y1 y2 y3) (Cc.l0 (k + 1) y0 y1 y2 y3)
 | 0 => fun _ _ _ _ r h => by simp [Cc.l0] at h
 | k + 1 => by
  have ih0 := Cc.mono_l k
  intro y0 y1 y2 y3
  obtain ⟨is0, _⟩ := insF.mono_l (Lx y0) k
  unfold Cc.l0
  repeat' first | (with_reducible first | exact ih0 _ _ _ _ | exact is0 _ _ _ _ | exact LeO.refl _ | exact LeO.none _ | refine LeO.ite ?_ ?_)
theorem Cc.mono : ∀ a0 k, LeO (Cc.f k a0) (Cc.f (k + 1) a0) := by
 intro a0 k
 unfold Cc.f
 exact LeO.bind (LeO.refl _) (fun _ => Cc.mono_l k _ _ _ _)
theorem q3D : (Tryz.prog.info? 2).map (fun i => (i.zero, i.size, i.bytes)) = some (some (.int .i64 0), 1, 8) := by kernel_rfl
theorem Cc.calls (k : Nat) (A0_0 : Option Addr) (c0_0 : Nat) (l0_0 : List Int) (r : List Int) (w : World) (hr0_0 : Kd.C (Kd.int .i64) w A0_0 l0_0.length l0_0) (hc0_0 : l0_0.length ≤ c0_0) (h : Cc.f k l0_0 = some r) :
    Calls Tryz.prog 69 #[.agg #[.slice A0_0 l0_0.length c0_0]] w fun e w' => ∃ v0_ : Value, e = .returned (v0_) ∧ Kd.R (Kd.int .i64) 2 w' w.heap.size (fun _ => True) v0_ r ∧ Below w.heap.size w w' := by
  obtain ⟨t, e1, h⟩ := Option.bind_eq_some_iff.mp h
  have hu46 := Tryz.underlying26
  have eg : ∀ args w, (callFunc 82 args).run Tryz.prog w = .ok (.enter 82 args) w := enters_of Tryz.func82 zk rfl
  have HR0 := Aa.mk hr0_0
  have HC0 := Aa.mk hc0_0
  have E1 := Aa.mk e1
  have EG := Aa.mk eg
  have H' := Aa.mk h
  have HBW := Aa.mk (Dz (Below.refl w.heap.size w) (.cells #[.slice A0_0 l0_0.length c0_0] 26))
  have HSZ := Aa.mk (show (w.alloc (.cells #[.slice A0_0 l0_0.length c0_0] 26)).heap.size = w.heap.size + 1 by simp)
  have HX := Aa.mk (Ny w (.cells #[.slice A0_0 l0_0.length c0_0] 26))
  have HB := Aa.mk (Below.refl (w.alloc (.cells #[.slice A0_0 l0_0.length c0_0] 26)).heap.size (w.alloc (.cells #[.slice A0_0 l0_0.length c0_0] 26)))
  have hq := Au HX.out 0
  (try simp only [List.getElem?_toArray, List.getElem?_cons_zero] at hq)
  clear hr0_0 hc0_0 e1 h eg
  go_enter Tryz.func69, Tryz.ntmps69
  go_wp2_with (go_at_call 60; go_loud (refine (Eb.calls A0_0 c0_0 l0_0 t _ (Kd.Bh HR0.out HBW.out) HC0.out E1.out).mono ?_; rintro e w2 ⟨rfl, hb⟩; have hb2 : Below (w.alloc (.cells #[.slice A0_0 l0_0.length c0_0] 26)).heap.size (w.alloc (.cells #[.slice A0_0 l0_0.length c0_0] 26)) w2 := (by first | exact hb | (obtain ⟨n0, rfl⟩ := hb; exact Ef (Below.refl _ _) _)); have n_ := y2 (Cy HX.out hb2) hb2; clear HX HB hb hb2 hq; obtain ⟨HX, HB⟩ := n_))
  go_loopg [3, 7] k (fun kq v3 v7 w' => ∃ (out_1 : List Int) (i_1 : Int), v7 = .int .i64 i_1 ∧ Aa (Cc.l0 kq l0_0 t out_1 i_1 = some r) ∧ Aa (kq ≤ k) ∧ Aa (Kd.R (Kd.int .i64) 2 w' (w.alloc (.cells #[.slice A0_0 l0_0.length c0_0] 26)).heap.size (fun _ => True) v3 out_1) ∧ Aa (w'.heap[w.heap.size]? = some (.cells #[.slice A0_0 l0_0.length c0_0] 26 (0, 0))) ∧ Aa (Below (w.alloc (.cells #[.slice A0_0 l0_0.length c0_0] 26)).heap.size (w.alloc (.cells #[.slice A0_0 l0_0.length c0_0] 26)) w'))
  case atStart => exact ⟨[], 0, rfl, H', ⟨Nat.le_refl _⟩, ⟨Kd.Pa _ _ _ _ _⟩, HX, HB⟩
  case round =>
    clear H' HX HB
    obtain ⟨out_1, i_1, rfl, HA, HK1, HO, HX, HB⟩ := hrel
    cases gk with
    | zero => exact absurd HA.out (by simp [Cc.l0])
    | succ k1 =>
      have H := HA.out
      clear HA
      simp only [Cc.l0] at H
      by_cases c12 : i_1 < t
      · rw [if_pos c12] at H
        have c12b0 := decide_eq_true c12
        by_cases c13 : out_1.length < 17592186044416
        · rw [if_pos c13] at H
          have LM := Aa.mk c13
          have H' := Aa.mk H
          clear H c12 c13
          go_wp2_with (((with_reducible refine Dp (b := .append) (xs := #[.tmp 10, .tmp 12]) rfl ?_); at_builtin; go_loud (refine Kd.Gk (Kd.int .i64) (w0 := (w.alloc (.cells #[.slice A0_0 l0_0.length c0_0] 26))) (w.alloc (.cells #[.slice A0_0 l0_0.length c0_0] 26)).heap.size rfl (.tmp 10) (.tmp 12) 24 2 (.int .i64 0) 8 rfl Tryz.underlying24 q3D rfl (by decide) (by omega) u3 out_1 i_1 [.int .i64 i_1] (fun _ => True) (fun _ => False) rfl rfl ?aP (fun _ hk => hk.elim) ?aF ?aO ?aB ?aS ?aL ?_; (case aP => exact rfl); (case aB => exact (zB)); (case aF => exact (fun _ _ => trivial)); (case aO => exact (zR HO.out)); (case aS => exact (An (zB))); (case aL => have := LM.out; omega); intro v113 w25 ho hb hg hat; have n_ := y3 hb ho (show w25.heap[w.heap.size]? = some (.cells #[.slice A0_0 l0_0.length c0_0] 26 (0, 0)) from (hg.block _ (by first | exact My HX.out | exact My (Ak HX.out _)) (fun he => by first | exact (Kd.Em HO.out HX.out (by decide)) he | exact (Kd.Em (Kd.q0I HO.out _) (Ak HX.out _) (by decide)) he)).trans (by first | exact HX.out | exact Ak HX.out _)); clear HB HX HO ho hb hg hat; obtain ⟨HB, HO, HX⟩ := n_)))
          go_roundg k1
          case measure => have := HK1.out; omega
          case rel => exact ⟨_, (wrap64 (i_1 + 1)), zF, H', ⟨by have := HK1.out; omega⟩, HO, HX, HB⟩
        · rw [if_neg c13] at H
          exact absurd H (by simp)
      · rw [if_neg c12] at H
        have c12b0 := decide_eq_false c12
        by_cases c14 : ((out_1.length : Int) < 20 ∧ ∀ x ∈ out_1, 0 ≤ x ∧ x < (l0_0.length : Int))
        · rw [if_pos c14] at H
          obtain ⟨Ao, co, eo⟩ := Kd.Bb HO.out
          subst eo
          have hbt := Ab HBW.out HB.out
          have HS := Aa.mk (Ug k1 82 #[.pointer (some ⟨w.heap.size, 0, none⟩)] EG.out (Lx l0_0) (fun x => 0 ≤ x ∧ x < (l0_0.length : Int)) (fun k_ => (w.alloc (.cells #[.slice A0_0 l0_0.length c0_0] 26)).heap.size ≤ k_) Ao co out_1 c14.1 r (w.alloc (.cells #[.slice A0_0 l0_0.length c0_0] 26)) wr HB.out (Kd.Ai (Kd.Lj HO.out) (fun k_ hk => hk.2.1)) c14.2
            (fun W' hk x y hx hy => q0F x y l0_0 A0_0 c0_0 w.heap.size W' (Kd.Zs (S := fun k_ => (w.alloc (.cells #[.slice A0_0 l0_0.length c0_0] 26)).heap.size ≤ k_) (Kd.q1X .i64) HR0.out hbt (fun k_ h_ => by have := HSZ.out; omega) W' hk) hx hy (by have h2 := Au (Eu HX.out hk (by have := HSZ.out; show ¬ (w.alloc (.cells #[.slice A0_0 l0_0.length c0_0] 26)).heap.size ≤ w.heap.size; omega)) 0; simpa using h2)) H)
          clear H c12 c14 hbt
          go_wp2_with (go_at_call 81; go_loud (refine HS.out.mono ?_; rintro e w4 ⟨rfl, hR, hb, hk⟩; have HR := Aa.mk hR; have HB4 := Aa.mk (Ab HBW.out hb); clear hR hb hk))
          go_ret
          exact ⟨_, rfl, Kd.Ai (Kd.Bk HR.out HBW.out.size) (fun _ _ => trivial), HB4.out⟩
        · rw [if_neg c14] at H
          exact absurd H (by simp)
def Dg.f (l0_0 : List Int) (a1 : Bool) : Option (Int) := (Fj.f l0_0).bind fun t102 => (if t102 = true then (if a1 = true then (some 0) else (some 2)) else (some 1))
theorem Dg.calls (A0_0 : Option Addr) (c0_0 : Nat) (l0_0 : List Int) (a1 : Bool) (r : Int) (w : World) (hr0_0 : Kd.C (Kd.int .i64) w A0_0 l0_0.length l0_0) (hc0_0 : l0_0.length ≤ c0_0) (h : Dg.f l0_0 a1 = some r) :
    Calls Tryz.prog 31 #[.agg #[.slice A0_0 l0_0.length c0_0], .bool a1] w fun e w' => e = .returned (.int .i64 r) ∧ Below w.heap.size w w' := by
 have hu26 := Tryz.underlying26
 have HR0_0 := Aa.mk hr0_0
 have HC0_0 := Aa.mk hc0_0
 clear hr0_0 hc0_0
 have HB := Aa.mk (Below.refl w.heap.size w)
 have H := h
 clear h
 unfold Dg.f at H
 obtain ⟨t102, A3, H⟩ := zO H
 try dsimp only at H
 by_cases c4 : t102 = true
 case neg =>
  replace c4 := Bool.eq_false_iff.mpr c4
  subst c4
  rw [if_neg zf] at H
  obtain rfl := Option.some.inj H
  go_enter Tryz.func31, Tryz.ntmps31
  go_wp2_with (first | ((with_reducible refine Ay (N := 2) rfl ?_); refine Be zr (N := 2) zr (cs := #[.slice A0_0 l0_0.length c0_0]) (t := 26) zg ?_; intro gb101 hg w12 hbox hb; have n_ := y4 (Ab (zB) hb) (hbox) ((zS hg : w.heap.size ≤ gb101)) ((zS hg : w.heap.size ≤ gb101)); clear HB; obtain ⟨HB, BK101, GW101, GE101⟩ := n_; clear hb hbox hg; obtain ⟨hcz13_0, hfz13_0⟩ := zw BK101.out) | (refine gK 57 ?_; refine gL 7 Tryz.func57 #[.agg #[.slice A0_0 l0_0.length c0_0]] ?_; (with_reducible refine (Fj.calls _ _ l0_0 false _ ?side1 HC0_0.out A3.out).mono ?_); (case side1 => exact zC (Kd.Bh HR0_0.out HB.out)); rintro e w14 ⟨rfl, hb⟩; refine ⟨_, rfl, ?_⟩; have n_ := y2 (zb BK101.out hb) (Ab (zB) hb); clear BK101 HB; obtain ⟨BK101, HB⟩ := n_; (try clear hb)))
  go_ret
  exact ⟨zE, zB⟩
 subst c4
 rw [if_pos rfl] at H
 by_cases c5 : a1 = true
 ·
  subst c5
  rw [if_pos rfl] at H
  obtain rfl := Option.some.inj H
  go_enter Tryz.func31, Tryz.ntmps31
  go_wp2_with (first | ((with_reducible refine Ay (N := 2) rfl ?_); refine Be zr (N := 2) zr (cs := #[.slice A0_0 l0_0.length c0_0]) (t := 26) zg ?_; intro gb101 hg w6 hbox hb; have n_ := y4 (Ab (zB) hb) (hbox) ((zS hg : w.heap.size ≤ gb101)) ((zS hg : w.heap.size ≤ gb101)); clear HB; obtain ⟨HB, BK101, GW101, GE101⟩ := n_; clear hb hbox hg; obtain ⟨hcz7_0, hfz7_0⟩ := zw BK101.out) | (refine gK 57 ?_; refine gL 7 Tryz.func57 #[.agg #[.slice A0_0 l0_0.length c0_0]] ?_; (with_reducible refine (Fj.calls _ _ l0_0 true _ ?side1 HC0_0.out A3.out).mono ?_); (case side1 => exact zC (Kd.Bh HR0_0.out HB.out)); rintro e w8 ⟨rfl, hb⟩; refine ⟨_, rfl, ?_⟩; have n_ := y2 (zb BK101.out hb) (Ab (zB) hb); clear BK101 HB; obtain ⟨BK101, HB⟩ := n_; (try clear hb)))
  go_ret
  exact ⟨zE, zB⟩
 replace c5 := Bool.eq_false_iff.mpr c5
 subst c5
 rw [if_neg zf] at H
 obtain rfl := Option.some.inj H
 go_enter Tryz.func31, Tryz.ntmps31
 go_wp2_with (first | ((with_reducible refine Ay (N := 2) rfl ?_); refine Be zr (N := 2) zr (cs := #[.slice A0_0 l0_0.length c0_0]) (t := 26) zg ?_; intro gb101 hg w9 hbox hb; have n_ := y4 (Ab (zB) hb) (hbox) ((zS hg : w.heap.size ≤ gb101)) ((zS hg : w.heap.size ≤ gb101)); clear HB; obtain ⟨HB, BK101, GW101, GE101⟩ := n_; clear hb hbox hg; obtain ⟨hcz10_0, hfz10_0⟩ := zw BK101.out) | (refine gK 57 ?_; refine gL 7 Tryz.func57 #[.agg #[.slice A0_0 l0_0.length c0_0]] ?_; (with_reducible refine (Fj.calls _ _ l0_0 true _ ?side1 HC0_0.out A3.out).mono ?_); (case side1 => exact zC (Kd.Bh HR0_0.out HB.out)); rintro e w11 ⟨rfl, hb⟩; refine ⟨_, rfl, ?_⟩; have n_ := y2 (zb BK101.out hb) (Ab (zB) hb); clear BK101 HB; obtain ⟨BK101, HB⟩ := n_; (try clear hb)))
 go_ret
 exact ⟨zE, zB⟩
def Et.f (k : Nat) (l0_0 : List Int) : Option (List Int × List Int × Int) := (Dg.f l0_0 true).bind fun t => (if t = 0 then (if l0_0.length ≤ 12 then ((Ac.f k l0_0 0 (l0_0.length : Int)).bind fun s => ((Cc.f k l0_0).bind fun o => (some (s, o, 0)))) else (none)) else (some (([] : List Int), ([] : List Int), t)))
theorem Et.mono : ∀ a0 k, LeO (Et.f k a0) (Et.f (k + 1) a0) := by
 intro a0 k
 unfold Et.f
 repeat' first | (with_reducible first | exact Ac.mono _ _ _ _ | exact Cc.mono _ _ | exact LeO.refl _ | exact LeO.none _ | refine LeO.ite ?_ ?_ | refine LeO.bind ?_ (fun _ => ?_))
theorem Et.calls (k : Nat) (A0_0 : Option Addr) (c0_0 : Nat) (l0_0 : List Int) (r1 : List Int) (r2 : List Int) (r3 : Int) (w : World) (hr0_0 : Kd.C (Kd.int .i64) w A0_0 l0_0.length l0_0) (hc0_0 : l0_0.length ≤ c0_0) (h : Et.f k l0_0 = some (r1, r2, r3)) :
    Calls Tryz.prog 24 #[.agg #[.slice A0_0 l0_0.length c0_0]] w fun e w' => ∃ v0_ v1_ : Value, e = .returned (.tuple #[.agg #[v0_], v1_, .int .i64 r3]) ∧ Kd.R (Kd.int .i64) 2 w' w.heap.size (fun k_ => some k_ ≠ (v1_ : Value).ownBlock) v0_ r1 ∧ Kd.R (Kd.int .i64) 2 w' w.heap.size (fun k_ => some k_ ≠ (v0_ : Value).ownBlock) v1_ r2 ∧ Below w.heap.size w w' := by
  have hu34 := Tryz.underlying26
  have HR0 := Aa.mk hr0_0
  have HC0 := Aa.mk hc0_0
  obtain ⟨t, e0, h⟩ := Option.bind_eq_some_iff.mp h
  have E0 := Aa.mk e0
  have H := Aa.mk h
  have HB := Aa.mk (Below.refl w.heap.size w)
  clear hr0_0 hc0_0 h e0
  by_cases c0 : t = 0
  · subst c0
    have h1 := H.out
    rw [if_pos rfl] at h1
    clear H
    by_cases c6 : l0_0.length ≤ 12
    · rw [if_pos c6] at h1
      obtain ⟨s, e2, h2⟩ := Option.bind_eq_some_iff.mp h1
      obtain ⟨o, e3, h3⟩ := Option.bind_eq_some_iff.mp h2
      simp only [Option.some.injEq, Prod.mk.injEq] at h3
      obtain ⟨rfl, rfl, rfl⟩ := h3
      have L0 := Aa.mk c6
      have S0 := Aa.mk e2
      have S1 := Aa.mk e3
      clear h1 h2 e2 e3 c6
      go_enter Tryz.func24, Tryz.ntmps24
      go_wp2_with (first | ((with_reducible refine Ay (N := 1) rfl ?_); refine Be zr (N := 1) zr (cs := #[.slice A0_0 l0_0.length c0_0]) (t := 26) zg ?_; intro gb1 hg w1 hbox hb; have n0_ := Aa.mk (Ab HB.out hb); have GE1 := Aa.mk ((by rw [hg]; exact (An HB.out) : w.heap.size ≤ gb1)); have BK1 := Aa.mk hbox; clear HB; have HB := n0_; clear n0_; clear hb hbox hg) | ((with_reducible refine Ay (N := 2) rfl ?_); refine Be zr (N := 2) zr (cs := #[.slice none 0 0]) (t := 26) zg ?_; intro gb2 hg w2 hbox hb; have n0_ := Aa.mk (Ab HB.out hb); have GE2 := Aa.mk ((by rw [hg]; exact (An HB.out) : w.heap.size ≤ gb2)); have BK2 := Aa.mk hbox; have NB12 := Aa.mk ((by rw [hg]; exact Nat.ne_of_lt (My BK1.out) : gb1 ≠ gb2)); have n5_ := Aa.mk (Cy BK1.out hb); clear BK1; have BK1 := n5_; clear n5_; obtain ⟨hcz0, hfz0⟩ := zw BK1.out; clear HB; have HB := n0_; clear n0_; clear hb hbox hg) | (go_at_call 31; (with_reducible refine (Dg.calls A0_0 c0_0 l0_0 true 0 _ ?side1 HC0.out E0.out).mono ?_); (case side1 => exact Kd.Bh HR0.out HB.out); rintro e w3 ⟨rfl, hb⟩; have n_ := y3 (Ab HB.out hb) (Cy BK1.out hb) (Cy BK2.out hb); clear HB BK1 BK2; obtain ⟨HB, BK1, BK2⟩ := n_; clear hb; skip))
      try go_wp2
      have hq0 := (Au BK1.out 0).trans rfl
      (try simp only [List.getElem?_toArray, List.getElem?_cons_zero] at hq0)
      refine Fg (n := 10) (S := fun w' => w'.cell? ⟨gb1, 0, none⟩ = some (.slice A0_0 l0_0.length c0_0)) (ds := [7]) #[false,false,false,false,false,false,false,false,false,false] zk rfl rfl ?_ (fun hHeld => ?_)
      · exact hq0
      have n_ := y2 (Bz HB.out) (Ag BK2.out)
      clear HB BK2 hq0
      obtain ⟨HB, BK2⟩ := n_
      generalize w3.drew = wd at HB BK2 hHeld ⊢
      refine pU 0 12 ?_
      refine tU 1 13 hHeld ?_
      refine tU 5 17 hHeld ?_
      refine Fk (i := 2) (N := some 14) #[true,true,true,false,false,true,false,false,false,false] rfl rfl zk (by decide) (fun K hK => ?_)
      refine Ff Tryz.func62 zk rfl #[.slice A0_0 l0_0.length c0_0] (by rfl) rfl rfl (by (try simp only [List.map_toArray, List.map_cons, List.map_nil]); first | done | rfl) ?_
      refine (Rt A0_0 l0_0.length c0_0 _).mono ?_
      rintro e w4 ⟨rfl, rfl⟩
      have hb := Dz (Below.refl wd.heap.size wd) (.cells #[.slice A0_0 l0_0.length c0_0] 24)
      have hBn : wd.heap.size < (wd.alloc (.cells #[.slice A0_0 l0_0.length c0_0] 24)).heap.size := by simp
      have hcn := Au (Ny wd (.cells #[.slice A0_0 l0_0.length c0_0] 24)) 0
      (try simp only [List.getElem?_toArray, List.getElem?_cons_zero] at hcn)
      have hy0 := (hb.cell (World.block_lt_of_cell? _ _ hHeld)).trans hHeld
      clear hHeld
      have n1_ := Aa.mk (Cy BK2.out hb)
      have n0_ := Aa.mk (Ab HB.out hb)
      clear HB BK2
      have HB := n0_
      have BK2 := n1_
      clear n0_ n1_
      clear hb
      refine ⟨_, rfl, ?_⟩
      refine hK.out _ _ hy0 (fun hHeld => ?_)
      clear hK K
      refine nT 14 ?_
      have HV := Aa.mk (Rj k wd.heap.size A0_0 c0_0 l0_0 L0.out _ hBn hcn (Kd.Bh HR0.out HB.out) s S0.out)
      clear hcn hBn
      generalize wd.alloc (.cells #[.slice A0_0 l0_0.length c0_0] 24) = we at HB BK2 hHeld HV ⊢
      generalize wd.heap.size = Bv at HV ⊢
      (try clear wd)
      refine Fk (i := 3) (N := some 15) #[true,true,true,true,false,true,false,false,false,false] rfl rfl zk (by decide) (fun K hK => ?_)
      refine Ff Tryz.func61 zk rfl #[.func (.func 80) #[] #[.pointer (some ⟨Bv, 0, none⟩)]] (by rfl) rfl rfl (by (try simp only [List.map_toArray, List.map_cons, List.map_nil]); first | done | rfl) ?_
      refine (HV.out).mono ?_
      rintro e w4 ⟨v0, rfl, hR, hb⟩
      obtain ⟨A1, c1, rfl⟩ := Kd.Bb hR
      have HS0 := Aa.mk (Kd.Bk hR HB.out.size)
      clear hR HV
      have hy0 := (hb.cell (World.block_lt_of_cell? _ _ hHeld)).trans hHeld
      clear hHeld
      have n1_ := Aa.mk (Cy BK2.out hb)
      have n0_ := Aa.mk (Ab HB.out hb)
      clear HB BK2
      have HB := n0_
      have BK2 := n1_
      clear n0_ n1_
      clear hb
      refine ⟨_, rfl, ?_⟩
      refine hK.out _ _ hy0 (fun hHeld => ?_)
      clear hK K
      refine nT 15 ?_
      (try clear we)
      generalize w4 = wd at HB BK2 hHeld HS0 ⊢
      refine pU 4 16 ?_
      refine Fk (i := 6) (N := some 18) #[true,true,true,true,true,true,true,false,false,false] rfl rfl zk (by decide) (fun K hK => ?_)
      refine Ff Tryz.func69 zk rfl #[.agg #[.slice A0_0 l0_0.length c0_0]] (by rfl) rfl rfl (by (try simp only [List.map_toArray, List.map_cons, List.map_nil]); first | done | rfl) ?_
      refine (Cc.calls k A0_0 c0_0 l0_0 o _ (Kd.Bh HR0.out HB.out) HC0.out S1.out).mono ?_
      rintro e w4 ⟨v1, rfl, hR, hb⟩
      obtain ⟨in_, ho_⟩ := Kd.Wl HS0.out
      have HS1 := Aa.mk (Kd.Bk (Kd.q3C hR ho_) HB.out.size)
      have n2_ := Aa.mk (Kd.q2I HS0.out hR hb)
      clear hR ho_ HS0
      have HS0 := n2_
      clear n2_
      have hy0 := (hb.cell (World.block_lt_of_cell? _ _ hHeld)).trans hHeld
      clear hHeld
      have n1_ := Aa.mk (Cy BK2.out hb)
      have n0_ := Aa.mk (Ab HB.out hb)
      clear HB BK2
      have HB := n0_
      have BK2 := n1_
      clear n0_ n1_
      clear hb
      refine ⟨_, rfl, ?_⟩
      refine hK.out _ _ hy0 (fun hHeld => ?_)
      clear hK K
      refine nT 18 ?_
      (try clear wd)
      generalize w4 = wd at HB BK2 hHeld HS0 HS1 ⊢
      obtain ⟨A2, c2, rfl⟩ := Kd.Bb HS1.out
      have hf2 := Fl BK2.out 0
      have hz2 : wd.cell? ⟨gb2, 0, none⟩ = some (.slice none 0 0) := (Au BK2.out 0).trans rfl
      refine Ms (i := 7) (N := none) #[true,true,true,true,true,true,true,true,false,false] rfl rfl zk (by decide) (fun K hK => ?_)
      refine Lo (w1 := ?_) (by rfl) rfl ?_ ?_
      rotate_left
      · go_simp
        rfl
      refine hK.out _ _ ?_
      clear hK K
      refine pU 8 3 ?_
      refine pU 9 4 ?_
      refine Gf zk ?_
      try go_wp2
      have BK3 := Aa.mk (Cl BK2.out 0 (.slice A1 s.length c1) rfl)
      refine bodyPost_ret (Mn rfl _ _ gb2 26 #[.slice A1 s.length c1] (0, 0) _ rfl (by exact BK3.out) Tryz.underlying26 rfl zk) rfl ?_
      exact ⟨_, _, rfl, Kd.Ai (Kd.q3i HS0.out BK2.out (by decide) 0 _) (fun _ hk => hk.2), Kd.Ai (Kd.q3i HS1.out BK2.out (by decide) 0 _) (fun _ hk => hk.2), Gl HB.out GE2.out⟩
    · rw [if_neg c6] at h1
      exact absurd h1 (by simp)
  · have h1 := H.out
    rw [if_neg c0] at h1
    simp only [Option.some.injEq, Prod.mk.injEq] at h1
    obtain ⟨rfl, rfl, rfl⟩ := h1
    have c0b0 : (t == 0) = false := beq_eq_false_iff_ne.mpr c0
    have c0b1 : (t != 0) = true := bne_iff_ne.mpr c0
    clear H
    go_enter Tryz.func24, Tryz.ntmps24
    go_wp2_with (first | ((with_reducible refine Ay (N := 1) rfl ?_); refine Be zr (N := 1) zr (cs := #[.slice A0_0 l0_0.length c0_0]) (t := 26) zg ?_; intro gb1 hg w1 hbox hb; have n0_ := Aa.mk (Ab HB.out hb); have GE1 := Aa.mk ((by rw [hg]; exact (An HB.out) : w.heap.size ≤ gb1)); have BK1 := Aa.mk hbox; clear HB; have HB := n0_; clear n0_; clear hb hbox hg) | ((with_reducible refine Ay (N := 2) rfl ?_); refine Be zr (N := 2) zr (cs := #[.slice none 0 0]) (t := 26) zg ?_; intro gb2 hg w2 hbox hb; have n0_ := Aa.mk (Ab HB.out hb); have GE2 := Aa.mk ((by rw [hg]; exact (An HB.out) : w.heap.size ≤ gb2)); have BK2 := Aa.mk hbox; have NB12 := Aa.mk ((by rw [hg]; exact Nat.ne_of_lt (My BK1.out) : gb1 ≠ gb2)); have n5_ := Aa.mk (Cy BK1.out hb); clear BK1; have BK1 := n5_; clear n5_; obtain ⟨hcz0, hfz0⟩ := zw BK1.out; clear HB; have HB := n0_; clear n0_; clear hb hbox hg) | (go_at_call 31; (with_reducible refine (Dg.calls A0_0 c0_0 l0_0 true t _ ?side1 HC0.out E0.out).mono ?_); (case side1 => exact Kd.Bh HR0.out HB.out); rintro e w3 ⟨rfl, hb⟩; have n_ := y3 (Ab HB.out hb) (Cy BK1.out hb) (Cy BK2.out hb); clear HB BK1 BK2; obtain ⟨HB, BK1, BK2⟩ := n_; clear hb; obtain ⟨hcz2, hfz2⟩ := zw BK2.out))
    try go_wp2
    have BK3 := Aa.mk (Cl BK2.out 0 (.slice none 0 0) rfl)
    refine bodyPost_ret (Mn rfl _ _ gb2 26 #[.slice none 0 0] (0, 0) _ rfl (by exact BK3.out) Tryz.underlying26 rfl zk) rfl ?_
    exact ⟨_, _, rfl, Kd.Pa _ _ _ _ _, Kd.Pa _ _ _ _ _, Gl HB.out GE2.out⟩
def Gs.f (l0 : List Int) (a1 : Int) : Option Bool := some (decide (1 ≤ (l0.length : Int) ∧ (l0.length : Int) ≤ 120) && l0.all fun i => decide (-1 ≤ i ∧ i ≤ wrap64 (a1 - 1)))
theorem Vz (x a : Int) (B : Nat) (W : World) (hc : W.cell? ⟨B, 0, none⟩ = some (.int .i64 a)) :
    Calls Tryz.prog 74 (#[.int .i64 x] ++ #[.pointer (some ⟨B, 0, none⟩)]) W fun e w' => e = .returned (.bool (decide (-1 ≤ x ∧ x ≤ wrap64 (a - 1)))) ∧ Below W.heap.size W w' := by
  have HQ := Aa.mk (Es.calls x (-1) (wrap64 (a - 1)) _ W (Mp x (-1) (wrap64 (a - 1))))
  generalize decide (-1 ≤ x ∧ x ≤ wrap64 (a - 1)) = b at HQ ⊢
  show Calls Tryz.prog 74 #[.int .i64 x, .pointer (some ⟨B, 0, none⟩)] W _
  go_enter Tryz.func74, Tryz.ntmps74
  go_wp2_with (go_at_call 43; refine HQ.out.mono ?_; rintro e w' ⟨rfl, hb1⟩)
  go_ret
  exact ⟨rfl, hb1.below⟩
set_option maxHeartbeats 4000000 in
theorem Gs.calls (A0 : Option Addr) (c0 : Nat) (l0 : List Int) (a1 : Int) (r : Bool) (w : World) (hr0 : Kd.C (Kd.int .i64) w A0 l0.length l0) (hc0 : l0.length ≤ c0) (h : Gs.f l0 a1 = some r) :
    Calls Tryz.prog 42 #[.slice A0 l0.length c0, .int .i64 a1] w fun e w' => e = .returned (.bool r) ∧ Below w.heap.size w w' := by
  obtain rfl := Option.some.inj h
  clear h
  have e1 : ∀ args w, (callFunc 74 args).run Tryz.prog w = .ok (.enter 74 args) w := enters_of Tryz.func74 zk rfl
  have HQ := Aa.mk (fun (W : World) (hb : Below w.heap.size w W) (hbk : w.heap.size < W.heap.size) (hcell : W.cell? ⟨w.heap.size, 0, none⟩ = some (.int .i64 a1)) => Wr 74 #[.pointer (some ⟨w.heap.size, 0, none⟩)] e1 (fun i => decide (-1 ≤ i ∧ i ≤ wrap64 (a1 - 1))) A0 c0 l0 W (Kd.Bh hr0 hb) hc0
    (fun W' x hb' _ => Vz x a1 w.heap.size W' ((hb'.cell (p := ⟨w.heap.size, 0, none⟩) hbk).trans hcell)))
  have HL := Aa.mk (fun (W : World) (hb : Below w.heap.size w W) => Fe.calls A0 c0 l0 _ W (Kd.Bh hr0 hb) hc0 rfl)
  clear hr0 hc0 e1
  have HB := Aa.mk (Below.refl w.heap.size w)
  generalize l0.all (fun i => decide (-1 ≤ i ∧ i ≤ wrap64 (a1 - 1))) = b at HQ ⊢
  by_cases h1 : 1 ≤ (l0.length : Int) ∧ (l0.length : Int) ≤ 120
  · have HW := Aa.mk (fun W => Es.calls (l0.length : Int) 1 120 _ W (Ve h1))
    rw [decide_eq_true h1, Bool.true_and]
    clear h1
    go_enter Tryz.func42, Tryz.ntmps42
    go_wp2_with (first
      | (go_at_call 47; refine (HL.out _ (by repeat (first | exact HB.out | apply Dz | apply Ef | apply Bz))).mono ?_; rintro e w' ⟨rfl, ⟨n1, rfl⟩⟩)
      | (go_at_call 43; refine (HW.out _).mono ?_; rintro e w' ⟨rfl, ⟨n2, rfl⟩⟩)
      | (go_at_call 73; refine (HQ.out _ (by repeat (first | exact HB.out | apply Dz | apply Ef | apply Bz)) (by simp) (by simp)).mono ?_; rintro e w' ⟨rfl, hb1⟩))
    go_ret
    exact ⟨rfl, Ab (by repeat (first | exact HB.out | apply Dz | apply Ef | apply Bz)) hb1⟩
  · have HW := Aa.mk (fun W => Es.calls (l0.length : Int) 1 120 _ W (Vd h1))
    rw [decide_eq_false h1, Bool.false_and]
    clear h1
    go_enter Tryz.func42, Tryz.ntmps42
    go_wp2_with (first
      | (go_at_call 47; refine (HL.out _ (by repeat (first | exact HB.out | apply Dz | apply Ef | apply Bz))).mono ?_; rintro e w' ⟨rfl, ⟨n1, rfl⟩⟩)
      | (go_at_call 43; refine (HW.out _).mono ?_; rintro e w' ⟨rfl, ⟨n2, rfl⟩⟩))
    go_ret
    exact ⟨rfl, by repeat (first | exact HB.out | apply Dz | apply Ef | apply Bz)⟩
def Gy.f (a0 : Int) (a1 : Int) : Option (Int × Int) := some (IntKind.u64.wrap ((IntKind.u64.wrap ((IntKind.u64.wrap ((a0 / 4294967296) * (a1 / 4294967296))) + ((IntKind.u64.wrap ((IntKind.u64.wrap ((a0 / 4294967296) * (Go.bits .and .u64 a1 4294967295))) + ((IntKind.u64.wrap ((Go.bits .and .u64 a0 4294967295) * (Go.bits .and .u64 a1 4294967295))) / 4294967296))) / 4294967296))) + ((IntKind.u64.wrap ((Go.bits .and .u64 (IntKind.u64.wrap ((IntKind.u64.wrap ((a0 / 4294967296) * (Go.bits .and .u64 a1 4294967295))) + ((IntKind.u64.wrap ((Go.bits .and .u64 a0 4294967295) * (Go.bits .and .u64 a1 4294967295))) / 4294967296))) 4294967295) + (IntKind.u64.wrap ((Go.bits .and .u64 a0 4294967295) * (a1 / 4294967296))))) / 4294967296)), IntKind.u64.wrap (a0 * a1))
theorem Gy.calls (a0 : Int) (a1 : Int) (r1 : Int) (r2 : Int) (w : World) (h : Gy.f a0 a1 = some (r1, r2)) :
    Calls Tryz.prog 86 #[.int .u64 a0, .int .u64 a1] w fun e w' => e = .returned (.tuple #[.int .u64 r1, .int .u64 r2]) ∧ Ct w w' := by
 have H := h
 clear h
 unfold Gy.f at H
 simp only [Option.some.injEq, Prod.mk.injEq] at H
 obtain ⟨rfl, rfl⟩ := H
 go_enter Tryz.func86, Tryz.ntmps86
 go_wp2
 go_ret2
 exact ⟨by first | rfl | (simp; done) | (simp [*]; done), by repeat (first | exact Ct.refl _ | apply Ct.step)⟩
def Gp.f (a0 : Int) (a1 : Int) : Option (Int × Int) := (Gy.f a0 a1).bind fun bt101 => (some (bt101.1, bt101.2))
theorem Gp.calls (a0 : Int) (a1 : Int) (r1 : Int) (r2 : Int) (w : World) (h : Gp.f a0 a1 = some (r1, r2)) :
    Calls Tryz.prog 75 #[.int .u64 a0, .int .u64 a1] w fun e w' => e = .returned (.tuple #[.int .u64 r1, .int .u64 r2]) ∧ Ct w w' := by
 have H := h
 clear h
 unfold Gp.f at H
 obtain ⟨⟨t101, t102⟩, A3, H⟩ := zO H
 try dsimp only at H
 simp only [Option.some.injEq, Prod.mk.injEq] at H
 obtain ⟨rfl, rfl⟩ := H
 go_enter Tryz.func75, Tryz.ntmps75
 go_wp2_with (first | (refine gK 86 ?_; refine gL 25 Tryz.func86 #[.int .u64 a0, .int .u64 a1] ?_; (with_reducible refine (Gy.calls a0 a1 t101 t102 _ A3.out).mono ?_); rintro e w' ⟨rfl, ⟨nd, rfl⟩⟩; refine ⟨_, rfl, ?_⟩))
 go_ret2
 exact ⟨by first | rfl | (simp; done) | (simp [*]; done), by repeat (first | exact Ct.refl _ | apply Ct.step)⟩
def Dr.f (l0 : List Int) (a1 : Int) : Option (List Int) := if l0.length = 1 ∧ (0 ≤ a1 ∧ a1 < 4294967296) then some (List.replicate a1.toNat (rd l0 0)) else if (1 ≤ l0.length ∧ l0.length ≤ 1024) ∧ (1 ≤ a1 ∧ a1 ≤ 1024) then some (List.replicate a1.toNat l0).flatten else none
theorem Xy : (Tryz.prog.info? 2).map (fun i => (i.zero, i.size, i.bytes)) = some (some (.int .i64 0), 1, 8) := by kernel_rfl
theorem Pj (c : Nat) (hc : c < 4294967296) : IntKind.u64.wrap (c : Int) = (c : Int) := by
 show (c : Int) % 18446744073709551616 = (c : Int)
 omega
theorem Tc {v : Value} {cur : List Value} {j m : Nat} (h : cur.take j = List.replicate j v) (hj : j ≤ cur.length) : (splice cur j (List.replicate m v)).take (j + m) = List.replicate (j + m) v := by
 unfold splice
 rw [h, ← List.append_assoc, List.take_append_of_le_length (by simp), List.take_of_length_le (by simp), List.replicate_append_replicate]
theorem q1m {v : Value} {cur : List Value} {j i : Nat} (h : cur.take j = List.replicate j v) (hi : i < j) : cur[i]? = some v := by
 have h2 : (cur.take j)[i]? = some v := by rw [h]; simp [hi]
 rwa [List.getElem?_take_of_lt hi] at h2
theorem q0U (c : Nat) (hc : c < 4294967296) : Gp.f 1 (c : Int) = some (0, (c : Int)) := by
 have e1 : Go.bits .and .u64 1 4294967295 = 1 := by decide
 have e2 : Go.bits .and .u64 (c : Int) 4294967295 = (c : Int) := by
  rw [show (4294967295 : Int) = ((4294967295 : Nat) : Int) from rfl, Go.bits_and_u64_nat c 4294967295 (by omega) (by omega), show (4294967295 : Nat) = 2 ^ 32 - 1 from rfl, Nat.and_two_pow_sub_one_eq_mod, Nat.mod_eq_of_lt (by omega)]
 have e3 : (c : Int) / 4294967296 = 0 := by omega
 have e4 : (1 : Int) / 4294967296 = 0 := by decide
 have e5 : IntKind.u64.wrap (c : Int) = (c : Int) := Pj c (by omega)
 have e6 : IntKind.u64.wrap 0 = 0 := by decide
 have e7 : Go.bits .and .u64 0 4294967295 = 0 := by decide
 unfold Gp.f Gy.f
 simp only [e1, e2, e3, e4, e5, e6, e7, Int.one_mul, Int.zero_mul, Int.mul_zero, Int.zero_add, Int.add_zero, Int.zero_ediv, Option.bind_some]
theorem q2M {l : List Int} {n : Nat} (h : n < l.length) : rd l (n : Int) = l[n] := by simp [rd, List.getD_eq_getElem?_getD, List.getElem?_eq_getElem h]
def vrep (l0 : List Int) (c : Nat) : List Value := (List.replicate c (l0.map (Value.int .i64))).flatten
theorem Mv (l0 : List Int) (c : Nat) : (vrep l0 c).length = c * l0.length := by simp [vrep]
theorem Vm (l0 : List Int) (a b : Nat) : vrep l0 (a + b) = vrep l0 a ++ vrep l0 b := by
 unfold vrep
 rw [← List.replicate_append_replicate, List.flatten_append]
theorem q1s (l0 : List Int) (c q m : Nat) (hq : q ≤ c) (hm : m ≤ (c - q) * l0.length) : (vrep l0 c).take (q * l0.length + m) = (vrep l0 c).take (q * l0.length) ++ (vrep l0 c).take m := by
 obtain ⟨d, rfl⟩ : ∃ d, c = q + d := ⟨c - q, by omega⟩
 rw [List.take_add]
 congr 1
 rw [show q + d - q = d by omega] at hm
 have h1 : (vrep l0 (q + d)).drop (q * l0.length) = vrep l0 d := by rw [Vm, List.drop_left' (Mv l0 q)]
 rw [h1, Nat.add_comm q d, Vm, List.take_append_of_le_length (by rw [Mv]; exact hm)]
theorem q1N {l0 : List Int} {c : Nat} {v : Value} (h : v ∈ vrep l0 c) : v.oneCell' = true := by
 unfold vrep at h
 obtain ⟨l, hl, hv⟩ := List.mem_flatten.1 h
 rw [(List.mem_replicate.1 hl).2] at hv
 obtain ⟨x, _, rfl⟩ := List.mem_map.1 hv
 rfl
theorem Zv {l0 : List Int} {c : Nat} (h : 1 ≤ c) : (vrep l0 c).take l0.length = l0.map (Value.int .i64) := by
 obtain ⟨d, rfl⟩ : ∃ d, c = 1 + d := ⟨c - 1, by omega⟩
 rw [Vm, List.take_append_of_le_length (by rw [Mv]; omega), List.take_of_length_le (by rw [Mv]; omega)]
 simp [vrep]
theorem Sa {cur cs : List Value} {j : Nat} (hj : j ≤ cur.length) : (splice cur j cs).take (j + cs.length) = cur.take j ++ cs := by
 unfold splice
 rw [← List.append_assoc, List.take_append_of_le_length (by simp; omega), List.take_of_length_le (by simp; omega)]
theorem q0D {cu vr : List Value} {j m i : Nat} {v : Value} (h : cu.take j = vr.take j) (hm : m ≤ j) (hi : (vr.take m)[i]? = some v) : cu[i]? = some v := by
 have h1 := (List.getElem?_eq_some_iff.1 hi).1
 rw [List.length_take] at h1
 rw [List.getElem?_take_of_lt (by omega)] at hi
 have h2 : (cu.take j)[i]? = (vr.take j)[i]? := by rw [h]
 rw [List.getElem?_take_of_lt (by omega), List.getElem?_take_of_lt (by omega), hi] at h2
 exact h2
theorem Ym (a c : Nat) (ha : a < 65536) (hc : c < 65536) : Gp.f (a : Int) (c : Int) = some (0, ((a * c : Nat) : Int)) := by
 have hac : a * c < 4294967296 := Nat.lt_of_lt_of_le (Nat.mul_lt_mul'' ha hc) (by decide)
 have ea : Go.bits .and .u64 (a : Int) 4294967295 = (a : Int) := by
  rw [show (4294967295 : Int) = ((4294967295 : Nat) : Int) from rfl, Go.bits_and_u64_nat a 4294967295 (by omega) (by omega), show (4294967295 : Nat) = 2 ^ 32 - 1 from rfl, Nat.and_two_pow_sub_one_eq_mod, Nat.mod_eq_of_lt (by omega)]
 have ec : Go.bits .and .u64 (c : Int) 4294967295 = (c : Int) := by
  rw [show (4294967295 : Int) = ((4294967295 : Nat) : Int) from rfl, Go.bits_and_u64_nat c 4294967295 (by omega) (by omega), show (4294967295 : Nat) = 2 ^ 32 - 1 from rfl, Nat.and_two_pow_sub_one_eq_mod, Nat.mod_eq_of_lt (by omega)]
 have e3 : (c : Int) / 4294967296 = 0 := by omega
 have e4 : (a : Int) / 4294967296 = 0 := by omega
 have e5 : IntKind.u64.wrap ((a * c : Nat) : Int) = ((a * c : Nat) : Int) := Pj _ (by omega)
 have e8 : ((a * c : Nat) : Int) / 4294967296 = 0 := by omega
 have e6 : IntKind.u64.wrap 0 = 0 := by decide
 have e7 : Go.bits .and .u64 0 4294967295 = 0 := by decide
 unfold Gp.f Gy.f
 simp only [ea, ec, e3, e4, ← Int.natCast_mul, e5, e8, e6, e7, Int.zero_mul, Int.mul_zero, Int.zero_add, Int.add_zero, Int.zero_ediv, Option.bind_some]
end Go.Proofs.YtliepcfgcglcmaaGreat.P
end
