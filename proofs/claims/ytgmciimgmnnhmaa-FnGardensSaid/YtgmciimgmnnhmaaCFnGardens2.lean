/- Towers are at least the sum of the rates, and heights are those that cuts leave. -/
import Derived.Test.YtgmciimgmnnhmaaCFnGardens1
import Derived.ArgAppend
import Derived.Below
import Derived.BigQuiet
import Derived.ChangeArms
import Derived.ChangeOld
import Derived.ChangeSame
import Derived.Deep.AppendLies
import Derived.Deep.CutBlock
import Derived.Deep.DeepCutAuto
import Derived.Deep.Draws
import Derived.Deep.Fields
import Derived.Deep.LoopGhost
import Derived.Deep.OwnRows
import Derived.Deep.QuietTactic
import Derived.Deep.RegionHeld3
import Derived.Deep.Slices
import Derived.KernelRfl
import Derived.Laws.BitsLemmas
import Derived.Laws.BytesArg
import Derived.Laws.IdiomCopy
import Derived.Laws.MakeOwn
import Derived.Laws.OwnMore
import Derived.Laws.Rows
import Derived.Laws.Slices
import Derived.Lib.AppendStr
import Derived.Lib.ConvBytes
import Derived.Lib.SliceRun
import Derived.Lib.SmallJoins
import Derived.Maps.AppendAt
import Derived.OpenShut
import Derived.OrdersHeld
import Derived.OwnWalk
import Derived.ProofKit
import Derived.RowKit
import Derived.RowKit3
import Derived.Shelf.Abstract
import Derived.ShutString
import Derived.SizedLaws
import Derived.Tactics
import Derived.Test.YtgmciimgmnnhmaaProg
import Derived.WalkKit
import Derived.WideLaws
import Derived.WideShapes
section
namespace Go.Proofs.Ytgmciimgmnnhmaa.P
open Go.RowKit Go.Proofs.YtgmciimgmnnhmaaW.PrintWords Go.Proofs.YtgmciimgmnnhmaaW.PrintLast Go.Proofs.YtgmciimgmnnhmaaW.PrintMore
attribute [local go_sem] max2_int min2_int max_two min_two max_three min_three max_four min_four   -- for this text's walks alone
set_option linter.unusedVariables false
set_option linter.unusedSimpArgs false
def errW : Option Int → Value
  | none => .nilIface
  | some c => .iface 0 (.int .i64 c)
theorem errW_none : errW none = .nilIface := rfl
theorem errW_some (c : Int) : errW (some c) = .iface 0 (.int .i64 c) := rfl
theorem info2 : (Try.prog.info? 2).map (fun i => (i.zero, i.size, i.bytes)) = some (some (.int .i64 0), 1, 8) := by kernel_rfl
theorem info24 : (Try.prog.info? 24).map (fun i => (i.zero, i.size, i.bytes)) = some (some (.slice none 0 0), 1, 24) := by kernel_rfl
def rd_L2 (xs : List (List Int)) (i : Int) : (List Int) := xs.getD i.toNat ([] : List Int)
theorem at_L2 {w : World} {A : Option Addr} {n : Nat} {xs : List (List Int)} (h : Kd.C (Kd.slice 2 (Kd.int .i64)) w A n xs) (i : Int) (h0 : 0 ≤ i) (h1 : i < n) : ∃ ad A0 c0, A = some ad ∧ w.cell? (ad.add i.toNat) = some (.slice A0 (rd_L2 xs i).length c0) ∧ (rd_L2 xs i).length ≤ c0 ∧ (Kd.int .i64).C w A0 (rd_L2 xs i).length (rd_L2 xs i) := by
  obtain ⟨ad, c, e, _, hK, hc0⟩ := Kd.C_get h ([] : List Int) i h0 h1
  have hc : ∀ j u, c[j]? = some u → w.cell? (ad.add (i.toNat * 1 + j)) = some u := hc0
  obtain ⟨A0, c0, rfl, l0, g0⟩ := hK
  exact ⟨ad, A0, c0, e, by have hq := hc 0 _ rfl; rwa [Nat.mul_one, Nat.add_zero] at hq, l0, g0⟩
end Go.Proofs.Ytgmciimgmnnhmaa.P
end
section
namespace Go.Proofs.Ytgmciimgmnnhmaa.P
open Go.RowKit Go.Proofs.YtgmciimgmnnhmaaW.PrintWords Go.Proofs.YtgmciimgmnnhmaaW.PrintLast Go.Proofs.YtgmciimgmnnhmaaW.PrintMore
theorem zA {p : Prop} (h : p := by (try simp only [List.map_toArray, List.map_cons, List.map_nil]); first | done | rfl | (simp only [List.length_drop, List.length_take]; rfl)) : p := h
theorem zB {p : Prop} (h : p := by repeat (first | (with_reducible first | exact HB.out | apply below_alloc | apply pw_below_drewN | apply below_drew1 | refine below_set ?_ (IsS68.ge HI0.out) | refine below_set ?_ (Aside0.out (by assumption : Aside0 (w0.heap.size ≤ _))) | refine below_set ?_ (Aside0.out (by assumption : Aside0 (w.heap.size ≤ _)))) | exact HB.out)) : p := h
theorem zK {p : Prop} (h : p := by repeat (first | (with_reducible first | exact HK.out | apply KeepBut.set_ | apply keep_drewN | apply keep_drew | apply keep_alloc | refine keep_far ?_ (Aside0.out (by assumption : Aside0 (w.heap.size ≤ _))) _) | exact HK.out)) : p := h
theorem zJ {p : Prop} (h : p := by repeat (first | (with_reducible first | exact HK.out | apply Kept.alloc | apply Kept.drewN | apply Kept.drew | refine Kept.setCell ?_ (.inl (.inr rfl)) _ | refine Kept.setCell ?_ (.inr (Aside0.out (by assumption : Aside0 (w.heap.size ≤ _)))) _) | exact HK.out)) : p := h
theorem zI {p : Prop} (h : p := by repeat (first | (with_reducible first | exact HI0.out | apply IsS68.set_1 | apply IsS68.set_2 | apply IsS68.alloc | apply IsS68.drewN | apply IsS68.drew | refine IsS68.far ?_ (Aside0.out (by assumption)) _) | exact HI0.out)) : p := h
theorem zX {p q : Prop} (b : p) (h : p → q := by intro b_; repeat (first | (with_reducible first | exact b_ | apply IsS68.set_1 | apply IsS68.set_2 | apply IsS68.alloc | apply IsS68.drewN | apply IsS68.drew | refine IsS68.far ?_ (Aside0.out (by assumption)) _) | exact b_)) : q := h b
theorem zG {p q : Prop} (b : p) (h : p → q := by intro b_; (with_reducible repeat (first | refine blk_drewN ?_ _ | refine blk_drew ?_ | refine blk_alloc ?_ _)); exact b_) : q := h b
theorem zR {p q : Prop} (b : p) (h : p → q := by intro b_; (with_reducible repeat (first | apply Kd.R_alloc | apply Kd.R_drewN | apply Kd.R_drew)); exact b_) : q := h b
theorem zC {p q : Prop} (b : p) (h : p → q := by intro b_; repeat (first | exact b_ | (with_reducible refine Kd.C_alloc ?_ _) | (with_reducible refine Kd.C_drewN ?_ _) | (with_reducible refine Kd.C_drew ?_))) : q := h b
theorem zD {p : Prop} [Decidable p] (h : decide p = true := by first | (with_reducible assumption) | assumption) : p := of_decide_eq_true h
theorem zH {α : Type} {a b : α} {q : Prop} (e : a = b) (h : a = b → q := by intro e_; first | (rw [e_]; with_reducible exact H) | (have H2_ := (Option.bind_some _ _).symm.trans H; rw [e_]; with_reducible exact H2_) | (have H2_ := (Option.bind_some _ _).symm.trans H; with_reducible exact H2_) | with_reducible exact H | (rw [e_]; exact H) | exact H) : q := h e
theorem zE {p : Prop} (h : p := by first | rfl | (simp [errW_none, errW_some] <;> rfl) | (simp [*, errW_none, errW_some] <;> rfl)) : p := h
theorem zF {p : Prop} (h : p := by first | rfl | (simp; done) | (simp [*]; done)) : p := h
theorem zN {p : Prop} (h : p := by first | exact Kd.R_nil _ _ _ _ _ | exact Kd.N_nil _ _ _ _ _ | exact Kd.V_nil _ _ _ _ _ | exact Kd.Q_nil _ _ _ _ _ | exact Kd.S_nil _ _ _ _ _) : p := h
theorem zS {a b c : Nat} (e : b = c) (h : a ≤ c := by exact (below_size zB)) : a ≤ b := e.symm ▸ h
theorem zL {p : Prop} {a b c : Nat} (e : b = c) (k : p) (h : p → a < c := by intro k_; exact blk_lt (zG k_)) : a ≠ b := by have := h k; omega
theorem zM {p : Prop} {a b c : Nat} (e : b = c) (k : p) (h : p → a < c := by intro k_; exact blk_lt (zG k_)) : b ≠ a := by have := h k; omega
theorem zr {p : Prop} (h : p := by rfl) : p := h
theorem zk {p : Prop} (h : p := by kernel_rfl) : p := h
theorem zg {p : Prop} (h : p := by first | (go_simp; done) | (go_simp; rfl)) : p := h
theorem zc {w : World} {g : Nat} {v : Value} {t : TypeId} (h : w.heap[g]? = some (.cells #[v] t (0, 0))) : w.cell? ⟨g, 0, none⟩ = some v := (blk_cell h 0).trans rfl
theorem zb {p : Prop} {w w' : World} {g : Nat} {o : Obj} (b : p) (hb : Below w.heap.size w w') (h : p → w.heap[g]? = some o := by intro b_; exact zG b_) : w'.heap[g]? = some o := blk_below (h b) hb
theorem zp {p : Prop} (h : p := by (intro w'; go_simp; with_reducible rfl)) : p := h
theorem zq {p : Prop} (h : p := by (simp only [Act.put, List.setIfInBounds_toArray, List.set_cons_zero, List.set_cons_succ, i64_w, i32_w]; rfl)) : p := h
theorem zd {p : Prop} (h : p := by first | exact ⟨rfl, _, World.drewN_drewN _ _ _⟩ | exact ⟨rfl, _, Eq.trans (World.drewN_drewN _ _ _) (congrArg (World.drewN _) (Nat.add_assoc _ _ _))⟩) : p := h
theorem y2 {a b : Prop} (xa : a) (xb : b) : Aside0 a ∧ Aside0 b := ⟨⟨xa⟩, ⟨xb⟩⟩
theorem y3 {a b c : Prop} (xa : a) (xb : b) (xc : c) : Aside0 a ∧ Aside0 b ∧ Aside0 c := ⟨⟨xa⟩, ⟨xb⟩, ⟨xc⟩⟩
theorem y4 {a b c d : Prop} (xa : a) (xb : b) (xc : c) (xd : d) : Aside0 a ∧ Aside0 b ∧ Aside0 c ∧ Aside0 d := ⟨⟨xa⟩, ⟨xb⟩, ⟨xc⟩, ⟨xd⟩⟩
theorem y5 {a b c d e : Prop} (xa : a) (xb : b) (xc : c) (xd : d) (xe : e) : Aside0 a ∧ Aside0 b ∧ Aside0 c ∧ Aside0 d ∧ Aside0 e := ⟨⟨xa⟩, ⟨xb⟩, ⟨xc⟩, ⟨xd⟩, ⟨xe⟩⟩
theorem y6 {a b c d e f : Prop} (xa : a) (xb : b) (xc : c) (xd : d) (xe : e) (xf : f) : Aside0 a ∧ Aside0 b ∧ Aside0 c ∧ Aside0 d ∧ Aside0 e ∧ Aside0 f := ⟨⟨xa⟩, ⟨xb⟩, ⟨xc⟩, ⟨xd⟩, ⟨xe⟩, ⟨xf⟩⟩
theorem y7 {a b c d e f g : Prop} (xa : a) (xb : b) (xc : c) (xd : d) (xe : e) (xf : f) (xg : g) : Aside0 a ∧ Aside0 b ∧ Aside0 c ∧ Aside0 d ∧ Aside0 e ∧ Aside0 f ∧ Aside0 g := ⟨⟨xa⟩, ⟨xb⟩, ⟨xc⟩, ⟨xd⟩, ⟨xe⟩, ⟨xf⟩, ⟨xg⟩⟩
theorem y8 {a b c d e f g h : Prop} (xa : a) (xb : b) (xc : c) (xd : d) (xe : e) (xf : f) (xg : g) (xh : h) : Aside0 a ∧ Aside0 b ∧ Aside0 c ∧ Aside0 d ∧ Aside0 e ∧ Aside0 f ∧ Aside0 g ∧ Aside0 h := ⟨⟨xa⟩, ⟨xb⟩, ⟨xc⟩, ⟨xd⟩, ⟨xe⟩, ⟨xf⟩, ⟨xg⟩, ⟨xh⟩⟩
theorem y9 {a b c d e f g h i : Prop} (xa : a) (xb : b) (xc : c) (xd : d) (xe : e) (xf : f) (xg : g) (xh : h) (xi : i) : Aside0 a ∧ Aside0 b ∧ Aside0 c ∧ Aside0 d ∧ Aside0 e ∧ Aside0 f ∧ Aside0 g ∧ Aside0 h ∧ Aside0 i := ⟨⟨xa⟩, ⟨xb⟩, ⟨xc⟩, ⟨xd⟩, ⟨xe⟩, ⟨xf⟩, ⟨xg⟩, ⟨xh⟩, ⟨xi⟩⟩
theorem y10 {a b c d e f g h i j : Prop} (xa : a) (xb : b) (xc : c) (xd : d) (xe : e) (xf : f) (xg : g) (xh : h) (xi : i) (xj : j) : Aside0 a ∧ Aside0 b ∧ Aside0 c ∧ Aside0 d ∧ Aside0 e ∧ Aside0 f ∧ Aside0 g ∧ Aside0 h ∧ Aside0 i ∧ Aside0 j := ⟨⟨xa⟩, ⟨xb⟩, ⟨xc⟩, ⟨xd⟩, ⟨xe⟩, ⟨xf⟩, ⟨xg⟩, ⟨xh⟩, ⟨xi⟩, ⟨xj⟩⟩
theorem y11 {a b c d e f g h i j k : Prop} (xa : a) (xb : b) (xc : c) (xd : d) (xe : e) (xf : f) (xg : g) (xh : h) (xi : i) (xj : j) (xk : k) : Aside0 a ∧ Aside0 b ∧ Aside0 c ∧ Aside0 d ∧ Aside0 e ∧ Aside0 f ∧ Aside0 g ∧ Aside0 h ∧ Aside0 i ∧ Aside0 j ∧ Aside0 k := ⟨⟨xa⟩, ⟨xb⟩, ⟨xc⟩, ⟨xd⟩, ⟨xe⟩, ⟨xf⟩, ⟨xg⟩, ⟨xh⟩, ⟨xi⟩, ⟨xj⟩, ⟨xk⟩⟩
theorem y12 {a b c d e f g h i j k l : Prop} (xa : a) (xb : b) (xc : c) (xd : d) (xe : e) (xf : f) (xg : g) (xh : h) (xi : i) (xj : j) (xk : k) (xl : l) : Aside0 a ∧ Aside0 b ∧ Aside0 c ∧ Aside0 d ∧ Aside0 e ∧ Aside0 f ∧ Aside0 g ∧ Aside0 h ∧ Aside0 i ∧ Aside0 j ∧ Aside0 k ∧ Aside0 l := ⟨⟨xa⟩, ⟨xb⟩, ⟨xc⟩, ⟨xd⟩, ⟨xe⟩, ⟨xf⟩, ⟨xg⟩, ⟨xh⟩, ⟨xi⟩, ⟨xj⟩, ⟨xk⟩, ⟨xl⟩⟩
theorem y13 {a b c d e f g h i j k l m : Prop} (xa : a) (xb : b) (xc : c) (xd : d) (xe : e) (xf : f) (xg : g) (xh : h) (xi : i) (xj : j) (xk : k) (xl : l) (xm : m) : Aside0 a ∧ Aside0 b ∧ Aside0 c ∧ Aside0 d ∧ Aside0 e ∧ Aside0 f ∧ Aside0 g ∧ Aside0 h ∧ Aside0 i ∧ Aside0 j ∧ Aside0 k ∧ Aside0 l ∧ Aside0 m := ⟨⟨xa⟩, ⟨xb⟩, ⟨xc⟩, ⟨xd⟩, ⟨xe⟩, ⟨xf⟩, ⟨xg⟩, ⟨xh⟩, ⟨xi⟩, ⟨xj⟩, ⟨xk⟩, ⟨xl⟩, ⟨xm⟩⟩
end Go.Proofs.Ytgmciimgmnnhmaa.P
end
section
namespace Go.Proofs.Ytgmciimgmnnhmaa.P
open Go.RowKit Go.Proofs.YtgmciimgmnnhmaaW.PrintWords Go.Proofs.YtgmciimgmnnhmaaW.PrintLast Go.Proofs.YtgmciimgmnnhmaaW.PrintMore
attribute [local go_sem] max2_int min2_int max_two min_two max_three min_three max_four min_four   -- for this text's walks alone
set_option linter.unusedVariables false
set_option linter.unusedSimpArgs false
def idxF {α : Type} (p : α → Bool) (l : List α) : Int := if l.any p then (l.findIdx p : Int) else -1
def idxL (p : Int → Bool) (l : List Int) : Nat → Int → Option Int
  | 0, _ => none
  | k + 1, i => if i < (l.length : Int) then (if p (rd l i) = true then some i else idxL p l k (wrap64 (i + 1))) else some (-1)
theorem idxL_at (p : Int → Bool) (l : List Int) (hl : l.length ≤ 9223372036854775807) : ∀ (d n : Nat), n + d = l.length → (∀ x ∈ l.take n, p x = false) → idxL p l (d + 1) (n : Int) = some (idxF p l) := by
  intro d
  induction d with
  | zero =>
    intro n hn hp
    have hno : l.any p = false := by
      rw [List.take_of_length_le (by omega)] at hp
      simpa using hp
    simp only [idxL]
    rw [if_neg (by omega), idxF, if_neg (by simp [hno])]
  | succ d ih =>
    intro n hn hp
    have hlt : n < l.length := by omega
    have hrd : rd l (n : Int) = l[n] := by simp [rd, hlt]
    have htake : l.take (n + 1) = l.take n ++ [l[n]] := by rw [List.take_succ_eq_append_getElem hlt]
    rw [idxL, if_pos (by omega), hrd]
    by_cases h : p l[n] = true
    · rw [if_pos h, idxF, if_pos (by simp only [List.any_eq_true]; exact ⟨l[n], List.getElem_mem _, h⟩)]
      congr 2
      symm
      rw [List.findIdx_eq hlt]
      refine ⟨h, fun j hj => ?_⟩
      exact hp _ (List.mem_take_iff_getElem.2 ⟨j, by omega, rfl⟩)
    · rw [if_neg h, show wrap64 ((n : Int) + 1) = ((n + 1 : Nat) : Int) by unfold wrap64; omega]
      refine ih (n + 1) (by omega) ?_
      rw [htake]
      intro x hx
      rcases List.mem_append.1 hx with hx | hx
      · exact hp x hx
      · rw [List.mem_singleton.1 hx]
        simpa using h
theorem idxF_nonneg {α : Type} (p : α → Bool) (l : List α) : decide (0 ≤ idxF p l) = l.any p := by
  unfold idxF
  by_cases h : l.any p = true
  · rw [if_pos h, h]; simp
  · rw [if_neg h]
    simp only [Bool.not_eq_true] at h
    rw [h]; simp
theorem all_not_any {α : Type} (p : α → Bool) (l : List α) : l.all p = !(l.any fun x => !p x) := by
  induction l with
  | nil => rfl
  | cons x l ih => rw [List.all_cons, List.any_cons, Bool.not_or, Bool.not_not, ih]
theorem rd_mem {l : List Int} {i : Int} (h0 : 0 ≤ i) (h : i < (l.length : Int)) : rd l i ∈ l := by
  have hlt : i.toNat < l.length := by omega
  simp [rd, hlt]
end Go.Proofs.Ytgmciimgmnnhmaa.P
end
section
namespace Go.Proofs.Ytgmciimgmnnhmaa.P
open Go.RowKit Go.Proofs.YtgmciimgmnnhmaaW.PrintWords Go.Proofs.YtgmciimgmnnhmaaW.PrintLast Go.Proofs.YtgmciimgmnnhmaaW.PrintMore
attribute [local go_sem] max2_int min2_int max_two min_two max_three min_three max_four min_four   -- for this text's walks alone
set_option linter.unusedVariables false
set_option linter.unusedSimpArgs false
set_option maxHeartbeats 4000000 in
set_option maxRecDepth 100000 in
theorem fv_IndexFunc (g : Nat) (lb : Array Value) (eg : ∀ args w, (callFunc g args).run Try.prog w = .ok (.enter g args) w) (p : Int → Bool) (A0 : Option Addr) (c0 : Nat) (l0 : List Int) (w : World)
    (hr0 : Kd.C (Kd.int .i64) w A0 l0.length l0) (hc0 : l0.length ≤ c0)
    (hp : ∀ (W : World) (x : Int), Below w.heap.size w W → x ∈ l0 → Calls Try.prog g (#[.int .i64 x] ++ lb) W fun e w' => e = .returned (.bool (p x)) ∧ Below W.heap.size W w') :
    Calls Try.prog 75 #[.slice A0 l0.length c0, .func (.func g) #[] lb] w fun e w' => e = .returned (.int .i64 (idxF p l0)) ∧ Below w.heap.size w w' := by
  have H : idxL p l0 (l0.length + 1) 0 = some (idxF p l0) := idxL_at p l0 hr0.2.1 l0.length 0 (by omega) (by simp)
  generalize idxF p l0 = r at H ⊢
  have HR0 := Aside0.mk hr0
  have HC0 := Aside0.mk hc0
  have HP := Aside0.mk hp
  clear hr0 hc0 hp
  have H' := Aside0.mk H
  clear H
  have HB := Aside0.mk (Below.refl w.heap.size w)
  go_enter Try.func75, Try.ntmps75
  go_wp2
  go_loopg [5, 8] (l0.length + 1) (fun kq v5 v8 w' => ∃ x8 : Int, v8 = .int .i64 x8 ∧ Aside0 (idxL p l0 kq x8 = some r) ∧ Aside0 (0 ≤ x8) ∧ Aside0 (Below w.heap.size w w'))
  case atStart => exact ⟨0, rfl, H', ⟨by omega⟩, HB⟩
  case round =>
    clear H' HB
    obtain ⟨x8, rfl, HA, H0, HB⟩ := hrel
    cases gk with
    | zero => exact absurd HA.out (by simp [idxL])
    | succ k1 =>
      have H := HA.out
      clear HA
      simp only [idxL] at H
      by_cases c3 : x8 < (l0.length : Int)
      · rw [if_pos c3] at H
        obtain ⟨ad, e1, hx⟩ := Kd.at_int HR0.out x8 H0.out c3
        cases e1
        have hcell := pw_cell_below HB.out hx
        clear hx
        have hcall := HP.out _ (rd l0 x8) HB.out (rd_mem H0.out c3)
        have c3b := decide_eq_true c3
        have c0b := eq_true H0.out
        have c3c := eq_true c3
        have HM : Aside0 (x8 < 9223372036854775807) := ⟨by have := HR0.out.2.1; omega⟩
        clear c3
        generalize rd l0 x8 = y at H hcell hcall
        cases hq : p y with
        | true =>
          rw [hq, if_pos rfl] at H
          rw [hq] at hcall
          obtain rfl := Option.some.inj H
          clear H hq
          have HQ := Aside0.mk hcall
          clear hcall
          go_wp2_with (go_at_fn g; refine HQ.out.mono ?_; rintro e w' ⟨rfl, hb1⟩)
          go_ret
          exact ⟨rfl, below_step HB.out hb1⟩
        | false =>
          rw [hq, if_neg (by simp)] at H
          rw [hq] at hcall
          have H' := Aside0.mk H
          clear H hq
          have HQ := Aside0.mk hcall
          clear hcall
          go_wp2_with (go_at_fn g; refine HQ.out.mono ?_; rintro e w' ⟨rfl, hb1⟩)
          go_roundg k1
          case measure => omega
          case rel => exact ⟨(wrap64 (x8 + 1)), zF, H', ⟨by have h1 := HM.out; have h2 := H0.out; unfold wrap64; omega⟩, ⟨below_step HB.out hb1⟩⟩
      · rw [if_neg c3] at H
        obtain rfl := Option.some.inj H
        have c3b := decide_eq_false c3
        clear c3 H
        go_wp2
        go_ret
        exact ⟨rfl, HB.out⟩
set_option maxHeartbeats 4000000 in
theorem fv_ContainsFunc (g : Nat) (lb : Array Value) (eg : ∀ args w, (callFunc g args).run Try.prog w = .ok (.enter g args) w) (p : Int → Bool) (A0 : Option Addr) (c0 : Nat) (l0 : List Int) (w : World)
    (hr0 : Kd.C (Kd.int .i64) w A0 l0.length l0) (hc0 : l0.length ≤ c0)
    (hp : ∀ (W : World) (x : Int), Below w.heap.size w W → x ∈ l0 → Calls Try.prog g (#[.int .i64 x] ++ lb) W fun e w' => e = .returned (.bool (p x)) ∧ Below W.heap.size W w') :
    Calls Try.prog 71 #[.slice A0 l0.length c0, .func (.func g) #[] lb] w fun e w' => e = .returned (.bool (l0.any p)) ∧ Below w.heap.size w w' := by
  rw [← idxF_nonneg p l0]
  have HQ := Aside0.mk (fv_IndexFunc g lb eg p A0 c0 l0 w hr0 hc0 hp)
  clear hr0 hc0 hp
  go_enter Try.func71, Try.ntmps71
  go_wp2_with (go_at_call 75; refine HQ.out.mono ?_; rintro e w' ⟨rfl, hb1⟩)
  go_ret
  exact ⟨rfl, hb1⟩
set_option maxHeartbeats 4000000 in
theorem fv_areAll_1 (g : Nat) (lb : Array Value) (eg : ∀ args w, (callFunc g args).run Try.prog w = .ok (.enter g args) w) (p : Int → Bool) (B : Nat) (x : Int) (W : World)
    (hc : W.cell? ⟨B, 0, none⟩ = some (.func (.func g) #[] lb))
    (hp : Calls Try.prog g (#[.int .i64 x] ++ lb) W fun e w' => e = .returned (.bool (p x)) ∧ Below W.heap.size W w') :
    Calls Try.prog 72 #[.int .i64 x, .pointer (some ⟨B, 0, none⟩)] W fun e w' => e = .returned (.bool (!p x)) ∧ Below W.heap.size W w' := by
  have HQ := Aside0.mk hp
  clear hp
  generalize p x = b at HQ ⊢
  go_enter Try.func72, Try.ntmps72
  go_wp2_with (go_at_fn g; refine HQ.out.mono ?_; rintro e w' ⟨rfl, hb1⟩)
  go_ret
  exact ⟨rfl, hb1⟩
set_option maxHeartbeats 4000000 in
theorem fv_areAll (g : Nat) (lb : Array Value) (eg : ∀ args w, (callFunc g args).run Try.prog w = .ok (.enter g args) w) (p : Int → Bool) (A0 : Option Addr) (c0 : Nat) (l0 : List Int) (w : World)
    (hr0 : Kd.C (Kd.int .i64) w A0 l0.length l0) (hc0 : l0.length ≤ c0)
    (hp : ∀ (W : World) (x : Int), Below w.heap.size w W → x ∈ l0 → Calls Try.prog g (#[.int .i64 x] ++ lb) W fun e w' => e = .returned (.bool (p x)) ∧ Below W.heap.size W w') :
    Calls Try.prog 55 #[.slice A0 l0.length c0, .func (.func g) #[] lb] w fun e w' => e = .returned (.bool (l0.all p)) ∧ Below w.heap.size w w' := by
  rw [all_not_any p l0]
  have e1 : ∀ args w, (callFunc 72 args).run Try.prog w = .ok (.enter 72 args) w := enters_of Try.func72 zk rfl
  have hB : Below w.heap.size w (w.alloc (.cells #[.func (.func g) #[] lb] 50)) := below_alloc (Below.refl _ _) _
  have HQ := Aside0.mk (fv_ContainsFunc 72 #[.pointer (some ⟨w.heap.size, 0, none⟩)] e1 (fun x => !p x) A0 c0 l0 (w.alloc (.cells #[.func (.func g) #[] lb] 50)) (Kd.C_below hr0 hB) hc0
    (fun W x hb hx => fv_areAll_1 g lb eg p w.heap.size x W ((hb.cell (p := ⟨w.heap.size, 0, none⟩) (by simp)).trans (by simp)) (hp W x (below_step hB hb) hx)))
  have HB := Aside0.mk hB
  clear hr0 hc0 hp hB
  generalize (l0.any fun x => !p x) = b at HQ ⊢
  go_enter Try.func55, Try.ntmps55
  go_wp2_with (go_at_call 71; refine HQ.out.mono ?_; rintro e w' ⟨rfl, hb1⟩)
  go_ret
  exact ⟨rfl, below_step HB.out hb1⟩
end Go.Proofs.Ytgmciimgmnnhmaa.P
end
section
namespace Go.Proofs.Ytgmciimgmnnhmaa.P
open Go.RowKit Go.Proofs.YtgmciimgmnnhmaaW.PrintWords Go.Proofs.YtgmciimgmnnhmaaW.PrintLast Go.Proofs.YtgmciimgmnnhmaaW.PrintMore
attribute [local go_sem] max2_int min2_int max_two min_two max_three min_three max_four min_four   -- for this text's walks alone
set_option linter.unusedVariables false
set_option linter.unusedSimpArgs false
def impl_within.f (a0 : Int) (a1 : Int) (a2 : Int) : Option (Bool) := if a1 ≤ a0 then (some (decide (a0 ≤ a2))) else (some false)
set_option maxHeartbeats 8000000 in
set_option maxRecDepth 100000 in
theorem impl_within.calls (a0 : Int) (a1 : Int) (a2 : Int) (r : Bool) (w : World) (h : impl_within.f a0 a1 a2 = some r) :
    Calls Try.prog 54 #[.int .i64 a0, .int .i64 a1, .int .i64 a2] w fun e w' => e = .returned (.bool r) ∧ Drawn0 w w' := by
 have H : (if a1 ≤ a0 then (some (decide (a0 ≤ a2))) else (some false)) = some r := h
 clear h
 by_cases c4 : a1 ≤ a0
 ·
  rw [if_pos c4] at H
  have c4b0 : decide (a1 ≤ a0) = true := decide_eq_true c4
  clear c4
  obtain rfl := Option.some.inj H
  go_enter Try.func54, Try.ntmps54
  go_wp2
  go_ret
  exact ⟨by first | rfl | (simp; done) | (simp [*]; done), by repeat (first | exact Drawn0.refl _ | apply Drawn0.step)⟩
 rw [if_neg c4] at H
 have c4b0 : decide (a1 ≤ a0) = false := decide_eq_false c4
 clear c4
 obtain rfl := Option.some.inj H
 go_enter Try.func54, Try.ntmps54
 go_wp2
 go_ret
 exact ⟨by first | rfl | (simp; done) | (simp [*]; done), by repeat (first | exact Drawn0.refl _ | apply Drawn0.step)⟩
end Go.Proofs.Ytgmciimgmnnhmaa.P
end
section
namespace Go.Proofs.Ytgmciimgmnnhmaa.P
open Go.RowKit Go.Proofs.YtgmciimgmnnhmaaW.PrintWords Go.Proofs.YtgmciimgmnnhmaaW.PrintLast Go.Proofs.YtgmciimgmnnhmaaW.PrintMore
attribute [local go_sem] max2_int min2_int max_two min_two max_three min_three max_four min_four   -- for this text's walks alone
set_option linter.unusedVariables false
set_option linter.unusedSimpArgs false
theorem within_f (n lo hi : Int) : impl_within.f n lo hi = some (decide (lo ≤ n ∧ n ≤ hi)) := by
  unfold impl_within.f
  by_cases h : lo ≤ n
  · rw [if_pos h]; simp [h]
  · rw [if_neg h]; simp [h]
theorem within_yes {n lo hi : Int} (h : lo ≤ n ∧ n ≤ hi) : impl_within.f n lo hi = some true := by rw [within_f, decide_eq_true h]
theorem within_not {n lo hi : Int} (h : ¬ (lo ≤ n ∧ n ≤ hi)) : impl_within.f n lo hi = some false := by rw [within_f, decide_eq_false h]
end Go.Proofs.Ytgmciimgmnnhmaa.P
end
section
namespace Go.Proofs.Ytgmciimgmnnhmaa.P
open Go.RowKit Go.Proofs.YtgmciimgmnnhmaaW.PrintWords Go.Proofs.YtgmciimgmnnhmaaW.PrintLast Go.Proofs.YtgmciimgmnnhmaaW.PrintMore
attribute [local go_sem] max2_int min2_int max_two min_two max_three min_three max_four min_four   -- for this text's walks alone
set_option linter.unusedVariables false
set_option linter.unusedSimpArgs false
def impl_length_int64.f (l0 : List Int) : Option (Int) := some (l0.length : Int)
set_option maxHeartbeats 8000000 in
set_option maxRecDepth 100000 in
theorem impl_length_int64.calls (A0 : Option Addr) (c0 : Nat) (l0 : List Int) (r : Int) (w : World) (hr0 : Kd.C (Kd.int .i64) w A0 l0.length l0) (hc0 : l0.length ≤ c0) (h : impl_length_int64.f l0 = some r) :
    Calls Try.prog 39 #[.slice A0 l0.length c0] w fun e w' => e = .returned (.int .i64 r) ∧ Drawn0 w w' := by
 have HR0 := Aside0.mk hr0
 have HC0 := Aside0.mk hc0
 clear hr0 hc0
 have H : (some (l0.length : Int)) = some r := h
 clear h
 obtain rfl := Option.some.inj H
 go_enter Try.func39, Try.ntmps39
 go_wp2
 go_ret
 exact ⟨by first | rfl | (simp; done) | (simp [*]; done), by repeat (first | exact Drawn0.refl _ | apply Drawn0.step)⟩
end Go.Proofs.Ytgmciimgmnnhmaa.P
end
section
namespace Go.Proofs.Ytgmciimgmnnhmaa.P
open Go.RowKit Go.Proofs.YtgmciimgmnnhmaaW.PrintWords Go.Proofs.YtgmciimgmnnhmaaW.PrintLast Go.Proofs.YtgmciimgmnnhmaaW.PrintMore
attribute [local go_sem] max2_int min2_int max_two min_two max_three min_three max_four min_four   -- for this text's walks alone
set_option linter.unusedVariables false
set_option linter.unusedSimpArgs false
def impl_IsGarden.f (l0_0 : List Int) : Option Bool := some (decide (1 ≤ (l0_0.length : Int) ∧ (l0_0.length : Int) ≤ 8) && l0_0.all fun g => decide (1 ≤ g ∧ g ≤ 20))
theorem fv_IsGarden_1 (x : Int) (W : World) :
    Calls Try.prog 56 (#[.int .i64 x] ++ #[]) W fun e w' => e = .returned (.bool (decide (1 ≤ x ∧ x ≤ 20))) ∧ Below W.heap.size W w' := by
  have HQ := Aside0.mk (impl_within.calls x 1 20 _ W (within_f x 1 20))
  generalize decide (1 ≤ x ∧ x ≤ 20) = b at HQ ⊢
  show Calls Try.prog 56 #[.int .i64 x] W _
  go_enter Try.func56, Try.ntmps56
  go_wp2_with (go_at_call 54; refine HQ.out.mono ?_; rintro e w' ⟨rfl, hb1⟩)
  go_ret
  exact ⟨rfl, hb1.below⟩
set_option maxHeartbeats 4000000 in
set_option maxRecDepth 100000 in
theorem impl_IsGarden.calls (A0_0 : Option Addr) (c0_0 : Nat) (l0_0 : List Int) (r : Bool) (w : World) (hr0_0 : Kd.C (Kd.int .i64) w A0_0 l0_0.length l0_0) (hc0_0 : l0_0.length ≤ c0_0) (h : impl_IsGarden.f l0_0 = some r) :
    Calls Try.prog 22 #[.agg #[.slice A0_0 l0_0.length c0_0]] w fun e w' => e = .returned (.bool r) ∧ Below w.heap.size w w' := by
  have hu := Try.underlying26
  obtain rfl := Option.some.inj h
  clear h
  have e1 : ∀ args w, (callFunc 56 args).run Try.prog w = .ok (.enter 56 args) w := enters_of Try.func56 zk rfl
  have HQ := Aside0.mk (fun (W : World) (hb : Below w.heap.size w W) => fv_areAll 56 #[] e1 (fun g => decide (1 ≤ g ∧ g ≤ 20)) A0_0 c0_0 l0_0 W (Kd.C_below hr0_0 hb) hc0_0 (fun W' x _ _ => fv_IsGarden_1 x W'))
  have HL := Aside0.mk (fun (W : World) (hb : Below w.heap.size w W) => impl_length_int64.calls A0_0 c0_0 l0_0 _ W (Kd.C_below hr0_0 hb) hc0_0 rfl)
  have HR := Aside0.mk hr0_0
  clear hr0_0 hc0_0 e1
  have HB := Aside0.mk (Below.refl w.heap.size w)
  generalize l0_0.all (fun g => decide (1 ≤ g ∧ g ≤ 20)) = b at HQ ⊢
  by_cases h1 : 1 ≤ (l0_0.length : Int) ∧ (l0_0.length : Int) ≤ 8
  · have HW := Aside0.mk (fun W => impl_within.calls (l0_0.length : Int) 1 8 _ W (within_yes h1))
    rw [decide_eq_true h1, Bool.true_and]
    clear h1
    go_enter Try.func22, Try.ntmps22
    go_wp2_with (first
      | (go_at_call 39; refine (HL.out _ (by repeat (first | exact HB.out | apply below_alloc | apply pw_below_drewN | apply below_drew1))).mono ?_; rintro e w' ⟨rfl, ⟨n1, rfl⟩⟩)
      | (go_at_call 54; refine (HW.out _).mono ?_; rintro e w' ⟨rfl, ⟨n2, rfl⟩⟩)
      | (go_at_call 55; refine (HQ.out _ (by repeat (first | exact HB.out | apply below_alloc | apply pw_below_drewN | apply below_drew1))).mono ?_; rintro e w' ⟨rfl, hb1⟩))
    go_ret
    exact ⟨rfl, below_step (by repeat (first | exact HB.out | apply below_alloc | apply pw_below_drewN | apply below_drew1)) hb1⟩
  · have HW := Aside0.mk (fun W => impl_within.calls (l0_0.length : Int) 1 8 _ W (within_not h1))
    rw [decide_eq_false h1, Bool.false_and]
    clear h1
    go_enter Try.func22, Try.ntmps22
    go_wp2_with (first
      | (go_at_call 39; refine (HL.out _ (by repeat (first | exact HB.out | apply below_alloc | apply pw_below_drewN | apply below_drew1))).mono ?_; rintro e w' ⟨rfl, ⟨n1, rfl⟩⟩)
      | (go_at_call 54; refine (HW.out _).mono ?_; rintro e w' ⟨rfl, ⟨n2, rfl⟩⟩))
    go_ret
    exact ⟨rfl, by repeat (first | exact HB.out | apply below_alloc | apply pw_below_drewN | apply below_drew1)⟩
end Go.Proofs.Ytgmciimgmnnhmaa.P
end
section
namespace Go.Proofs.Ytgmciimgmnnhmaa.P
open Go.RowKit Go.Proofs.YtgmciimgmnnhmaaW.PrintWords Go.Proofs.YtgmciimgmnnhmaaW.PrintLast Go.Proofs.YtgmciimgmnnhmaaW.PrintMore
attribute [local go_sem] max2_int min2_int max_two min_two max_three min_three max_four min_four   -- for this text's walks alone
set_option linter.unusedVariables false
set_option linter.unusedSimpArgs false
def impl_Garden_many.f (l0_0 : List Int) : Option (Int) := (impl_length_int64.f l0_0).bind fun t102 => (some t102)
set_option maxHeartbeats 8000000 in
set_option maxRecDepth 100000 in
theorem impl_Garden_many.calls (A0_0 : Option Addr) (c0_0 : Nat) (l0_0 : List Int) (r : Int) (w : World) (hr0_0 : Kd.C (Kd.int .i64) w A0_0 l0_0.length l0_0) (hc0_0 : l0_0.length ≤ c0_0) (h : impl_Garden_many.f l0_0 = some r) :
    Calls Try.prog 28 #[.agg #[.slice A0_0 l0_0.length c0_0]] w fun e w' => e = .returned (.int .i64 r) ∧ Below w.heap.size w w' := by
 have hu26 := Try.underlying26
 have HR0_0 := Aside0.mk hr0_0
 have HC0_0 := Aside0.mk hc0_0
 clear hr0_0 hc0_0
 have HB := Aside0.mk (Below.refl w.heap.size w)
 have H : ((impl_length_int64.f l0_0).bind fun t102 => (some t102)) = some r := h
 clear h
 replace H := Option.bind_eq_some_iff.mp H
 obtain ⟨t102, A20, H⟩ := H
 replace H : (some t102) = some r := H
 have A2 := Aside0.mk A20
 clear A20
 obtain rfl := Option.some.inj H
 go_enter Try.func28, Try.ntmps28
 go_wp2_with (first | ((with_reducible refine gate_dst (N := 1) rfl ?_); refine box_event zr (N := 1) zr (cs := #[.slice A0_0 l0_0.length c0_0]) (t := 26) zg ?_; intro gb101 hg w3 hbox hb; have n_ := y4 (below_step (zB) hb) (hbox) ((zS hg : w.heap.size ≤ gb101)) ((zS hg : w.heap.size ≤ gb101)); clear HB; obtain ⟨HB, BK101, GW101, GE101⟩ := n_; clear hb hbox hg; have hcz4_0 := zc BK101.out; have hfz4_0 := blk_frozen BK101.out 0) | ((with_reducible refine gate_callee (f := 39) rfl ?_); refine goesL_ (some 5) rfl rfl Try.func39 zk rfl #[.slice A0_0 l0_0.length c0_0] rfl zA ?_; (with_reducible refine (impl_length_int64.calls _ _ l0_0 t102 _ ?side1 ?side2 A2.out).mono ?_); (case side1 => exact zC (Kd.C_below HR0_0.out HB.out)); (case side2 => exact HC0_0.out); rintro e w' ⟨rfl, ⟨nd, rfl⟩⟩; refine ⟨_, rfl, ?_⟩))
 go_ret
 exact ⟨zE, zB⟩
end Go.Proofs.Ytgmciimgmnnhmaa.P
end
section
namespace Go.Proofs.Ytgmciimgmnnhmaa.P
open Go.RowKit Go.Proofs.YtgmciimgmnnhmaaW.PrintWords Go.Proofs.YtgmciimgmnnhmaaW.PrintLast Go.Proofs.YtgmciimgmnnhmaaW.PrintMore
attribute [local go_sem] max2_int min2_int max_two min_two max_three min_three max_four min_four   -- for this text's walks alone
set_option linter.unusedVariables false
set_option linter.unusedSimpArgs false
def impl_Garden_areHeights.f (l0_0 l1 : List Int) : Option Bool := some (decide ((l1.length : Int) = (l0_0.length : Int)) && l1.all fun g => decide (0 ≤ g ∧ g ≤ 100000))
theorem fv_areHeights_1 (x : Int) (W : World) :
    Calls Try.prog 67 (#[.int .i64 x] ++ #[]) W fun e w' => e = .returned (.bool (decide (0 ≤ x ∧ x ≤ 100000))) ∧ Below W.heap.size W w' := by
  have HQ := Aside0.mk (impl_within.calls x 0 100000 _ W (within_f x 0 100000))
  generalize decide (0 ≤ x ∧ x ≤ 100000) = b at HQ ⊢
  show Calls Try.prog 67 #[.int .i64 x] W _
  go_enter Try.func67, Try.ntmps67
  go_wp2_with (go_at_call 54; refine HQ.out.mono ?_; rintro e w' ⟨rfl, hb1⟩)
  go_ret
  exact ⟨rfl, hb1.below⟩
set_option maxHeartbeats 4000000 in
set_option maxRecDepth 100000 in
theorem impl_Garden_areHeights.calls (A0_0 : Option Addr) (c0_0 : Nat) (l0_0 : List Int) (A1 : Option Addr) (c1 : Nat) (l1 : List Int) (r : Bool) (w : World) (hr0_0 : Kd.C (Kd.int .i64) w A0_0 l0_0.length l0_0) (hc0_0 : l0_0.length ≤ c0_0) (hr1 : Kd.C (Kd.int .i64) w A1 l1.length l1) (hc1 : l1.length ≤ c1) (h : impl_Garden_areHeights.f l0_0 l1 = some r) :
    Calls Try.prog 43 #[.agg #[.slice A0_0 l0_0.length c0_0], .slice A1 l1.length c1] w fun e w' => e = .returned (.bool r) ∧ Below w.heap.size w w' := by
  have hu := Try.underlying26
  obtain rfl := Option.some.inj h
  clear h
  have e1 : ∀ args w, (callFunc 67 args).run Try.prog w = .ok (.enter 67 args) w := enters_of Try.func67 zk rfl
  have HQ := Aside0.mk (fun (W : World) (hb : Below w.heap.size w W) => fv_areAll 67 #[] e1 (fun g => decide (0 ≤ g ∧ g ≤ 100000)) A1 c1 l1 W (Kd.C_below hr1 hb) hc1 (fun W' x _ _ => fv_areHeights_1 x W'))
  have HR0 := Aside0.mk hr0_0
  have HC0 := Aside0.mk hc0_0
  have HR1 := Aside0.mk hr1
  have HC1 := Aside0.mk hc1
  clear hr0_0 hc0_0 hr1 hc1 e1
  have HB := Aside0.mk (Below.refl w.heap.size w)
  generalize l1.all (fun g => decide (0 ≤ g ∧ g ≤ 100000)) = b at HQ ⊢
  by_cases h1 : (l1.length : Int) = (l0_0.length : Int)
  · have h2 : ((l1.length : Int) == (l0_0.length : Int)) = true := beq_iff_eq.mpr h1
    rw [decide_eq_true h1, Bool.true_and]
    clear h1
    go_enter Try.func43, Try.ntmps43
    go_wp2_with (first | ((with_reducible refine gate_dst (N := 2) rfl ?_); refine box_event zr (N := 2) zr (cs := #[.slice A0_0 l0_0.length c0_0]) (t := 26) zg ?_; intro gb hg w1 hbox hb; have n_ := y2 (below_step HB.out hb) hbox; clear HB; obtain ⟨HB, BK⟩ := n_; clear hb hbox hg))
    refine start_ (n := 10) (S := fun w' => w'.cell? ⟨gb, 0, none⟩ = some (.slice A0_0 l0_0.length c0_0)) (ds := [7]) #[false,false,false,false,false,false,false,false,false,false] zk rfl rfl (zc BK.out) (fun hHeld => ?_)
    have n_ := y2 (below_drew1 HB.out) (blk_drew BK.out)
    clear HB BK
    obtain ⟨HB, BK⟩ := n_
    generalize w1.drew = wd at HB BK hHeld ⊢
    refine pure_ (i := 0) (N := some 5) (v := ?_) (a' := ?_) #[true,false,false,false,false,false,false,false,false,false] rfl rfl zk (fun _ _ _ h => h) (Or.inl ⟨by rfl, ?_⟩) ?_ ?_
    rotate_left; exact zp; rotate_left; exact zq
    refine take_ (i := 2) (N := some 7) (v := ?_) (a' := ?_) #[true,false,true,false,false,false,false,false,false,false] rfl rfl zk (fun _ _ _ h => h) (Or.inl ⟨by rfl, ?_⟩) hHeld ?_ ?_
    rotate_left
    · rintro w' s0
      go_simp
      with_reducible rfl
    rotate_left
    exact zq
    refine one_ (i := 1) (N := some 6) #[true,true,true,false,false,false,false,false,false,false] rfl rfl zk (by decide) (fun K hK => ?_)
    refine goes_ Try.func39 zk rfl #[.slice A1 l1.length c1] (by rfl) rfl rfl (by (try simp only [List.map_toArray, List.map_cons, List.map_nil]); first | done | rfl) ?_
    refine (impl_length_int64.calls A1 c1 l1 (l1.length : Int) _ (Kd.C_below HR1.out HB.out) HC1.out rfl).mono ?_
    rintro e w2 ⟨rfl, hb0⟩
    have hb := hb0.below
    have hS := Aside0.mk hHeld
    clear hHeld
    have n_ := y2 (below_step HB.out hb) (blk_below BK.out hb)
    clear HB BK
    obtain ⟨HB, BK⟩ := n_
    refine ⟨_, rfl, ?_⟩
    refine hK.out _ _ ((hb.cell (World.block_lt_of_cell? _ _ hS.out)).trans hS.out) (fun hHeld => ?_)
    clear hK K
    clear hb hb0 hS
    refine norm_ (a' := ?_) ?_ ?_
    rotate_left
    · show Act.put _ (some 6) _ = _
      simp only [Act.put, List.setIfInBounds_toArray, List.set_cons_zero, List.set_cons_succ, i64_w, i32_w]
      rfl
    refine one_ (i := 3) (N := some 8) #[true,true,true,true,false,false,false,false,false,false] rfl rfl zk (by decide) (fun K hK => ?_)
    refine goes_ Try.func28 zk rfl #[.agg #[.slice A0_0 l0_0.length c0_0]] (by rfl) rfl rfl (by (try simp only [List.map_toArray, List.map_cons, List.map_nil]); first | done | rfl) ?_
    refine (impl_Garden_many.calls A0_0 c0_0 l0_0 (l0_0.length : Int) _ (Kd.C_below HR0.out HB.out) HC0.out rfl).mono ?_
    rintro e w3 ⟨rfl, hb⟩
    have hS := Aside0.mk hHeld
    clear hHeld
    have n_ := y2 (below_step HB.out hb) (blk_below BK.out hb)
    clear HB BK
    obtain ⟨HB, BK⟩ := n_
    refine ⟨_, rfl, ?_⟩
    refine hK.out _ _ ((hb.cell (World.block_lt_of_cell? _ _ hS.out)).trans hS.out) (fun hHeld => ?_)
    clear hK K
    clear hb hS
    refine norm_ (a' := ?_) ?_ ?_
    rotate_left
    · show Act.put _ (some 8) _ = _
      simp only [Act.put, List.setIfInBounds_toArray, List.set_cons_zero, List.set_cons_succ, i64_w, i32_w]
      rfl
    refine pure_ (i := 4) (N := some 9) (v := ?_) (a' := ?_) #[true,true,true,true,true,false,false,false,false,false] rfl rfl zk (fun _ _ _ h => h) (Or.inl ⟨by rfl, ?_⟩) ?_ ?_
    rotate_left; exact zp; rotate_left; exact zq
    refine pure_ (i := 5) (N := some 10) (v := ?_) (a' := ?_) #[true,true,true,true,true,true,false,false,false,false] rfl rfl zk (fun _ _ _ h => h) (Or.inl ⟨by rfl, ?_⟩) ?_ ?_
    rotate_left; exact zp; rotate_left; exact zq
    refine pure_ (i := 6) (N := some 11) (v := ?_) (a' := ?_) #[true,true,true,true,true,true,true,false,false,false] rfl rfl zk (fun _ _ _ h => h) (Or.inl ⟨by rfl, ?_⟩) ?_ ?_
    rotate_left; exact zp; rotate_left; exact zq
    refine last_ (i := 7) (N := some 12) #[true,true,true,true,true,true,true,true,false,false] rfl rfl zk (by decide) (fun K hK => ?_)
    refine goes_ Try.func55 zk rfl #[.slice A1 l1.length c1, .func (.func 67) #[] #[]] (by rfl) rfl rfl (by (try simp only [List.map_toArray, List.map_cons, List.map_nil]); first | done | rfl) ?_
    refine (HQ.out _ HB.out).mono ?_
    rintro e w4 ⟨rfl, hb⟩
    have n_ := y2 (below_step HB.out hb) (blk_below BK.out hb)
    clear HB BK
    obtain ⟨HB, BK⟩ := n_
    refine ⟨_, rfl, ?_⟩
    refine hK.out _ _ ?_
    clear hK K
    clear hb hHeld
    refine norm_ (a' := ?_) ?_ ?_
    rotate_left
    · show Act.put _ (some 12) _ = _
      simp only [Act.put, List.setIfInBounds_toArray, List.set_cons_zero, List.set_cons_succ, i64_w, i32_w]
      rfl
    refine pure_ (i := 8) (N := some 13) (v := ?_) (a' := ?_) #[true,true,true,true,true,true,true,true,true,false] rfl rfl zk (fun _ _ _ h => h) (Or.inl ⟨by rfl, ?_⟩) ?_ ?_
    rotate_left; exact zp; rotate_left; exact zq
    refine pure_ (i := 9) (N := some 4) (v := ?_) (a' := ?_) #[true,true,true,true,true,true,true,true,true,true] rfl rfl zk (fun _ _ _ h => h) (Or.inl ⟨by rfl, ?_⟩) ?_ ?_
    rotate_left; exact zp; rotate_left; exact zq
    refine done_ zk ?_
    go_wp2
    go_ret
    exact ⟨rfl, HB.out⟩
  · have h2 : ((l1.length : Int) == (l0_0.length : Int)) = false := beq_eq_false_iff_ne.mpr h1
    rw [decide_eq_false h1, Bool.false_and]
    clear h1
    go_enter Try.func43, Try.ntmps43
    go_wp2_with (first | ((with_reducible refine gate_dst (N := 2) rfl ?_); refine box_event zr (N := 2) zr (cs := #[.slice A0_0 l0_0.length c0_0]) (t := 26) zg ?_; intro gb hg w1 hbox hb; have n_ := y2 (below_step HB.out hb) hbox; clear HB; obtain ⟨HB, BK⟩ := n_; clear hb hbox hg))
    refine start_ (n := 10) (S := fun w' => w'.cell? ⟨gb, 0, none⟩ = some (.slice A0_0 l0_0.length c0_0)) (ds := [7]) #[false,false,false,false,false,false,false,false,false,false] zk rfl rfl (zc BK.out) (fun hHeld => ?_)
    have n_ := y2 (below_drew1 HB.out) (blk_drew BK.out)
    clear HB BK
    obtain ⟨HB, BK⟩ := n_
    generalize w1.drew = wd at HB BK hHeld ⊢
    refine pure_ (i := 0) (N := some 5) (v := ?_) (a' := ?_) #[true,false,false,false,false,false,false,false,false,false] rfl rfl zk (fun _ _ _ h => h) (Or.inl ⟨by rfl, ?_⟩) ?_ ?_
    rotate_left; exact zp; rotate_left; exact zq
    refine take_ (i := 2) (N := some 7) (v := ?_) (a' := ?_) #[true,false,true,false,false,false,false,false,false,false] rfl rfl zk (fun _ _ _ h => h) (Or.inl ⟨by rfl, ?_⟩) hHeld ?_ ?_
    rotate_left
    · rintro w' s0
      go_simp
      with_reducible rfl
    rotate_left
    exact zq
    refine one_ (i := 1) (N := some 6) #[true,true,true,false,false,false,false,false,false,false] rfl rfl zk (by decide) (fun K hK => ?_)
    refine goes_ Try.func39 zk rfl #[.slice A1 l1.length c1] (by rfl) rfl rfl (by (try simp only [List.map_toArray, List.map_cons, List.map_nil]); first | done | rfl) ?_
    refine (impl_length_int64.calls A1 c1 l1 (l1.length : Int) _ (Kd.C_below HR1.out HB.out) HC1.out rfl).mono ?_
    rintro e w2 ⟨rfl, hb0⟩
    have hb := hb0.below
    have hS := Aside0.mk hHeld
    clear hHeld
    have n_ := y2 (below_step HB.out hb) (blk_below BK.out hb)
    clear HB BK
    obtain ⟨HB, BK⟩ := n_
    refine ⟨_, rfl, ?_⟩
    refine hK.out _ _ ((hb.cell (World.block_lt_of_cell? _ _ hS.out)).trans hS.out) (fun hHeld => ?_)
    clear hK K
    clear hb hb0 hS
    refine norm_ (a' := ?_) ?_ ?_
    rotate_left
    · show Act.put _ (some 6) _ = _
      simp only [Act.put, List.setIfInBounds_toArray, List.set_cons_zero, List.set_cons_succ, i64_w, i32_w]
      rfl
    refine one_ (i := 3) (N := some 8) #[true,true,true,true,false,false,false,false,false,false] rfl rfl zk (by decide) (fun K hK => ?_)
    refine goes_ Try.func28 zk rfl #[.agg #[.slice A0_0 l0_0.length c0_0]] (by rfl) rfl rfl (by (try simp only [List.map_toArray, List.map_cons, List.map_nil]); first | done | rfl) ?_
    refine (impl_Garden_many.calls A0_0 c0_0 l0_0 (l0_0.length : Int) _ (Kd.C_below HR0.out HB.out) HC0.out rfl).mono ?_
    rintro e w3 ⟨rfl, hb⟩
    have hS := Aside0.mk hHeld
    clear hHeld
    have n_ := y2 (below_step HB.out hb) (blk_below BK.out hb)
    clear HB BK
    obtain ⟨HB, BK⟩ := n_
    refine ⟨_, rfl, ?_⟩
    refine hK.out _ _ ((hb.cell (World.block_lt_of_cell? _ _ hS.out)).trans hS.out) (fun hHeld => ?_)
    clear hK K
    clear hb hS
    refine norm_ (a' := ?_) ?_ ?_
    rotate_left
    · show Act.put _ (some 8) _ = _
      simp only [Act.put, List.setIfInBounds_toArray, List.set_cons_zero, List.set_cons_succ, i64_w, i32_w]
      rfl
    refine pure_ (i := 4) (N := some 9) (v := ?_) (a' := ?_) #[true,true,true,true,true,false,false,false,false,false] rfl rfl zk (fun _ _ _ h => h) (Or.inl ⟨by rfl, ?_⟩) ?_ ?_
    rotate_left; exact zp; rotate_left; exact zq
    refine pure_ (i := 5) (N := some 10) (v := ?_) (a' := ?_) #[true,true,true,true,true,true,false,false,false,false] rfl rfl zk (fun _ _ _ h => h) (Or.inl ⟨by rfl, ?_⟩) ?_ ?_
    rotate_left; exact zp; rotate_left; exact zq
    refine pure_ (i := 6) (N := some 11) (v := undef) (a' := ?_) #[true,true,true,true,true,true,true,false,false,false] rfl rfl zk (fun _ _ _ h => h) (Or.inr ⟨by rfl, rfl⟩) ?_ ?_
    rotate_left
    exact zq
    refine last_ (i := 7) (N := some 12) #[true,true,true,true,true,true,true,true,false,false] rfl rfl zk (by decide) (fun K hK => ?_)
    refine off_ (by rfl) ?_
    refine hK.out _ _ ?_
    clear hK K hHeld
    refine norm_ (a' := ?_) ?_ ?_
    rotate_left
    · show Act.put _ (some 12) _ = _
      simp only [Act.put, List.setIfInBounds_toArray, List.set_cons_zero, List.set_cons_succ, i64_w, i32_w]
      rfl
    refine pure_ (i := 8) (N := some 13) (v := ?_) (a' := ?_) #[true,true,true,true,true,true,true,true,true,false] rfl rfl zk (fun _ _ _ h => h) (Or.inl ⟨by rfl, ?_⟩) ?_ ?_
    rotate_left; exact zp; rotate_left; exact zq
    refine pure_ (i := 9) (N := some 4) (v := ?_) (a' := ?_) #[true,true,true,true,true,true,true,true,true,true] rfl rfl zk (fun _ _ _ h => h) (Or.inl ⟨by rfl, ?_⟩) ?_ ?_
    rotate_left; exact zp; rotate_left; exact zq
    refine done_ zk ?_
    go_wp2
    go_ret
    exact ⟨rfl, HB.out⟩
end Go.Proofs.Ytgmciimgmnnhmaa.P
end
section
namespace Go.Proofs.Ytgmciimgmnnhmaa.P
open Go.RowKit Go.Proofs.YtgmciimgmnnhmaaW.PrintWords Go.Proofs.YtgmciimgmnnhmaaW.PrintLast Go.Proofs.YtgmciimgmnnhmaaW.PrintMore
attribute [local go_sem] max2_int min2_int max_two min_two max_three min_three max_four min_four   -- for this text's walks alone
set_option linter.unusedVariables false
set_option linter.unusedSimpArgs false
def slices_Clone_Sint64_int64.f (l0 : List Int) : Option (List Int) := if l0.length < 17592186044416 then some l0 else none
set_option maxHeartbeats 8000000 in
set_option maxRecDepth 100000 in
theorem slices_Clone_Sint64_int64.calls (A0 : Option Addr) (c0 : Nat) (l0 : List Int) (r : List Int) (w : World) (hr0 : Kd.C (Kd.int .i64) w A0 l0.length l0) (hc0 : l0.length ≤ c0) (h : slices_Clone_Sint64_int64.f l0 = some r) :
    Calls Try.prog 66 #[.slice A0 l0.length c0] w fun e w' => ∃ v0_ : Value, e = .returned (v0_) ∧ Kd.R (Kd.int .i64) 2 w' w.heap.size (fun _ => True) v0_ r ∧ Below w.heap.size w w' := by
  have hnil := fun (W : World) (a : Option Addr) (n c : Nat) => Lib.run_eql_slice_nil (P := Try.prog) W 24 2 a n c 0 0 Try.underlying24
  unfold slices_Clone_Sint64_int64.f at h
  by_cases c1 : l0.length < 17592186044416
  · rw [if_pos c1] at h
    obtain rfl := Option.some.inj h
    clear h
    have HR0 := Aside0.mk hr0
    have HC0 := Aside0.mk hc0
    have LM := Aside0.mk c1
    have HB := Aside0.mk (Below.refl w.heap.size w)
    cases A0 with
    | none =>
      have h0 : l0 = [] := by
        rcases Nat.eq_zero_or_pos l0.length with h | h
        · exact List.eq_nil_of_length_eq_zero h
        · obtain ⟨ad, e, _⟩ := hr0.2.2 h
          cases e
      subst h0
      clear hr0 hc0 c1
      go_enter Try.func66, Try.ntmps66
      go_wp2
      go_ret
      exact ⟨_, rfl, Kd.R_nil _ _ _ _ _, HB.out⟩
    | some ad =>
      clear hr0 hc0 c1
      go_enter Try.func66, Try.ntmps66
      go_wp2_with (first | ((with_reducible refine gate_dst (N := 5) rfl ?_); refine Kd.R_lit (Kd.int .i64) _ 2 ?hg (N := 5) ?hd (xs := ([] : List Int)) (inner := []) (ok := fun _ => True) (okp := fun _ => True) ?hr ?hp (fun _ hk => hk) trivial (Below.refl _ _) (Nat.le_refl _) (by simp) ?_; (case hd => rfl); (case hg => rfl); (case hr => first | (go_simp; done) | (go_simp; rfl)); (case hp => exact (Reps.none _ _)); intro v109 w3 ho4 hb hg_ hnew_; clear hg_ hnew_; have n_ := y2 (Kd.R_lower ho4 (below_size (zB))) (below_step (zB) hb); clear HB; obtain ⟨HO110, HB⟩ := n_; clear hb ho4) | ((with_reducible refine gate_builtin (b := .append) (xs := #[.tmp 5, .tmp 6]) rfl ?_); at_builtin; refine Kd.R_append_rows (Kd.int .i64) (w0 := w) w.heap.size rfl (.tmp 5) (.tmp 6) 24 2 (.int .i64 0) 8 rfl Try.underlying24 zk rfl (by decide) (by omega) v109 [] l0 _ _ _ (fun _ => True) (fun _ => False) rfl rfl ?aO ?aR (fun _ _ h => h) (fun _ h => h.elim) ?aF ?aB ?aS ?aL ?_; (case aR => repeat (first | exact (Kd.C_below HR0.out HB.out) | (with_reducible refine Kd.C_alloc ?_ _) | (with_reducible refine Kd.C_drewN ?_ _) | (with_reducible refine Kd.C_drew ?_))); (case aB => exact (zB)); (case aF => exact (fun _ _ => trivial)); (case aO => exact (zR HO110.out)); (case aS => exact (below_size (zB))); (case aL => have := LM.out; simp only [List.length_nil]; omega); intro v112 w5 ho hb hg hat; rw [List.nil_append] at ho; have n_ := y2 (hb) (ho); clear HB HO110; obtain ⟨HB, HO113⟩ := n_; clear ho hb hg hat))
      go_ret
      exact ⟨_, rfl, zR HO113.out, zB⟩
  · rw [if_neg c1] at h
    exact absurd h (by simp)
end Go.Proofs.Ytgmciimgmnnhmaa.P
end
section
namespace Go.Proofs.Ytgmciimgmnnhmaa.P
open Go.RowKit Go.Proofs.YtgmciimgmnnhmaaW.PrintWords Go.Proofs.YtgmciimgmnnhmaaW.PrintLast Go.Proofs.YtgmciimgmnnhmaaW.PrintMore
attribute [local go_sem] max2_int min2_int max_two min_two max_three min_three max_four min_four   -- for this text's walks alone
set_option linter.unusedVariables false
set_option linter.unusedSimpArgs false
def impl_Garden_grown.l0 : Nat → Int → List Int → List Int → Int → Int → Option (List Int)
  | 0, _, _, _, _, _ => none
  | k + 1, x2, x7, x13, x14, x15 => if x15 < x14 then (if 0 ≤ x15 then (if x15 < (x13.length : Int) then (if x15 < (x7.length : Int) then (impl_Garden_grown.l0 k x2 (x7.set (x15 : Int).toNat (wrap64 ((rd x7 x15) + (wrap64 ((rd x13 x15) * x2))))) x13 x14 (wrap64 (x15 + 1))) else (none)) else (none)) else (none)) else (some x7)
def impl_Garden_grown.f (k : Nat) (l0_0 : List Int) (l1 : List Int) (a2 : Int) : Option (List Int) := (slices_Clone_Sint64_int64.f l1).bind fun t102 => (impl_Garden_grown.l0 k a2 t102 l0_0 (l0_0.length : Int) 0)
theorem impl_Garden_grown.mono_l : ∀ k, (∀ y0 y1 y2 y3 y4, LeO (impl_Garden_grown.l0 k y0 y1 y2 y3 y4) (impl_Garden_grown.l0 (k + 1) y0 y1 y2 y3 y4))
  | 0 => fun _ _ _ _ _ r h => by simp [impl_Garden_grown.l0] at h
  | k + 1 => by
    have ih0 := impl_Garden_grown.mono_l k
    · intro y0 y1 y2 y3 y4
      unfold impl_Garden_grown.l0
      repeat' first | (with_reducible exact ih0 _ _ _ _ _) | (with_reducible exact LeO.refl _) | (with_reducible exact LeO.none _) | (with_reducible refine LeO.ite ?_ ?_) | (with_reducible refine LeO.bind ?_ (fun _ => ?_)) | exact ih0 _ _ _ _ _ | exact LeO.none _ | refine LeO.ite ?_ ?_ | refine LeO.bind ?_ (fun _ => ?_)
theorem impl_Garden_grown.mono : ∀ a0 a1 a2 k, LeO (impl_Garden_grown.f k a0 a1 a2) (impl_Garden_grown.f (k + 1) a0 a1 a2) := by
  intro a0 a1 a2 k
  have ih0 := impl_Garden_grown.mono_l k
  unfold impl_Garden_grown.f
  repeat' first | (with_reducible exact ih0 _ _ _ _ _) | (with_reducible exact LeO.refl _) | (with_reducible exact LeO.none _) | (with_reducible refine LeO.ite ?_ ?_) | (with_reducible refine LeO.bind ?_ (fun _ => ?_)) | exact ih0 _ _ _ _ _ | exact LeO.none _ | refine LeO.ite ?_ ?_ | refine LeO.bind ?_ (fun _ => ?_)
set_option maxHeartbeats 8000000 in
set_option maxRecDepth 100000 in
theorem impl_Garden_grown.calls (k : Nat) (A0_0 : Option Addr) (c0_0 : Nat) (l0_0 : List Int) (A1 : Option Addr) (c1 : Nat) (l1 : List Int) (a2 : Int) (r : List Int) (w : World) (hr0_0 : Kd.C (Kd.int .i64) w A0_0 l0_0.length l0_0) (hc0_0 : l0_0.length ≤ c0_0) (hr1 : Kd.C (Kd.int .i64) w A1 l1.length l1) (hc1 : l1.length ≤ c1) (h : impl_Garden_grown.f k l0_0 l1 a2 = some r) :
    Calls Try.prog 44 #[.agg #[.slice A0_0 l0_0.length c0_0], .slice A1 l1.length c1, .int .i64 a2] w fun e w' => ∃ v0_ : Value, e = .returned (v0_) ∧ Kd.R (Kd.int .i64) 2 w' w.heap.size (fun _ => True) v0_ r ∧ Below w.heap.size w w' := by
 have hu26 := Try.underlying26
 have HR0_0 := Aside0.mk hr0_0
 have HC0_0 := Aside0.mk hc0_0
 clear hr0_0 hc0_0
 have HR1 := Aside0.mk hr1
 have HC1 := Aside0.mk hc1
 clear hr1 hc1
 have HB := Aside0.mk (Below.refl w.heap.size w)
 have H : ((slices_Clone_Sint64_int64.f l1).bind fun t102 => (impl_Garden_grown.l0 k a2 t102 l0_0 (l0_0.length : Int) 0)) = some r := h
 clear h
 replace H := Option.bind_eq_some_iff.mp H
 obtain ⟨t102, A40, H⟩ := H
 replace H : (impl_Garden_grown.l0 k a2 t102 l0_0 (l0_0.length : Int) 0) = some r := H
 have A4 := Aside0.mk A40
 clear A40
 have H' := Aside0.mk H
 clear H
 go_enter Try.func44, Try.ntmps44
 go_wp2_with (first | ((with_reducible refine gate_dst (N := 3) rfl ?_); refine box_event zr (N := 3) zr (cs := #[.slice A0_0 l0_0.length c0_0]) (t := 26) zg ?_; intro gb101 hg w5 hbox hb; have n_ := y4 (below_step (zB) hb) (hbox) ((zS hg : w.heap.size ≤ gb101)) ((zS hg : w.heap.size ≤ gb101)); clear HB; obtain ⟨HB, BK101, GW101, GE101⟩ := n_; clear hb hbox hg) | ((with_reducible refine gate_callee (f := 66) rfl ?_); refine goesL_ (some 11) rfl rfl Try.func66 zk rfl #[.slice A1 l1.length c1] rfl zA ?_; (with_reducible refine (slices_Clone_Sint64_int64.calls _ _ l1 t102 _ ?side1 ?side2 A4.out).mono ?_); (case side1 => exact zC (Kd.C_below HR1.out HB.out)); (case side2 => exact HC1.out); rintro e w6 ⟨v103, rfl, ho0, hb⟩; refine ⟨_, rfl, ?_⟩; have n_ := y3 (Kd.R_lower ho0 (below_size (zB))) (zb BK101.out hb) (below_step (zB) hb); clear BK101 HB; obtain ⟨HO104, BK101, HB⟩ := n_; (try clear hb); (try clear hb2); (try clear hk); (try clear hi); (try clear ho0); have hcz7_0 := zc BK101.out; have hfz7_0 := blk_frozen BK101.out 0))
 go_loopg [15] k (fun kq v15 w' => ∃ (x7_1 : List Int) (x15_1 : Int), v15 = .int .i64 x15_1 ∧ Aside0 (impl_Garden_grown.l0 kq a2 x7_1 l0_0 (l0_0.length : Int) x15_1 = some r) ∧ Aside0 (kq ≤ k) ∧ Aside0 (Kd.R (Kd.int .i64) 2 w' w.heap.size (fun _ => True) v103 x7_1) ∧ Aside0 (w'.heap[gb101]? = some (.cells #[(.slice A0_0 l0_0.length c0_0)] 26 (0, 0))) ∧ Aside0 (Below w.heap.size w w'))
 case atStart => exact ⟨(t102), (0), zF, H', ⟨Nat.le_refl _⟩, ⟨zR HO104.out⟩, ⟨zG BK101.out⟩, ⟨zB⟩⟩
 clear H'
 try clear c1
 try clear hcz7_0
 try clear hfz7_0
 obtain ⟨x7_1, x15_1, rfl, HA, HK1, HO_7, BK101, HB⟩ := hrel
 cases gk with
 | zero => exact absurd HA.out (by simp [impl_Garden_grown.l0])
 | succ k1 =>
   have H := HA.out
   clear HA
   simp only [impl_Garden_grown.l0] at H
   by_cases c8 : x15_1 < (l0_0.length : Int)
   · rw [if_pos c8] at H
     have c8b0 : decide (x15_1 < (l0_0.length : Int)) = true := decide_eq_true c8
     clear c8
     by_cases c9 : 0 ≤ x15_1
     · rw [if_pos c9] at H
       have c9b0 : decide (0 ≤ x15_1) = true := decide_eq_true c9
       clear c9
       by_cases c10 : x15_1 < (l0_0.length : Int)
       · rw [if_pos c10] at H
         have c10b0 : decide (x15_1 < (l0_0.length : Int)) = true := decide_eq_true c10
         clear c10
         by_cases c11 : x15_1 < (x7_1.length : Int)
         · rw [if_pos c11] at H
           have c11b0 : decide (x15_1 < (x7_1.length : Int)) = true := decide_eq_true c11
           clear c11
           obtain ⟨y107, hy107⟩ : ∃ y_ : List Int, y_ = (x7_1.set (x15_1 : Int).toNat (wrap64 ((rd x7_1 x15_1) + (wrap64 ((rd l0_0 x15_1) * a2))))) := ⟨_, rfl⟩
           replace H : (impl_Garden_grown.l0 k1 a2 y107 l0_0 (l0_0.length : Int) (wrap64 (x15_1 + 1))) = some r := zH hy107
           have Ny107 := Aside0.mk hy107
           clear hy107
           have H' := Aside0.mk H
           clear H
           have p105 : 0 ≤ (x15_1 : Int) := zD
           have q105 : x15_1 < (l0_0.length : Int) := zD
           obtain ⟨ad105, e105, hx105_0⟩ := Kd.at_int HR0_0.out x15_1 p105 q105
           cases e105
           replace hx105_0 := (HB.out.cell (World.block_lt_of_cell? w _ hx105_0)).trans hx105_0
           replace p105 := eq_true p105
           replace q105 := eq_true q105
           obtain ⟨Ao13, co13, eo13⟩ := Kd.R_slice HO_7.out
           subst eo13
           have p106 : 0 ≤ (x15_1 : Int) := zD
           have q106 : x15_1 < (x7_1.length : Int) := zD
           obtain ⟨ad106, e106, hx106_0⟩ := Kd.at_int (Kd.R_reads' HO_7.out).2.2 x15_1 p106 q106
           cases e106
           replace p106 := eq_true p106
           replace q106 := eq_true q106
           have p12 : 0 ≤ (x15_1 : Int) := zD
           have q12 : (x15_1 : Int) < ((x7_1.length : Int) : Int) := zD
           obtain ⟨go12, co12, eo12, gb12, gl12, cl12, HG12⟩ := Kd.R_form HO_7.out (by omega)
           (first | cases eo12 | (injection eo12 with ea_ en_ ec_; (first | subst ea_ | (injection ea_ with ea_; subst ea_)); subst ec_; clear en_))
           have GB12 := Aside0.mk gb12
           have GG12 := Aside0.mk HG12
           clear gb12 gl12 HG12
           (first | simp only [add_plain] at hx106_0 | skip)
           obtain ⟨hx12_0, hf12_0⟩ := Kd.R_celln 0 HO_7.out (x15_1 : Int) p12 q12
           replace p12 := eq_true p12
           replace q12 := eq_true q12
           have HP14 := Kd.R_putg HO_7.out (x15_1 : Int) (wrap64 ((rd x7_1 x15_1) + (wrap64 ((rd l0_0 x15_1) * a2))))
           go_wp2_with (first | ((with_reducible refine gate_store (t := 2) (p := 28) rfl ?_); refine store_event (t := 2) (p := 28) (v := ?vo_w15) (w1 := (wr.setCell ⟨go12, (x15_1 : Int).toNat, none⟩ (.int .i64 (wrap64 ((rd x7_1 x15_1) + (wrap64 ((rd l0_0 x15_1) * a2))))))) ?hg ?ho ?hn ?hr ?_; (case ho => rfl); (case hg => rfl); (case hn => rfl); (case hr => first | (go_simp; done) | (go_simp; rfl)); intro w15 hw; have hg : wr.grownBy w15 (some go12) := (by rw [hw]; exact HP14.2); have hp_ : Kd.R (Kd.int .i64) 2 w15 w.heap.size (fun _ => True) (.slice (some ⟨go12, 0, none⟩) x7_1.length co13) y107 := (by rw [hw, Ny107.out]; exact HP14.1); clear HP14; have n_ := y3 (hp_) (blk_grown (g := gb101) (o := .cells #[.slice (some ad105) l0_0.length c0_0] 26 (0, 0)) (zG BK101.out) hg (Kd.R_ne HO_7.out BK101.out (by decide))) ((by rw [hw]; exact below_set (HB.out) GB12.out : Below w.heap.size w w15)); clear HO_7 BK101 HB; obtain ⟨HO_7, BK101, HB⟩ := n_; clear hg hw hp_))
           go_roundg k1
           case measure => have := HK1.out; omega
           case rel => exact ⟨(y107), (wrap64 (x15_1 + 1)), zF, H', ⟨by have := HK1.out; omega⟩, ⟨zR HO_7.out⟩, ⟨zG BK101.out⟩, ⟨zB⟩⟩
         · rw [if_neg c11] at H
           exact absurd H (by simp)
       · rw [if_neg c10] at H
         exact absurd H (by simp)
     · rw [if_neg c9] at H
       exact absurd H (by simp)
   · rw [if_neg c8] at H
     have c8b0 : decide (x15_1 < (l0_0.length : Int)) = false := decide_eq_false c8
     clear c8
     obtain rfl := Option.some.inj H
     go_wp2
     go_ret
     exact ⟨_, zE, zR HO_7.out, zB⟩
end Go.Proofs.Ytgmciimgmnnhmaa.P
end
section
namespace Go.Proofs.Ytgmciimgmnnhmaa.P
open Go.RowKit Go.Proofs.YtgmciimgmnnhmaaW.PrintWords Go.Proofs.YtgmciimgmnnhmaaW.PrintLast Go.Proofs.YtgmciimgmnnhmaaW.PrintMore
attribute [local go_sem] max2_int min2_int max_two min_two max_three min_three max_four min_four   -- for this text's walks alone
set_option linter.unusedVariables false
set_option linter.unusedSimpArgs false
def speedT (R : List Int) (x : Int) : List Int → Int → Int → Int
  | [], _, b => b
  | h :: l, i, b => speedT R x l (i + 1) (if x ≤ h ∧ (b = -1 ∨ rd R b < rd R i) then i else b)
def grT (R H : List Int) (a : Int) : List Int := List.zipWith (fun h r => wrap64 (h + wrap64 (r * a))) H R
theorem grT_length {R H : List Int} (a : Int) (h : H.length = R.length) : (grT R H a).length = R.length := by simp [grT, h]
theorem grown_l0 (R : List Int) (a : Int) (hR : R.length ≤ 9223372036854775807) : ∀ (d n : Nat) (X : List Int), n + d = R.length → X.length = R.length →
    impl_Garden_grown.l0 (d + 1) a X R (R.length : Int) (n : Int) = some (X.take n ++ grT (R.drop n) (X.drop n) a) := by
  intro d
  induction d with
  | zero =>
    intro n X hn hX
    rw [impl_Garden_grown.l0, if_neg (by omega), List.take_of_length_le (by omega), List.drop_of_length_le (by omega), List.drop_of_length_le (by omega)]
    simp [grT]
  | succ d ih =>
    intro n X hn hX
    have h1 : n < R.length := by omega
    have h2 : n < X.length := by omega
    have e1 : rd X (n : Int) = X[n] := by simp [rd, h2]
    have e2 : rd R (n : Int) = R[n] := by simp [rd, h1]
    rw [impl_Garden_grown.l0, if_pos (by omega), if_pos (by omega), if_pos (by omega), if_pos (by omega), e1, e2, Int.toNat_natCast, show wrap64 ((n : Int) + 1) = ((n + 1 : Nat) : Int) by unfold wrap64; omega]
    rw [ih (n + 1) _ (by omega) (by simpa using hX)]
    congr 1
    rw [List.drop_eq_getElem_cons h1, List.drop_eq_getElem_cons h2, List.take_succ_eq_append_getElem (by simpa using h2), List.take_set_of_le (by omega), List.drop_set_of_lt (by omega), List.getElem_set_self, List.append_assoc]
    rfl
theorem grown_f (R H : List Int) (a : Int) (hl : H.length = R.length) (hs : H.length < 17592186044416) : impl_Garden_grown.f (R.length + 1) R H a = some (grT R H a) := by
  unfold impl_Garden_grown.f slices_Clone_Sint64_int64.f
  rw [if_pos hs, Option.bind_some]
  have := grown_l0 R a (by omega) R.length 0 H (by omega) hl
  rw [List.take_zero, List.drop_zero, List.drop_zero, List.nil_append] at this
  exact this
theorem drop_rdG {l : List Int} {i : Nat} (h : i < l.length) : l.drop i = rd l (i : Int) :: l.drop (i + 1) := by
  rw [List.drop_eq_getElem_cons h]
  simp [rd, h]
set_option maxHeartbeats 8000000 in
set_option maxRecDepth 100000 in
theorem impl_bySpeed_1.calls (A0 : Option Addr) (c0 : Nat) (R : List Int) (x : Int) (A1 : Option Addr) (c1 : Nat) (H : List Int) (gx gg : Nat) (w : World) (hr0 : Kd.C (Kd.int .i64) w A0 R.length R) (hr1 : Kd.C (Kd.int .i64) w A1 H.length H) (hl : H.length ≤ R.length) (hx : w.heap[gx]? = some (.cells #[.int .i64 x] 2 (0, 0))) (hg : w.heap[gg]? = some (.cells #[.slice A0 R.length c0] 26 (0, 0))) :
    Calls Try.prog 68 #[.slice A1 H.length c1, .pointer (some ⟨gx, 0, none⟩), .pointer (some ⟨gg, 0, none⟩)] w fun e w' => e = .returned (.int .i64 (speedT R x H 0 (-1))) ∧ Below w.heap.size w w' := by
  have hu26 := Try.underlying26
  have HR := Aside0.mk hr0
  have HH := Aside0.mk hr1
  have HX := Aside0.mk hx
  have HG := Aside0.mk hg
  have HL := Aside0.mk hl
  have HM := Aside0.mk (show R.length ≤ 9223372036854775807 from hr0.2.1)
  have HB := Aside0.mk (Below.refl w.heap.size w)
  have HV := Aside0.mk (show speedT R x (H.drop 0) ((0 : Nat) : Int) (-1) = speedT R x H 0 (-1) from rfl)
  clear hr0 hr1 hl hx hg
  generalize speedT R x H 0 (-1) = r at HV ⊢
  go_enter Try.func68, Try.ntmps68
  go_wp2
  go_loopg [5, 10] (H.length + 1) (fun kq v5 v10 w' => ∃ (i : Nat) (b : Int), v5 = .int .i64 b ∧ v10 = .int .i64 (i : Int) ∧ Aside0 (i + kq = H.length + 1) ∧ Aside0 (speedT R x (H.drop i) (i : Int) b = r) ∧ Aside0 (b = -1 ∨ (0 ≤ b ∧ b < (i : Int))) ∧ Aside0 (Below w.heap.size w w'))
  case atStart => exact ⟨0, -1, rfl, rfl, ⟨by omega⟩, HV, ⟨.inl rfl⟩, HB⟩
  case round =>
    clear HV HB
    obtain ⟨i, b, rfl, rfl, HI, HV, HJ, HB⟩ := hrel
    by_cases hi : (i : Int) < (H.length : Int)
    · have hi1 : decide ((i : Int) < (H.length : Int)) = true := decide_eq_true hi
      have hlt : i < H.length := by omega
      obtain ⟨k1, rfl⟩ : ∃ k1, gk = k1 + 1 := ⟨gk - 1, by have := HI.out; omega⟩
      obtain ⟨ah, e1, hh⟩ := Kd.at_int HH.out (i : Int) (by omega) hi
      cases e1
      have hi2 : (i : Int) < (R.length : Int) := by have := HL.out; omega
      obtain ⟨ar, e2, hri⟩ := Kd.at_int HR.out (i : Int) (by omega) hi2
      cases e2
      have hh := pw_cell_below HB.out hh
      have hri := pw_cell_below HB.out hri
      simp only [Int.toNat_natCast] at hh hri
      have hcx := zc (blk_below HX.out HB.out)
      have hcg := zc (blk_below HG.out HB.out)
      have hv := HV.out
      rw [drop_rdG hlt, speedT] at hv
      have HW := Aside0.mk hv
      have HJ1 := Aside0.mk (show wrap64 ((i : Int) + 1) = ((i + 1 : Nat) : Int) by have := HM.out; unfold wrap64; omega)
      have c1_ := eq_true hi
      have c2_ := eq_true hi2
      have c3_ := eq_true (show (0 : Int) ≤ (i : Int) by omega)
      clear hv HV
      by_cases h1 : x ≤ rd H (i : Int)
      · have d1 : decide (rd H (i : Int) ≥ x) = true := decide_eq_true h1
        have d1b : decide (x ≤ rd H (i : Int)) = true := decide_eq_true h1
        by_cases h2 : b = -1
        · subst h2
          have HV := Aside0.mk (show speedT R x (H.drop (i + 1)) ((i + 1 : Nat) : Int) (i : Int) = r by have := HW.out; rw [if_pos ⟨h1, .inl rfl⟩] at this; exact_mod_cast this)
          clear HW h1 hi hi2
          go_wp2
          repeat (go_quiet (fail); try go_wp2)
          go_roundg k1
          case measure => omega
          case rel => exact ⟨i + 1, (i : Int), rfl, by rw [HJ1.out], ⟨by have := HI.out; omega⟩, HV, ⟨.inr ⟨by omega, by omega⟩⟩, ⟨zB⟩⟩
        · have hj := HJ.out
          have hb0 : 0 ≤ b := by omega
          have hb1 : b < (R.length : Int) := by omega
          obtain ⟨ab, e3, hrb⟩ := Kd.at_int HR.out b hb0 hb1
          have e3 : ar = ab := by injection e3
          subst e3
          have hrb := pw_cell_below HB.out hrb
          have c4_ := eq_true hb0
          have c5_ := eq_true hb1
          have d2 : (b == -1) = false := beq_eq_false_iff_ne.mpr h2
          have d2b : (b = -1) = False := eq_false h2
          by_cases h3 : rd R b < rd R (i : Int)
          · have d3 : decide (rd R (i : Int) > rd R b) = true := decide_eq_true h3
            have d3b : decide (rd R b < rd R (i : Int)) = true := decide_eq_true h3
            have HV := Aside0.mk (show speedT R x (H.drop (i + 1)) ((i + 1 : Nat) : Int) (i : Int) = r by have := HW.out; rw [if_pos ⟨h1, .inr h3⟩] at this; exact_mod_cast this)
            clear HW h1 h2 h3 hi hi2 hb0 hb1 hj
            go_wp2
            repeat (go_quiet (fail); try go_wp2)
            go_roundg k1
            case measure => omega
            case rel => exact ⟨i + 1, (i : Int), rfl, by rw [HJ1.out], ⟨by have := HI.out; omega⟩, HV, ⟨.inr ⟨by omega, by omega⟩⟩, ⟨zB⟩⟩
          · have d3 : decide (rd R (i : Int) > rd R b) = false := decide_eq_false h3
            have d3b : decide (rd R b < rd R (i : Int)) = false := decide_eq_false h3
            have HV := Aside0.mk (show speedT R x (H.drop (i + 1)) ((i + 1 : Nat) : Int) b = r by have := HW.out; rw [if_neg (by rintro ⟨_, q | q⟩; exact h2 q; exact h3 q)] at this; exact_mod_cast this)
            clear HW h1 h2 h3 hi hi2 hb0 hb1 hj
            go_wp2
            repeat (go_quiet (fail); try go_wp2)
            go_roundg k1
            case measure => omega
            case rel => exact ⟨i + 1, b, rfl, by rw [HJ1.out], ⟨by have := HI.out; omega⟩, HV, ⟨by have := HJ.out; omega⟩, ⟨zB⟩⟩
      · have d1 : decide (rd H (i : Int) ≥ x) = false := decide_eq_false h1
        have d1b : decide (x ≤ rd H (i : Int)) = false := decide_eq_false h1
        have HV := Aside0.mk (show speedT R x (H.drop (i + 1)) ((i + 1 : Nat) : Int) b = r by have := HW.out; rw [if_neg (fun q => h1 q.1)] at this; exact_mod_cast this)
        clear HW h1 hi hi2
        go_wp2
        repeat (go_quiet (fail); try go_wp2)
        go_roundg k1
        case measure => omega
        case rel => exact ⟨i + 1, b, rfl, by rw [HJ1.out], ⟨by have := HI.out; omega⟩, HV, ⟨by have := HJ.out; omega⟩, ⟨zB⟩⟩
    · have hi1 : decide ((i : Int) < (H.length : Int)) = false := decide_eq_false hi
      have hv := HV.out
      rw [List.drop_of_length_le (by omega), speedT] at hv
      subst hv
      go_wp2
      go_ret
      exact ⟨rfl, HB.out⟩
theorem impl_bySpeed.calls (A0 : Option Addr) (c0 : Nat) (R : List Int) (x : Int) (w : World) :
    Calls Try.prog 47 #[.agg #[.slice A0 R.length c0], .int .i64 x] w fun e w' => ∃ gx gg, e = .returned (.func (.func 68) #[] #[.pointer (some ⟨gx, 0, none⟩), .pointer (some ⟨gg, 0, none⟩)]) ∧ w'.heap[gx]? = some (.cells #[.int .i64 x] 2 (0, 0)) ∧ w'.heap[gg]? = some (.cells #[.slice A0 R.length c0] 26 (0, 0)) ∧ Below w.heap.size w w' := by
  have HB := Aside0.mk (Below.refl w.heap.size w)
  go_enter Try.func47, Try.ntmps47
  go_wp2_with (first | ((with_reducible refine gate_dst (N := 2) rfl ?_); refine box_event zr (N := 2) zr (cs := #[.slice A0 R.length c0]) (t := 26) zg ?_; intro gg hg w1 hbox hb; have n_ := y2 (below_step HB.out hb) hbox; clear HB; obtain ⟨HB, BG⟩ := n_; clear hb hbox hg) | ((with_reducible refine gate_dst (N := 3) rfl ?_); refine box_event zr (N := 3) zr (cs := #[.int .i64 x]) (t := 2) zg ?_; intro gx hg w2 hbox hb; have n_ := y3 (below_step HB.out hb) (blk_below BG.out hb) hbox; clear HB BG; obtain ⟨HB, BG, BX⟩ := n_; clear hb hbox hg))
  go_ret
  exact ⟨_, _, rfl, BX.out, BG.out, HB.out⟩
end Go.Proofs.Ytgmciimgmnnhmaa.P
end
section
namespace Go.Proofs.Ytgmciimgmnnhmaa.P
open Go.RowKit Go.Proofs.YtgmciimgmnnhmaaW.PrintWords Go.Proofs.YtgmciimgmnnhmaaW.PrintLast Go.Proofs.YtgmciimgmnnhmaaW.PrintMore
attribute [local go_sem] max2_int min2_int max_two min_two max_three min_three max_four min_four   -- for this text's walks alone
set_option linter.unusedVariables false
set_option linter.unusedSimpArgs false
def impl_gardenCode.f (l0_0 : List Int) (a1 : Bool) : Option (Int) := (impl_IsGarden.f l0_0).bind fun t102 => (if t102 = true then (if a1 = true then (some 0) else (some 2)) else (some 1))
set_option maxHeartbeats 8000000 in
set_option maxRecDepth 100000 in
theorem impl_gardenCode.calls (A0_0 : Option Addr) (c0_0 : Nat) (l0_0 : List Int) (a1 : Bool) (r : Int) (w : World) (hr0_0 : Kd.C (Kd.int .i64) w A0_0 l0_0.length l0_0) (hc0_0 : l0_0.length ≤ c0_0) (h : impl_gardenCode.f l0_0 a1 = some r) :
    Calls Try.prog 26 #[.agg #[.slice A0_0 l0_0.length c0_0], .bool a1] w fun e w' => e = .returned (.int .i64 r) ∧ Below w.heap.size w w' := by
 have hu26 := Try.underlying26
 have HR0_0 := Aside0.mk hr0_0
 have HC0_0 := Aside0.mk hc0_0
 clear hr0_0 hc0_0
 have HB := Aside0.mk (Below.refl w.heap.size w)
 have H : ((impl_IsGarden.f l0_0).bind fun t102 => (if t102 = true then (if a1 = true then (some 0) else (some 2)) else (some 1))) = some r := h
 clear h
 replace H := Option.bind_eq_some_iff.mp H
 obtain ⟨t102, A30, H⟩ := H
 replace H : (if t102 = true then (if a1 = true then (some 0) else (some 2)) else (some 1)) = some r := H
 have A3 := Aside0.mk A30
 clear A30
 by_cases c4 : t102 = true
 ·
  subst c4
  have H1 : (if a1 = true then (some 0) else (some 2)) = some r := by rw [if_pos rfl] at H; exact H
  clear H
  have H := H1
  clear H1
  by_cases c5 : a1 = true
  ·
   subst c5
   have H1 : (some 0) = some r := by rw [if_pos rfl] at H; exact H
   clear H
   have H := H1
   clear H1
   obtain rfl := Option.some.inj H
   go_enter Try.func26, Try.ntmps26
   go_wp2_with (first | ((with_reducible refine gate_dst (N := 2) rfl ?_); refine box_event zr (N := 2) zr (cs := #[.slice A0_0 l0_0.length c0_0]) (t := 26) zg ?_; intro gb101 hg w6 hbox hb; have n_ := y4 (below_step (zB) hb) (hbox) ((zS hg : w.heap.size ≤ gb101)) ((zS hg : w.heap.size ≤ gb101)); clear HB; obtain ⟨HB, BK101, GW101, GE101⟩ := n_; clear hb hbox hg; have hcz7_0 := zc BK101.out; have hfz7_0 := blk_frozen BK101.out 0) | ((with_reducible refine gate_callee (f := 22) rfl ?_); refine goesL_ (some 7) rfl rfl Try.func22 zk rfl #[.agg #[.slice A0_0 l0_0.length c0_0]] rfl zA ?_; (with_reducible refine (impl_IsGarden.calls _ _ l0_0 true _ ?side1 ?side2 A3.out).mono ?_); (case side1 => exact zC (Kd.C_below HR0_0.out HB.out)); (case side2 => exact HC0_0.out); rintro e w8 ⟨rfl, hb⟩; refine ⟨_, rfl, ?_⟩; have n_ := y2 (zb BK101.out hb) (below_step (zB) hb); clear BK101 HB; obtain ⟨BK101, HB⟩ := n_; (try clear hb); (try clear hb2); (try clear hk); (try clear hi)))
   go_ret
   exact ⟨zE, zB⟩
  replace c5 := Bool.eq_false_iff.mpr c5
  subst c5
  have H1 : (some 2) = some r := by rw [if_neg (show ¬ (false = true) by decide)] at H; exact H
  clear H
  have H := H1
  clear H1
  obtain rfl := Option.some.inj H
  go_enter Try.func26, Try.ntmps26
  go_wp2_with (first | ((with_reducible refine gate_dst (N := 2) rfl ?_); refine box_event zr (N := 2) zr (cs := #[.slice A0_0 l0_0.length c0_0]) (t := 26) zg ?_; intro gb101 hg w9 hbox hb; have n_ := y4 (below_step (zB) hb) (hbox) ((zS hg : w.heap.size ≤ gb101)) ((zS hg : w.heap.size ≤ gb101)); clear HB; obtain ⟨HB, BK101, GW101, GE101⟩ := n_; clear hb hbox hg; have hcz10_0 := zc BK101.out; have hfz10_0 := blk_frozen BK101.out 0) | ((with_reducible refine gate_callee (f := 22) rfl ?_); refine goesL_ (some 7) rfl rfl Try.func22 zk rfl #[.agg #[.slice A0_0 l0_0.length c0_0]] rfl zA ?_; (with_reducible refine (impl_IsGarden.calls _ _ l0_0 true _ ?side1 ?side2 A3.out).mono ?_); (case side1 => exact zC (Kd.C_below HR0_0.out HB.out)); (case side2 => exact HC0_0.out); rintro e w11 ⟨rfl, hb⟩; refine ⟨_, rfl, ?_⟩; have n_ := y2 (zb BK101.out hb) (below_step (zB) hb); clear BK101 HB; obtain ⟨BK101, HB⟩ := n_; (try clear hb); (try clear hb2); (try clear hk); (try clear hi)))
  go_ret
  exact ⟨zE, zB⟩
 replace c4 := Bool.eq_false_iff.mpr c4
 subst c4
 have H1 : (some 1) = some r := by rw [if_neg (show ¬ (false = true) by decide)] at H; exact H
 clear H
 have H := H1
 clear H1
 obtain rfl := Option.some.inj H
 go_enter Try.func26, Try.ntmps26
 go_wp2_with (first | ((with_reducible refine gate_dst (N := 2) rfl ?_); refine box_event zr (N := 2) zr (cs := #[.slice A0_0 l0_0.length c0_0]) (t := 26) zg ?_; intro gb101 hg w12 hbox hb; have n_ := y4 (below_step (zB) hb) (hbox) ((zS hg : w.heap.size ≤ gb101)) ((zS hg : w.heap.size ≤ gb101)); clear HB; obtain ⟨HB, BK101, GW101, GE101⟩ := n_; clear hb hbox hg; have hcz13_0 := zc BK101.out; have hfz13_0 := blk_frozen BK101.out 0) | ((with_reducible refine gate_callee (f := 22) rfl ?_); refine goesL_ (some 7) rfl rfl Try.func22 zk rfl #[.agg #[.slice A0_0 l0_0.length c0_0]] rfl zA ?_; (with_reducible refine (impl_IsGarden.calls _ _ l0_0 false _ ?side1 ?side2 A3.out).mono ?_); (case side1 => exact zC (Kd.C_below HR0_0.out HB.out)); (case side2 => exact HC0_0.out); rintro e w14 ⟨rfl, hb⟩; refine ⟨_, rfl, ?_⟩; have n_ := y2 (zb BK101.out hb) (below_step (zB) hb); clear BK101 HB; obtain ⟨BK101, HB⟩ := n_; (try clear hb); (try clear hb2); (try clear hk); (try clear hi)))
 go_ret
 exact ⟨zE, zB⟩
end Go.Proofs.Ytgmciimgmnnhmaa.P
end
section
namespace Go.Proofs.Ytgmciimgmnnhmaa.P
open Go.RowKit Go.Proofs.YtgmciimgmnnhmaaW.PrintWords Go.Proofs.YtgmciimgmnnhmaaW.PrintLast Go.Proofs.YtgmciimgmnnhmaaW.PrintMore
attribute [local go_sem] max2_int min2_int max_two min_two max_three min_three max_four min_four   -- for this text's walks alone
set_option linter.unusedVariables false
set_option linter.unusedSimpArgs false
def impl_isTower.f (a0 : Int) : Option (Bool) := (impl_within.f a0 1 1000).bind fun t101 => (some t101)
set_option maxHeartbeats 8000000 in
set_option maxRecDepth 100000 in
theorem impl_isTower.calls (a0 : Int) (r : Bool) (w : World) (h : impl_isTower.f a0 = some r) :
    Calls Try.prog 46 #[.int .i64 a0] w fun e w' => e = .returned (.bool r) ∧ Drawn0 w w' := by
 have H : ((impl_within.f a0 1 1000).bind fun t101 => (some t101)) = some r := h
 clear h
 replace H := Option.bind_eq_some_iff.mp H
 obtain ⟨t101, A20, H⟩ := H
 replace H : (some t101) = some r := H
 have A2 := Aside0.mk A20
 clear A20
 obtain rfl := Option.some.inj H
 go_enter Try.func46, Try.ntmps46
 go_wp2_with (first | ((with_reducible refine gate_callee (f := 54) rfl ?_); refine goesL_ (some 4) rfl rfl Try.func54 zk rfl #[.int .i64 a0, .int .i64 1, .int .i64 1000] rfl zA ?_; (with_reducible refine (impl_within.calls a0 1 1000 t101 _ A2.out).mono ?_); rintro e w' ⟨rfl, ⟨nd, rfl⟩⟩; refine ⟨_, rfl, ?_⟩))
 go_ret
 exact ⟨by first | rfl | (simp; done) | (simp [*]; done), by repeat (first | exact Drawn0.refl _ | apply Drawn0.step)⟩
end Go.Proofs.Ytgmciimgmnnhmaa.P
end
section
namespace Go.Proofs.Ytgmciimgmnnhmaa.P
open Go.RowKit Go.Proofs.YtgmciimgmnnhmaaW.PrintWords Go.Proofs.YtgmciimgmnnhmaaW.PrintLast Go.Proofs.YtgmciimgmnnhmaaW.PrintMore
attribute [local go_sem] max2_int min2_int max_two min_two max_three min_three max_four min_four   -- for this text's walks alone
set_option linter.unusedVariables false
set_option linter.unusedSimpArgs false
def impl_CutBySpeed.f (l0_0 l1 : List Int) (a2 : Int) : Option (Int × Int) :=
  (impl_Garden_areHeights.f l0_0 l1).bind fun b => (if b = true then impl_isTower.f a2 else some false).bind fun c => (impl_gardenCode.f l0_0 c).bind fun t => if t = 0 then (if l1.length ≤ l0_0.length then some (speedT l0_0 a2 l1 0 (-1), 0) else none) else some (0, t)
set_option maxHeartbeats 8000000 in
set_option maxRecDepth 100000 in
theorem impl_CutBySpeed.calls (A0_0 : Option Addr) (c0_0 : Nat) (l0_0 : List Int) (A1 : Option Addr) (c1 : Nat) (l1 : List Int) (a2 : Int) (r1 : Int) (r2 : Int) (w : World) (hr0_0 : Kd.C (Kd.int .i64) w A0_0 l0_0.length l0_0) (hc0_0 : l0_0.length ≤ c0_0) (hr1 : Kd.C (Kd.int .i64) w A1 l1.length l1) (hc1 : l1.length ≤ c1) (h : impl_CutBySpeed.f l0_0 l1 a2 = some (r1, r2)) :
    Calls Try.prog 16 #[.agg #[.slice A0_0 l0_0.length c0_0], .slice A1 l1.length c1, .int .i64 a2] w fun e w' => e = .returned (.tuple #[.int .i64 r1, .int .i64 r2]) ∧ Below w.heap.size w w' := by
  have hu26 := Try.underlying26
  have HB := Aside0.mk (Below.refl w.heap.size w)
  unfold impl_CutBySpeed.f at h
  obtain ⟨b, e1, h_⟩ := Option.bind_eq_some_iff.mp h
  clear h
  obtain ⟨c, e2, h⟩ := Option.bind_eq_some_iff.mp h_
  clear h_
  obtain ⟨t, e3, h_⟩ := Option.bind_eq_some_iff.mp h
  clear h
  have h := h_
  clear h_
  have E1 := Aside0.mk (fun W (hb : Below w.heap.size w W) => impl_Garden_areHeights.calls A0_0 c0_0 l0_0 A1 c1 l1 b W (Kd.C_below hr0_0 hb) hc0_0 (Kd.C_below hr1 hb) hc1 e1)
  have E3 := Aside0.mk (fun W (hb : Below w.heap.size w W) => impl_gardenCode.calls A0_0 c0_0 l0_0 c t W (Kd.C_below hr0_0 hb) hc0_0 e3)
  have E4 := Aside0.mk (fun gx gg W (hb : Below w.heap.size w W) hl => impl_bySpeed_1.calls A0_0 c0_0 l0_0 a2 A1 c1 l1 gx gg W (Kd.C_below hr0_0 hb) (Kd.C_below hr1 hb) hl)
  have eg : ∀ args w, (callFunc 68 args).run Try.prog w = .ok (.enter 68 args) w := enters_of Try.func68 zk rfl
  clear e1 e3 hr0_0 hc0_0 hr1 hc1
  cases b with
  | true =>
    rw [if_pos rfl] at e2
    have E2 := Aside0.mk e2
    clear e2
    by_cases ht : t = 0
    · subst ht
      rw [if_pos rfl] at h
      by_cases hl : l1.length ≤ l0_0.length
      · rw [if_pos hl] at h
        simp only [Option.some.injEq, Prod.mk.injEq] at h
        obtain ⟨rfl, rfl⟩ := h
        have HL := Aside0.mk hl
        clear hl
        go_enter Try.func16, Try.ntmps16
        go_wp2_with (first | ((with_reducible refine gate_dst (N := 3) rfl ?_); refine box_event zr (N := 3) zr (cs := #[.slice A0_0 l0_0.length c0_0]) (t := 26) zg ?_; intro gb hg w1 hbox hb; have n_ := y2 (below_step HB.out hb) (hbox); clear HB; obtain ⟨HB, BK⟩ := n_; clear hb hbox hg))
        refine start_ (n := 10) (S := fun w' => w'.cell? ⟨gb, 0, none⟩ = some (.slice A0_0 l0_0.length c0_0)) (ds := [8]) #[false,false,false,false,false,false,false,false,false,false] zk rfl rfl (zc BK.out) (fun hHeld => ?_)
        have n_ := y2 (below_drew1 HB.out) (blk_drew BK.out)
        clear HB BK
        obtain ⟨HB, BK⟩ := n_
        generalize w1.drew = wd at HB BK hHeld ⊢
        refine take_ (i := 0) (N := some 9) (v := ?_) (a' := ?_) #[true,false,false,false,false,false,false,false,false,false] rfl rfl zk (fun _ _ _ h => h) (Or.inl ⟨by rfl, ?_⟩) hHeld ?_ ?_
        rotate_left
        · rintro w' s0
          go_simp
          with_reducible rfl
        rotate_left
        exact zq
        refine take_ (i := 1) (N := some 10) (v := ?_) (a' := ?_) #[true,true,false,false,false,false,false,false,false,false] rfl rfl zk (fun _ _ _ h => h) (Or.inl ⟨by rfl, ?_⟩) hHeld ?_ ?_
        rotate_left
        · rintro w' s0
          go_simp
          with_reducible rfl
        rotate_left
        exact zq
        refine pure_ (i := 2) (N := some 11) (v := ?_) (a' := ?_) #[true,true,true,false,false,false,false,false,false,false] rfl rfl zk (fun _ _ _ h => h) (Or.inl ⟨by rfl, ?_⟩) ?_ ?_
        rotate_left; exact zp; rotate_left; exact zq
        refine one_ (i := 3) (N := some 12) #[true,true,true,true,false,false,false,false,false,false] rfl rfl zk (by decide) (fun K hK => ?_)
        refine goes_ Try.func43 zk rfl #[.agg #[.slice A0_0 l0_0.length c0_0], .slice A1 l1.length c1] (by rfl) rfl rfl (by (try simp only [List.map_toArray, List.map_cons, List.map_nil]); first | done | rfl) ?_
        refine (E1.out _ HB.out).mono ?_
        rintro e w2 ⟨rfl, hb⟩
        have hS := Aside0.mk hHeld
        clear hHeld
        have n_ := y2 (below_step HB.out hb) (blk_below BK.out hb)
        clear HB BK
        obtain ⟨HB, BK⟩ := n_
        refine ⟨_, rfl, ?_⟩
        refine hK.out _ _ ((hb.cell (World.block_lt_of_cell? _ _ hS.out)).trans hS.out) (fun hHeld => ?_)
        clear hK K
        clear hb hS
        refine norm_ (a' := ?_) ?_ ?_
        rotate_left
        · show Act.put _ (some 12) _ = _
          simp only [Act.put, List.setIfInBounds_toArray, List.set_cons_zero, List.set_cons_succ, i64_w, i32_w]
          rfl
        refine pure_ (i := 4) (N := some 13) (v := ?_) (a' := ?_) #[true,true,true,true,true,false,false,false,false,false] rfl rfl zk (fun _ _ _ h => h) (Or.inl ⟨by rfl, ?_⟩) ?_ ?_
        rotate_left; exact zp; rotate_left; exact zq
        refine pure_ (i := 5) (N := some 14) (v := ?_) (a' := ?_) #[true,true,true,true,true,true,false,false,false,false] rfl rfl zk (fun _ _ _ h => h) (Or.inl ⟨by rfl, ?_⟩) ?_ ?_
        rotate_left; exact zp; rotate_left; exact zq
        refine one_ (i := 6) (N := some 15) #[true,true,true,true,true,true,true,false,false,false] rfl rfl zk (by decide) (fun K hK => ?_)
        refine goes_ Try.func46 zk rfl #[.int .i64 a2] (by rfl) rfl rfl (by (try simp only [List.map_toArray, List.map_cons, List.map_nil]); first | done | rfl) ?_
        refine (impl_isTower.calls a2 c _ E2.out).mono ?_
        rintro e w3 ⟨rfl, hb0⟩
        have hb := hb0.below
        have hS := Aside0.mk hHeld
        clear hHeld
        have n_ := y2 (below_step HB.out hb) (blk_below BK.out hb)
        clear HB BK
        obtain ⟨HB, BK⟩ := n_
        refine ⟨_, rfl, ?_⟩
        refine hK.out _ _ ((hb.cell (World.block_lt_of_cell? _ _ hS.out)).trans hS.out) (fun hHeld => ?_)
        clear hK K
        clear hb hb0 hS
        refine norm_ (a' := ?_) ?_ ?_
        rotate_left
        · show Act.put _ (some 15) _ = _
          simp only [Act.put, List.setIfInBounds_toArray, List.set_cons_zero, List.set_cons_succ, i64_w, i32_w]
          rfl
        refine pure_ (i := 7) (N := some 16) (v := ?_) (a' := ?_) #[true,true,true,true,true,true,true,true,false,false] rfl rfl zk (fun _ _ _ h => h) (Or.inl ⟨by rfl, ?_⟩) ?_ ?_
        rotate_left; exact zp; rotate_left; exact zq
        refine last_ (i := 8) (N := some 17) #[true,true,true,true,true,true,true,true,true,false] rfl rfl zk (by decide) (fun K hK => ?_)
        refine goes_ Try.func26 zk rfl #[.agg #[.slice A0_0 l0_0.length c0_0], .bool c] (by rfl) rfl rfl (by (try simp only [List.map_toArray, List.map_cons, List.map_nil]); first | done | rfl) ?_
        refine (E3.out _ HB.out).mono ?_
        rintro e w4 ⟨rfl, hb⟩
        have n_ := y2 (below_step HB.out hb) (blk_below BK.out hb)
        clear HB BK
        obtain ⟨HB, BK⟩ := n_
        refine ⟨_, rfl, ?_⟩
        refine hK.out _ _ ?_
        clear hK K
        clear hb hHeld
        refine norm_ (a' := ?_) ?_ ?_
        rotate_left
        · show Act.put _ (some 17) _ = _
          simp only [Act.put, List.setIfInBounds_toArray, List.set_cons_zero, List.set_cons_succ, i64_w, i32_w]
          rfl
        refine pure_ (i := 9) (N := some 8) (v := ?_) (a' := ?_) #[true,true,true,true,true,true,true,true,true,true] rfl rfl zk (fun _ _ _ h => h) (Or.inl ⟨by rfl, ?_⟩) ?_ ?_
        rotate_left; exact zp; rotate_left; exact zq
        refine done_ zk ?_
        have hq := zc BK.out
        go_wp2_with (first | (go_at_call 47; refine (impl_bySpeed.calls A0_0 c0_0 l0_0 a2 _).mono ?_; rintro e w5 ⟨gx, gg, rfl, bx, bg, hb⟩; have n_ := y3 (below_step HB.out hb) (bx) (bg); clear HB; obtain ⟨HB, BX, BG⟩ := n_; clear hb bx bg) | (go_at_fn 68; refine (E4.out gx gg _ HB.out HL.out BX.out BG.out).mono ?_; rintro e w6 ⟨rfl, hb⟩; have n_ := Aside0.mk (below_step HB.out hb); clear HB; have HB := n_; clear n_; clear hb))
        go_ret2
        exact ⟨rfl, HB.out⟩
      · rw [if_neg hl] at h
        cases h
    · rw [if_neg ht] at h
      simp only [Option.some.injEq, Prod.mk.injEq] at h
      obtain ⟨rfl, rfl⟩ := h
      have ht1 : (t == 0) = false := beq_eq_false_iff_ne.mpr ht
      have ht2 : (t != 0) = true := bne_iff_ne.mpr ht
      clear ht
      go_enter Try.func16, Try.ntmps16
      go_wp2_with (first | ((with_reducible refine gate_dst (N := 3) rfl ?_); refine box_event zr (N := 3) zr (cs := #[.slice A0_0 l0_0.length c0_0]) (t := 26) zg ?_; intro gb hg w1 hbox hb; have n_ := y2 (below_step HB.out hb) (hbox); clear HB; obtain ⟨HB, BK⟩ := n_; clear hb hbox hg))
      refine start_ (n := 10) (S := fun w' => w'.cell? ⟨gb, 0, none⟩ = some (.slice A0_0 l0_0.length c0_0)) (ds := [8]) #[false,false,false,false,false,false,false,false,false,false] zk rfl rfl (zc BK.out) (fun hHeld => ?_)
      have n_ := y2 (below_drew1 HB.out) (blk_drew BK.out)
      clear HB BK
      obtain ⟨HB, BK⟩ := n_
      generalize w1.drew = wd at HB BK hHeld ⊢
      refine take_ (i := 0) (N := some 9) (v := ?_) (a' := ?_) #[true,false,false,false,false,false,false,false,false,false] rfl rfl zk (fun _ _ _ h => h) (Or.inl ⟨by rfl, ?_⟩) hHeld ?_ ?_
      rotate_left
      · rintro w' s0
        go_simp
        with_reducible rfl
      rotate_left
      exact zq
      refine take_ (i := 1) (N := some 10) (v := ?_) (a' := ?_) #[true,true,false,false,false,false,false,false,false,false] rfl rfl zk (fun _ _ _ h => h) (Or.inl ⟨by rfl, ?_⟩) hHeld ?_ ?_
      rotate_left
      · rintro w' s0
        go_simp
        with_reducible rfl
      rotate_left
      exact zq
      refine pure_ (i := 2) (N := some 11) (v := ?_) (a' := ?_) #[true,true,true,false,false,false,false,false,false,false] rfl rfl zk (fun _ _ _ h => h) (Or.inl ⟨by rfl, ?_⟩) ?_ ?_
      rotate_left; exact zp; rotate_left; exact zq
      refine one_ (i := 3) (N := some 12) #[true,true,true,true,false,false,false,false,false,false] rfl rfl zk (by decide) (fun K hK => ?_)
      refine goes_ Try.func43 zk rfl #[.agg #[.slice A0_0 l0_0.length c0_0], .slice A1 l1.length c1] (by rfl) rfl rfl (by (try simp only [List.map_toArray, List.map_cons, List.map_nil]); first | done | rfl) ?_
      refine (E1.out _ HB.out).mono ?_
      rintro e w2 ⟨rfl, hb⟩
      have hS := Aside0.mk hHeld
      clear hHeld
      have n_ := y2 (below_step HB.out hb) (blk_below BK.out hb)
      clear HB BK
      obtain ⟨HB, BK⟩ := n_
      refine ⟨_, rfl, ?_⟩
      refine hK.out _ _ ((hb.cell (World.block_lt_of_cell? _ _ hS.out)).trans hS.out) (fun hHeld => ?_)
      clear hK K
      clear hb hS
      refine norm_ (a' := ?_) ?_ ?_
      rotate_left
      · show Act.put _ (some 12) _ = _
        simp only [Act.put, List.setIfInBounds_toArray, List.set_cons_zero, List.set_cons_succ, i64_w, i32_w]
        rfl
      refine pure_ (i := 4) (N := some 13) (v := ?_) (a' := ?_) #[true,true,true,true,true,false,false,false,false,false] rfl rfl zk (fun _ _ _ h => h) (Or.inl ⟨by rfl, ?_⟩) ?_ ?_
      rotate_left; exact zp; rotate_left; exact zq
      refine pure_ (i := 5) (N := some 14) (v := ?_) (a' := ?_) #[true,true,true,true,true,true,false,false,false,false] rfl rfl zk (fun _ _ _ h => h) (Or.inl ⟨by rfl, ?_⟩) ?_ ?_
      rotate_left; exact zp; rotate_left; exact zq
      refine one_ (i := 6) (N := some 15) #[true,true,true,true,true,true,true,false,false,false] rfl rfl zk (by decide) (fun K hK => ?_)
      refine goes_ Try.func46 zk rfl #[.int .i64 a2] (by rfl) rfl rfl (by (try simp only [List.map_toArray, List.map_cons, List.map_nil]); first | done | rfl) ?_
      refine (impl_isTower.calls a2 c _ E2.out).mono ?_
      rintro e w3 ⟨rfl, hb0⟩
      have hb := hb0.below
      have hS := Aside0.mk hHeld
      clear hHeld
      have n_ := y2 (below_step HB.out hb) (blk_below BK.out hb)
      clear HB BK
      obtain ⟨HB, BK⟩ := n_
      refine ⟨_, rfl, ?_⟩
      refine hK.out _ _ ((hb.cell (World.block_lt_of_cell? _ _ hS.out)).trans hS.out) (fun hHeld => ?_)
      clear hK K
      clear hb hb0 hS
      refine norm_ (a' := ?_) ?_ ?_
      rotate_left
      · show Act.put _ (some 15) _ = _
        simp only [Act.put, List.setIfInBounds_toArray, List.set_cons_zero, List.set_cons_succ, i64_w, i32_w]
        rfl
      refine pure_ (i := 7) (N := some 16) (v := ?_) (a' := ?_) #[true,true,true,true,true,true,true,true,false,false] rfl rfl zk (fun _ _ _ h => h) (Or.inl ⟨by rfl, ?_⟩) ?_ ?_
      rotate_left; exact zp; rotate_left; exact zq
      refine last_ (i := 8) (N := some 17) #[true,true,true,true,true,true,true,true,true,false] rfl rfl zk (by decide) (fun K hK => ?_)
      refine goes_ Try.func26 zk rfl #[.agg #[.slice A0_0 l0_0.length c0_0], .bool c] (by rfl) rfl rfl (by (try simp only [List.map_toArray, List.map_cons, List.map_nil]); first | done | rfl) ?_
      refine (E3.out _ HB.out).mono ?_
      rintro e w4 ⟨rfl, hb⟩
      have n_ := y2 (below_step HB.out hb) (blk_below BK.out hb)
      clear HB BK
      obtain ⟨HB, BK⟩ := n_
      refine ⟨_, rfl, ?_⟩
      refine hK.out _ _ ?_
      clear hK K
      clear hb hHeld
      refine norm_ (a' := ?_) ?_ ?_
      rotate_left
      · show Act.put _ (some 17) _ = _
        simp only [Act.put, List.setIfInBounds_toArray, List.set_cons_zero, List.set_cons_succ, i64_w, i32_w]
        rfl
      refine pure_ (i := 9) (N := some 8) (v := ?_) (a' := ?_) #[true,true,true,true,true,true,true,true,true,true] rfl rfl zk (fun _ _ _ h => h) (Or.inl ⟨by rfl, ?_⟩) ?_ ?_
      rotate_left; exact zp; rotate_left; exact zq
      refine done_ zk ?_
      have hq := zc BK.out
      go_wp2
      go_ret2
      exact ⟨rfl, HB.out⟩
  | false =>
    rw [if_neg (by decide)] at e2
    obtain rfl := Option.some.inj e2
    by_cases ht : t = 0
    · subst ht
      rw [if_pos rfl] at h
      by_cases hl : l1.length ≤ l0_0.length
      · rw [if_pos hl] at h
        simp only [Option.some.injEq, Prod.mk.injEq] at h
        obtain ⟨rfl, rfl⟩ := h
        have HL := Aside0.mk hl
        clear hl
        go_enter Try.func16, Try.ntmps16
        go_wp2_with (first | ((with_reducible refine gate_dst (N := 3) rfl ?_); refine box_event zr (N := 3) zr (cs := #[.slice A0_0 l0_0.length c0_0]) (t := 26) zg ?_; intro gb hg w1 hbox hb; have n_ := y2 (below_step HB.out hb) (hbox); clear HB; obtain ⟨HB, BK⟩ := n_; clear hb hbox hg))
        refine start_ (n := 10) (S := fun w' => w'.cell? ⟨gb, 0, none⟩ = some (.slice A0_0 l0_0.length c0_0)) (ds := [8]) #[false,false,false,false,false,false,false,false,false,false] zk rfl rfl (zc BK.out) (fun hHeld => ?_)
        have n_ := y2 (below_drew1 HB.out) (blk_drew BK.out)
        clear HB BK
        obtain ⟨HB, BK⟩ := n_
        generalize w1.drew = wd at HB BK hHeld ⊢
        refine take_ (i := 0) (N := some 9) (v := ?_) (a' := ?_) #[true,false,false,false,false,false,false,false,false,false] rfl rfl zk (fun _ _ _ h => h) (Or.inl ⟨by rfl, ?_⟩) hHeld ?_ ?_
        rotate_left
        · rintro w' s0
          go_simp
          with_reducible rfl
        rotate_left
        exact zq
        refine take_ (i := 1) (N := some 10) (v := ?_) (a' := ?_) #[true,true,false,false,false,false,false,false,false,false] rfl rfl zk (fun _ _ _ h => h) (Or.inl ⟨by rfl, ?_⟩) hHeld ?_ ?_
        rotate_left
        · rintro w' s0
          go_simp
          with_reducible rfl
        rotate_left
        exact zq
        refine pure_ (i := 2) (N := some 11) (v := ?_) (a' := ?_) #[true,true,true,false,false,false,false,false,false,false] rfl rfl zk (fun _ _ _ h => h) (Or.inl ⟨by rfl, ?_⟩) ?_ ?_
        rotate_left; exact zp; rotate_left; exact zq
        refine one_ (i := 3) (N := some 12) #[true,true,true,true,false,false,false,false,false,false] rfl rfl zk (by decide) (fun K hK => ?_)
        refine goes_ Try.func43 zk rfl #[.agg #[.slice A0_0 l0_0.length c0_0], .slice A1 l1.length c1] (by rfl) rfl rfl (by (try simp only [List.map_toArray, List.map_cons, List.map_nil]); first | done | rfl) ?_
        refine (E1.out _ HB.out).mono ?_
        rintro e w2 ⟨rfl, hb⟩
        have hS := Aside0.mk hHeld
        clear hHeld
        have n_ := y2 (below_step HB.out hb) (blk_below BK.out hb)
        clear HB BK
        obtain ⟨HB, BK⟩ := n_
        refine ⟨_, rfl, ?_⟩
        refine hK.out _ _ ((hb.cell (World.block_lt_of_cell? _ _ hS.out)).trans hS.out) (fun hHeld => ?_)
        clear hK K
        clear hb hS
        refine norm_ (a' := ?_) ?_ ?_
        rotate_left
        · show Act.put _ (some 12) _ = _
          simp only [Act.put, List.setIfInBounds_toArray, List.set_cons_zero, List.set_cons_succ, i64_w, i32_w]
          rfl
        refine pure_ (i := 4) (N := some 13) (v := ?_) (a' := ?_) #[true,true,true,true,true,false,false,false,false,false] rfl rfl zk (fun _ _ _ h => h) (Or.inl ⟨by rfl, ?_⟩) ?_ ?_
        rotate_left; exact zp; rotate_left; exact zq
        refine pure_ (i := 5) (N := some 14) (v := undef) (a' := ?_) #[true,true,true,true,true,true,false,false,false,false] rfl rfl zk (fun _ _ _ h => h) (Or.inr ⟨by rfl, rfl⟩) ?_ ?_
        rotate_left
        exact zq
        refine one_ (i := 6) (N := some 15) #[true,true,true,true,true,true,true,false,false,false] rfl rfl zk (by decide) (fun K hK => ?_)
        refine off_ (by rfl) ?_
        refine hK.out _ _ hHeld (fun hHeld => ?_)
        clear hK K
        refine norm_ (a' := ?_) ?_ ?_
        rotate_left
        · show Act.put _ (some 15) _ = _
          simp only [Act.put, List.setIfInBounds_toArray, List.set_cons_zero, List.set_cons_succ, i64_w, i32_w]
          rfl
        refine pure_ (i := 7) (N := some 16) (v := ?_) (a' := ?_) #[true,true,true,true,true,true,true,true,false,false] rfl rfl zk (fun _ _ _ h => h) (Or.inl ⟨by rfl, ?_⟩) ?_ ?_
        rotate_left; exact zp; rotate_left; exact zq
        refine last_ (i := 8) (N := some 17) #[true,true,true,true,true,true,true,true,true,false] rfl rfl zk (by decide) (fun K hK => ?_)
        refine goes_ Try.func26 zk rfl #[.agg #[.slice A0_0 l0_0.length c0_0], .bool false] (by rfl) rfl rfl (by (try simp only [List.map_toArray, List.map_cons, List.map_nil]); first | done | rfl) ?_
        refine (E3.out _ HB.out).mono ?_
        rintro e w4 ⟨rfl, hb⟩
        have n_ := y2 (below_step HB.out hb) (blk_below BK.out hb)
        clear HB BK
        obtain ⟨HB, BK⟩ := n_
        refine ⟨_, rfl, ?_⟩
        refine hK.out _ _ ?_
        clear hK K
        clear hb hHeld
        refine norm_ (a' := ?_) ?_ ?_
        rotate_left
        · show Act.put _ (some 17) _ = _
          simp only [Act.put, List.setIfInBounds_toArray, List.set_cons_zero, List.set_cons_succ, i64_w, i32_w]
          rfl
        refine pure_ (i := 9) (N := some 8) (v := ?_) (a' := ?_) #[true,true,true,true,true,true,true,true,true,true] rfl rfl zk (fun _ _ _ h => h) (Or.inl ⟨by rfl, ?_⟩) ?_ ?_
        rotate_left; exact zp; rotate_left; exact zq
        refine done_ zk ?_
        have hq := zc BK.out
        go_wp2_with (first | (go_at_call 47; refine (impl_bySpeed.calls A0_0 c0_0 l0_0 a2 _).mono ?_; rintro e w5 ⟨gx, gg, rfl, bx, bg, hb⟩; have n_ := y3 (below_step HB.out hb) (bx) (bg); clear HB; obtain ⟨HB, BX, BG⟩ := n_; clear hb bx bg) | (go_at_fn 68; refine (E4.out gx gg _ HB.out HL.out BX.out BG.out).mono ?_; rintro e w6 ⟨rfl, hb⟩; have n_ := Aside0.mk (below_step HB.out hb); clear HB; have HB := n_; clear n_; clear hb))
        go_ret2
        exact ⟨rfl, HB.out⟩
      · rw [if_neg hl] at h
        cases h
    · rw [if_neg ht] at h
      simp only [Option.some.injEq, Prod.mk.injEq] at h
      obtain ⟨rfl, rfl⟩ := h
      have ht1 : (t == 0) = false := beq_eq_false_iff_ne.mpr ht
      have ht2 : (t != 0) = true := bne_iff_ne.mpr ht
      clear ht
      go_enter Try.func16, Try.ntmps16
      go_wp2_with (first | ((with_reducible refine gate_dst (N := 3) rfl ?_); refine box_event zr (N := 3) zr (cs := #[.slice A0_0 l0_0.length c0_0]) (t := 26) zg ?_; intro gb hg w1 hbox hb; have n_ := y2 (below_step HB.out hb) (hbox); clear HB; obtain ⟨HB, BK⟩ := n_; clear hb hbox hg))
      refine start_ (n := 10) (S := fun w' => w'.cell? ⟨gb, 0, none⟩ = some (.slice A0_0 l0_0.length c0_0)) (ds := [8]) #[false,false,false,false,false,false,false,false,false,false] zk rfl rfl (zc BK.out) (fun hHeld => ?_)
      have n_ := y2 (below_drew1 HB.out) (blk_drew BK.out)
      clear HB BK
      obtain ⟨HB, BK⟩ := n_
      generalize w1.drew = wd at HB BK hHeld ⊢
      refine take_ (i := 0) (N := some 9) (v := ?_) (a' := ?_) #[true,false,false,false,false,false,false,false,false,false] rfl rfl zk (fun _ _ _ h => h) (Or.inl ⟨by rfl, ?_⟩) hHeld ?_ ?_
      rotate_left
      · rintro w' s0
        go_simp
        with_reducible rfl
      rotate_left
      exact zq
      refine take_ (i := 1) (N := some 10) (v := ?_) (a' := ?_) #[true,true,false,false,false,false,false,false,false,false] rfl rfl zk (fun _ _ _ h => h) (Or.inl ⟨by rfl, ?_⟩) hHeld ?_ ?_
      rotate_left
      · rintro w' s0
        go_simp
        with_reducible rfl
      rotate_left
      exact zq
      refine pure_ (i := 2) (N := some 11) (v := ?_) (a' := ?_) #[true,true,true,false,false,false,false,false,false,false] rfl rfl zk (fun _ _ _ h => h) (Or.inl ⟨by rfl, ?_⟩) ?_ ?_
      rotate_left; exact zp; rotate_left; exact zq
      refine one_ (i := 3) (N := some 12) #[true,true,true,true,false,false,false,false,false,false] rfl rfl zk (by decide) (fun K hK => ?_)
      refine goes_ Try.func43 zk rfl #[.agg #[.slice A0_0 l0_0.length c0_0], .slice A1 l1.length c1] (by rfl) rfl rfl (by (try simp only [List.map_toArray, List.map_cons, List.map_nil]); first | done | rfl) ?_
      refine (E1.out _ HB.out).mono ?_
      rintro e w2 ⟨rfl, hb⟩
      have hS := Aside0.mk hHeld
      clear hHeld
      have n_ := y2 (below_step HB.out hb) (blk_below BK.out hb)
      clear HB BK
      obtain ⟨HB, BK⟩ := n_
      refine ⟨_, rfl, ?_⟩
      refine hK.out _ _ ((hb.cell (World.block_lt_of_cell? _ _ hS.out)).trans hS.out) (fun hHeld => ?_)
      clear hK K
      clear hb hS
      refine norm_ (a' := ?_) ?_ ?_
      rotate_left
      · show Act.put _ (some 12) _ = _
        simp only [Act.put, List.setIfInBounds_toArray, List.set_cons_zero, List.set_cons_succ, i64_w, i32_w]
        rfl
      refine pure_ (i := 4) (N := some 13) (v := ?_) (a' := ?_) #[true,true,true,true,true,false,false,false,false,false] rfl rfl zk (fun _ _ _ h => h) (Or.inl ⟨by rfl, ?_⟩) ?_ ?_
      rotate_left; exact zp; rotate_left; exact zq
      refine pure_ (i := 5) (N := some 14) (v := undef) (a' := ?_) #[true,true,true,true,true,true,false,false,false,false] rfl rfl zk (fun _ _ _ h => h) (Or.inr ⟨by rfl, rfl⟩) ?_ ?_
      rotate_left
      exact zq
      refine one_ (i := 6) (N := some 15) #[true,true,true,true,true,true,true,false,false,false] rfl rfl zk (by decide) (fun K hK => ?_)
      refine off_ (by rfl) ?_
      refine hK.out _ _ hHeld (fun hHeld => ?_)
      clear hK K
      refine norm_ (a' := ?_) ?_ ?_
      rotate_left
      · show Act.put _ (some 15) _ = _
        simp only [Act.put, List.setIfInBounds_toArray, List.set_cons_zero, List.set_cons_succ, i64_w, i32_w]
        rfl
      refine pure_ (i := 7) (N := some 16) (v := ?_) (a' := ?_) #[true,true,true,true,true,true,true,true,false,false] rfl rfl zk (fun _ _ _ h => h) (Or.inl ⟨by rfl, ?_⟩) ?_ ?_
      rotate_left; exact zp; rotate_left; exact zq
      refine last_ (i := 8) (N := some 17) #[true,true,true,true,true,true,true,true,true,false] rfl rfl zk (by decide) (fun K hK => ?_)
      refine goes_ Try.func26 zk rfl #[.agg #[.slice A0_0 l0_0.length c0_0], .bool false] (by rfl) rfl rfl (by (try simp only [List.map_toArray, List.map_cons, List.map_nil]); first | done | rfl) ?_
      refine (E3.out _ HB.out).mono ?_
      rintro e w4 ⟨rfl, hb⟩
      have n_ := y2 (below_step HB.out hb) (blk_below BK.out hb)
      clear HB BK
      obtain ⟨HB, BK⟩ := n_
      refine ⟨_, rfl, ?_⟩
      refine hK.out _ _ ?_
      clear hK K
      clear hb hHeld
      refine norm_ (a' := ?_) ?_ ?_
      rotate_left
      · show Act.put _ (some 17) _ = _
        simp only [Act.put, List.setIfInBounds_toArray, List.set_cons_zero, List.set_cons_succ, i64_w, i32_w]
        rfl
      refine pure_ (i := 9) (N := some 8) (v := ?_) (a' := ?_) #[true,true,true,true,true,true,true,true,true,true] rfl rfl zk (fun _ _ _ h => h) (Or.inl ⟨by rfl, ?_⟩) ?_ ?_
      rotate_left; exact zp; rotate_left; exact zq
      refine done_ zk ?_
      have hq := zc BK.out
      go_wp2
      go_ret2
      exact ⟨rfl, HB.out⟩
end Go.Proofs.Ytgmciimgmnnhmaa.P
end
section
namespace Go.Proofs.Ytgmciimgmnnhmaa.P
open Go.RowKit Go.Proofs.YtgmciimgmnnhmaaW.PrintWords Go.Proofs.YtgmciimgmnnhmaaW.PrintLast Go.Proofs.YtgmciimgmnnhmaaW.PrintMore
attribute [local go_sem] max2_int min2_int max_two min_two max_three min_three max_four min_four   -- for this text's walks alone
set_option linter.unusedVariables false
set_option linter.unusedSimpArgs false
def impl_areTurns.f (l0 : List Int) (a1 : Int) : Option Bool := some (decide (1 ≤ (l0.length : Int) ∧ (l0.length : Int) ≤ 120) && l0.all fun i => decide (-1 ≤ i ∧ i ≤ wrap64 (a1 - 1)))
theorem fv_areTurns_1 (x a : Int) (B : Nat) (W : World) (hc : W.cell? ⟨B, 0, none⟩ = some (.int .i64 a)) :
    Calls Try.prog 63 (#[.int .i64 x] ++ #[.pointer (some ⟨B, 0, none⟩)]) W fun e w' => e = .returned (.bool (decide (-1 ≤ x ∧ x ≤ wrap64 (a - 1)))) ∧ Below W.heap.size W w' := by
  have HQ := Aside0.mk (impl_within.calls x (-1) (wrap64 (a - 1)) _ W (within_f x (-1) (wrap64 (a - 1))))
  generalize decide (-1 ≤ x ∧ x ≤ wrap64 (a - 1)) = b at HQ ⊢
  show Calls Try.prog 63 #[.int .i64 x, .pointer (some ⟨B, 0, none⟩)] W _
  go_enter Try.func63, Try.ntmps63
  go_wp2_with (go_at_call 54; refine HQ.out.mono ?_; rintro e w' ⟨rfl, hb1⟩)
  go_ret
  exact ⟨rfl, hb1.below⟩
set_option maxHeartbeats 4000000 in
set_option maxRecDepth 100000 in
theorem impl_areTurns.calls (A0 : Option Addr) (c0 : Nat) (l0 : List Int) (a1 : Int) (r : Bool) (w : World) (hr0 : Kd.C (Kd.int .i64) w A0 l0.length l0) (hc0 : l0.length ≤ c0) (h : impl_areTurns.f l0 a1 = some r) :
    Calls Try.prog 27 #[.slice A0 l0.length c0, .int .i64 a1] w fun e w' => e = .returned (.bool r) ∧ Below w.heap.size w w' := by
  obtain rfl := Option.some.inj h
  clear h
  have e1 : ∀ args w, (callFunc 63 args).run Try.prog w = .ok (.enter 63 args) w := enters_of Try.func63 zk rfl
  have HQ := Aside0.mk (fun (W : World) (hb : Below w.heap.size w W) (hbk : w.heap.size < W.heap.size) (hcell : W.cell? ⟨w.heap.size, 0, none⟩ = some (.int .i64 a1)) => fv_areAll 63 #[.pointer (some ⟨w.heap.size, 0, none⟩)] e1 (fun i => decide (-1 ≤ i ∧ i ≤ wrap64 (a1 - 1))) A0 c0 l0 W (Kd.C_below hr0 hb) hc0
    (fun W' x hb' _ => fv_areTurns_1 x a1 w.heap.size W' ((hb'.cell (p := ⟨w.heap.size, 0, none⟩) hbk).trans hcell)))
  have HL := Aside0.mk (fun (W : World) (hb : Below w.heap.size w W) => impl_length_int64.calls A0 c0 l0 _ W (Kd.C_below hr0 hb) hc0 rfl)
  clear hr0 hc0 e1
  have HB := Aside0.mk (Below.refl w.heap.size w)
  generalize l0.all (fun i => decide (-1 ≤ i ∧ i ≤ wrap64 (a1 - 1))) = b at HQ ⊢
  by_cases h1 : 1 ≤ (l0.length : Int) ∧ (l0.length : Int) ≤ 120
  · have HW := Aside0.mk (fun W => impl_within.calls (l0.length : Int) 1 120 _ W (within_yes h1))
    rw [decide_eq_true h1, Bool.true_and]
    clear h1
    go_enter Try.func27, Try.ntmps27
    go_wp2_with (first
      | (go_at_call 39; refine (HL.out _ (by repeat (first | exact HB.out | apply below_alloc | apply pw_below_drewN | apply below_drew1))).mono ?_; rintro e w' ⟨rfl, ⟨n1, rfl⟩⟩)
      | (go_at_call 54; refine (HW.out _).mono ?_; rintro e w' ⟨rfl, ⟨n2, rfl⟩⟩)
      | (go_at_call 55; refine (HQ.out _ (by repeat (first | exact HB.out | apply below_alloc | apply pw_below_drewN | apply below_drew1)) (by simp) (by simp)).mono ?_; rintro e w' ⟨rfl, hb1⟩))
    go_ret
    exact ⟨rfl, below_step (by repeat (first | exact HB.out | apply below_alloc | apply pw_below_drewN | apply below_drew1)) hb1⟩
  · have HW := Aside0.mk (fun W => impl_within.calls (l0.length : Int) 1 120 _ W (within_not h1))
    rw [decide_eq_false h1, Bool.false_and]
    clear h1
    go_enter Try.func27, Try.ntmps27
    go_wp2_with (first
      | (go_at_call 39; refine (HL.out _ (by repeat (first | exact HB.out | apply below_alloc | apply pw_below_drewN | apply below_drew1))).mono ?_; rintro e w' ⟨rfl, ⟨n1, rfl⟩⟩)
      | (go_at_call 54; refine (HW.out _).mono ?_; rintro e w' ⟨rfl, ⟨n2, rfl⟩⟩))
    go_ret
    exact ⟨rfl, by repeat (first | exact HB.out | apply below_alloc | apply pw_below_drewN | apply below_drew1)⟩
end Go.Proofs.Ytgmciimgmnnhmaa.P
end
section
namespace Go.Proofs.Ytgmciimgmnnhmaa.P
open Go.RowKit Go.Proofs.YtgmciimgmnnhmaaW.PrintWords Go.Proofs.YtgmciimgmnnhmaaW.PrintLast Go.Proofs.YtgmciimgmnnhmaaW.PrintMore
attribute [local go_sem] max2_int min2_int max_two min_two max_three min_three max_four min_four   -- for this text's walks alone
set_option linter.unusedVariables false
set_option linter.unusedSimpArgs false
set_option maxHeartbeats 8000000 in
set_option maxRecDepth 100000 in
theorem impl_Garden_day.calls (A0 : Option Addr) (c0 : Nat) (R : List Int) (A1 : Option Addr) (c1 : Nat) (H : List Int) (f : Nat) (lb : Array Value) (eg : ∀ args w, (callFunc f args).run Try.prog w = .ok (.enter f args) w) (i : Int) (w : World) (hr0 : Kd.C (Kd.int .i64) w A0 R.length R) (hc0 : R.length ≤ c0) (hr1 : Kd.C (Kd.int .i64) w A1 H.length H) (hc1 : H.length ≤ c1) (hl : H.length = R.length) (hs : H.length < 17592186044416) (hi : i = -1 ∨ (0 ≤ i ∧ i < (R.length : Int)))
    (hcut : ∀ (W : World) (A : Option Addr) (c : Nat), Below w.heap.size w W → Kd.C (Kd.int .i64) W A (grT R H 1).length (grT R H 1) → (grT R H 1).length ≤ c → Calls Try.prog f (#[.slice A (grT R H 1).length c] ++ lb) W fun e w' => e = .returned (.int .i64 i) ∧ Below W.heap.size W w') :
    Calls Try.prog 37 #[.agg #[.slice A0 R.length c0], .slice A1 H.length c1, .func (.func f) #[] lb] w fun e w' => ∃ v0 v1, e = .returned (.tuple #[v0, v1, .int .i64 i]) ∧ Kd.R (Kd.int .i64) 2 w' w.heap.size (fun _ => True) v0 (if i = -1 then grT R H 1 else (grT R H 1).set i.toNat 0) ∧ Below w.heap.size w w' := by
  have hu26 := Try.underlying26
  have HB := Aside0.mk (Below.refl w.heap.size w)
  have G := Aside0.mk (fun W (hb : Below w.heap.size w W) => impl_Garden_grown.calls (R.length + 1) A0 c0 R A1 c1 H 1 (grT R H 1) W (Kd.C_below hr0 hb) hc0 (Kd.C_below hr1 hb) hc1 (grown_f R H 1 hl hs))
  have CUT := Aside0.mk hcut
  have hlen := grT_length (R := R) (H := H) 1 hl
  have HCL := Aside0.mk (show slices_Clone_Sint64_int64.f (grT R H 1) = some (grT R H 1) by unfold slices_Clone_Sint64_int64.f; rw [if_pos (by omega)])
  have HLEN := Aside0.mk hlen
  clear hr0 hc0 hr1 hc1 hcut hs hl
  by_cases h : i = -1
  · subst h
    rw [if_pos rfl]
    clear hi hlen
    generalize grT R H 1 = ah at G CUT HCL HLEN ⊢
    go_enter Try.func37, Try.ntmps37
    go_wp2_with (first | ((with_reducible refine gate_dst (N := 3) rfl ?_); refine box_event zr (N := 3) zr (cs := #[.slice A0 R.length c0]) (t := 26) zg ?_; intro gb hg w1 hbox hb; have hq : w1.cell? ⟨gb, 0, none⟩ = some (.slice A0 R.length c0) := zc hbox; have n_ := Aside0.mk (below_step HB.out hb); clear HB; have HB := n_; clear n_; clear hb hbox hg) | (go_at_call 44; refine (G.out _ HB.out).mono ?_; rintro e w2 ⟨va, rfl, hS, hb⟩; obtain ⟨Aa, ca, rfl, hla, hCa⟩ := Kd.R_reads hS; have n_ := y3 (below_step HB.out hb) (hCa) (hla); clear HB; obtain ⟨HB, HCA, HLA⟩ := n_; clear hb hS hCa hla) | (go_at_call 66; refine (slices_Clone_Sint64_int64.calls Aa ca _ _ _ HCA.out HLA.out HCL.out).mono ?_; rintro e w3 ⟨vo, rfl, hS, hb⟩; have n_ := y3 (Kd.R_lower hS (below_size HB.out)) (below_step HB.out hb) (Kd.C_below HCA.out hb); clear HB HCA; obtain ⟨HO, HB, HCA⟩ := n_; clear hb hS) | (go_at_fn f; refine (CUT.out _ Aa ca HB.out HCA.out HLA.out).mono ?_; rintro e w4 ⟨rfl, hb⟩; have n_ := y2 (below_step HB.out hb) (Kd.R_below HO.out hb); clear HB HO; obtain ⟨HB, HO⟩ := n_; clear hb HCA HLA))
    go_ret3
    exact ⟨_, _, rfl, HO.out, HB.out⟩
  · rw [if_neg h]
    have h0 : 0 ≤ i := by omega
    have h1 : i < ((grT R H 1).length : Int) := by omega
    have b1 : (i != -1) = true := bne_iff_ne.mpr h
    have b2 : (i == -1) = false := beq_eq_false_iff_ne.mpr h
    have H0 := Aside0.mk h0
    have H1 := Aside0.mk h1
    have c1_ := eq_true h0
    have c2_ := eq_true h1
    clear hi hlen h h0 h1
    generalize grT R H 1 = ah at G CUT HCL HLEN H1 c2_ ⊢
    go_enter Try.func37, Try.ntmps37
    go_wp2_with (first | ((with_reducible refine gate_dst (N := 3) rfl ?_); refine box_event zr (N := 3) zr (cs := #[.slice A0 R.length c0]) (t := 26) zg ?_; intro gb hg w1 hbox hb; have hq : w1.cell? ⟨gb, 0, none⟩ = some (.slice A0 R.length c0) := zc hbox; have n_ := Aside0.mk (below_step HB.out hb); clear HB; have HB := n_; clear n_; clear hb hbox hg) | (go_at_call 44; refine (G.out _ HB.out).mono ?_; rintro e w2 ⟨va, rfl, hS, hb⟩; obtain ⟨Aa, ca, rfl, hla, hCa⟩ := Kd.R_reads hS; have n_ := y3 (below_step HB.out hb) (hCa) (hla); clear HB; obtain ⟨HB, HCA, HLA⟩ := n_; clear hb hS hCa hla) | (go_at_call 66; refine (slices_Clone_Sint64_int64.calls Aa ca _ _ _ HCA.out HLA.out HCL.out).mono ?_; rintro e w3 ⟨vo, rfl, hS, hb⟩; obtain ⟨go, co, eo, gb_, gl_, cl_, HG_⟩ := Kd.R_form hS (by have := H0.out; have := H1.out; omega); have eo : vo = .slice (some ⟨go, 0, none⟩) ah.length co := eo; subst eo; clear gb_ gl_ HG_; have n_ := y3 (Kd.R_lower hS (below_size HB.out)) (below_step HB.out hb) (Kd.C_below HCA.out hb); clear HB HCA; obtain ⟨HO, HB, HCA⟩ := n_; clear hb hS) | (go_at_fn f; refine (CUT.out _ Aa ca HB.out HCA.out HLA.out).mono ?_; rintro e w4 ⟨rfl, hb⟩; have n_ := y2 (below_step HB.out hb) (Kd.R_below HO.out hb); clear HB HO; obtain ⟨HB, HO⟩ := n_; clear hb HCA HLA; obtain ⟨hx, hf⟩ := Kd.R_celln 0 HO.out i H0.out H1.out))
    go_ret3
    exact ⟨_, _, rfl, Kd.R_putn HO.out i 0, below_set HB.out (Kd.R_base HO.out go rfl)⟩
set_option maxHeartbeats 8000000 in
set_option maxRecDepth 100000 in
theorem impl_HeightsBehind_1.calls (A : Option Addr) (c : Nat) (T : List Int) (d : Int) (gt gd : Nat) (X : Value) (w : World) (hr : Kd.C (Kd.int .i64) w A T.length T) (hc : T.length ≤ c) (hT : 0 < T.length) (hd : 0 ≤ d) (ht : w.heap[gt]? = some (.cells #[.slice A T.length c] 24 (0, 0))) (hg : w.heap[gd]? = some (.cells #[.int .i64 d] 2 (0, 0))) :
    Calls Try.prog 38 #[X, .pointer (some ⟨gt, 0, none⟩), .pointer (some ⟨gd, 0, none⟩)] w fun e w' => e = .returned (.int .i64 (rd T (Int.tmod d (T.length : Int)))) ∧ Below w.heap.size w w' := by
  have hq1 := zc ht
  have hq2 := zc hg
  have h0 : 0 ≤ Int.tmod d (T.length : Int) := Int.tmod_nonneg _ hd
  have h1 : Int.tmod d (T.length : Int) < (T.length : Int) := Int.tmod_lt_of_pos _ (by omega)
  obtain ⟨ad, e1, hx⟩ := Kd.at_int hr _ h0 h1
  subst e1
  have HLN := Aside0.mk (fun W (hb : Below w.heap.size w W) => impl_length_int64.calls (some ad) c T (T.length : Int) W (Kd.C_below hr hb) hc rfl)
  have c1 := eq_true h0
  have c2 := eq_true h1
  have c3 := eq_false (show ¬ (T.length : Int) = 0 by omega)
  have c3b : ((T.length : Int) == 0) = false := beq_eq_false_iff_ne.mpr (by omega)
  have c4 := eq_false (show ¬ T.length = 0 by omega)
  have HB := Aside0.mk (Below.refl w.heap.size w)
  clear hr hc hT hd ht hg h0 h1
  go_enter Try.func38, Try.ntmps38
  try go_wp2
  repeat (go_quiet (first | (go_at_call 39; refine (HLN.out _ zB).mono ?_; rintro e w' ⟨rfl, ⟨nd, rfl⟩⟩; (try exact zd))); try go_wp2)
  go_ret
  exact ⟨rfl, zB⟩
end Go.Proofs.Ytgmciimgmnnhmaa.P
end
section
namespace Go.Proofs.Ytgmciimgmnnhmaa.P
open Go.RowKit Go.Proofs.YtgmciimgmnnhmaaW.PrintWords Go.Proofs.YtgmciimgmnnhmaaW.PrintLast Go.Proofs.YtgmciimgmnnhmaaW.PrintMore
attribute [local go_sem] max2_int min2_int max_two min_two max_three min_three max_four min_four   -- for this text's walks alone
set_option linter.unusedVariables false
set_option linter.unusedSimpArgs false
def impl_isDays.f (a0 : Int) : Option (Bool) := (impl_within.f a0 0 200).bind fun t101 => (some t101)
set_option maxHeartbeats 8000000 in
set_option maxRecDepth 100000 in
theorem impl_isDays.calls (a0 : Int) (r : Bool) (w : World) (h : impl_isDays.f a0 = some r) :
    Calls Try.prog 36 #[.int .i64 a0] w fun e w' => e = .returned (.bool r) ∧ Drawn0 w w' := by
 have H : ((impl_within.f a0 0 200).bind fun t101 => (some t101)) = some r := h
 clear h
 replace H := Option.bind_eq_some_iff.mp H
 obtain ⟨t101, A20, H⟩ := H
 replace H : (some t101) = some r := H
 have A2 := Aside0.mk A20
 clear A20
 obtain rfl := Option.some.inj H
 go_enter Try.func36, Try.ntmps36
 go_wp2_with (first | ((with_reducible refine gate_callee (f := 54) rfl ?_); refine goesL_ (some 4) rfl rfl Try.func54 zk rfl #[.int .i64 a0, .int .i64 0, .int .i64 200] rfl zA ?_; (with_reducible refine (impl_within.calls a0 0 200 t101 _ A2.out).mono ?_); rintro e w' ⟨rfl, ⟨nd, rfl⟩⟩; refine ⟨_, rfl, ?_⟩))
 go_ret
 exact ⟨by first | rfl | (simp; done) | (simp [*]; done), by repeat (first | exact Drawn0.refl _ | apply Drawn0.step)⟩
end Go.Proofs.Ytgmciimgmnnhmaa.P
end
section
namespace Go.Proofs.Ytgmciimgmnnhmaa.P
open Go.RowKit Go.Proofs.YtgmciimgmnnhmaaW.PrintWords Go.Proofs.YtgmciimgmnnhmaaW.PrintLast Go.Proofs.YtgmciimgmnnhmaaW.PrintMore
attribute [local go_sem] max2_int min2_int max_two min_two max_three min_three max_four min_four   -- for this text's walks alone
set_option linter.unusedVariables false
set_option linter.unusedSimpArgs false
def heightsT (R T : List Int) : Nat → Nat → List Int → List Int
  | 0, _, H => H
  | n + 1, d, H => heightsT R T n (d + 1) (if rd T (Int.tmod (d : Int) (T.length : Int)) = -1 then grT R H 1 else (grT R H 1).set (rd T (Int.tmod (d : Int) (T.length : Int))).toNat 0)
def impl_HeightsBehind.f (l0_0 l1 : List Int) (a2 : Int) : Option (List Int × Int) :=
  (impl_areTurns.f l1 (l0_0.length : Int)).bind fun b => (if b = true then impl_isDays.f a2 else some false).bind fun c => (impl_gardenCode.f l0_0 c).bind fun t => if t = 0 then (if (l0_0.length ≤ 1000 ∧ 0 < l1.length ∧ ∀ x ∈ l1, x = -1 ∨ (0 ≤ x ∧ x < (l0_0.length : Int))) ∧ 0 ≤ a2 ∧ a2 ≤ 1000000 then some (heightsT l0_0 l1 a2.toNat 0 (List.replicate l0_0.length 0), 0) else none) else some ([], t)
set_option maxHeartbeats 8000000 in
set_option maxRecDepth 100000 in
theorem impl_HeightsBehind.calls (A0_0 : Option Addr) (c0_0 : Nat) (l0_0 : List Int) (A1 : Option Addr) (c1 : Nat) (l1 : List Int) (a2 : Int) (r1 : List Int) (r2 : Int) (w : World) (hr0_0 : Kd.C (Kd.int .i64) w A0_0 l0_0.length l0_0) (hc0_0 : l0_0.length ≤ c0_0) (hr1 : Kd.C (Kd.int .i64) w A1 l1.length l1) (hc1 : l1.length ≤ c1) (h : impl_HeightsBehind.f l0_0 l1 a2 = some (r1, r2)) :
    Calls Try.prog 9 #[.agg #[.slice A0_0 l0_0.length c0_0], .slice A1 l1.length c1, .int .i64 a2] w fun e w' => ∃ v0_ : Value, e = .returned (.tuple #[v0_, .int .i64 r2]) ∧ Kd.R (Kd.int .i64) 2 w' w.heap.size (fun _ => True) v0_ r1 ∧ Below w.heap.size w w' := by
  have hu26 := Try.underlying26
  have HB := Aside0.mk (Below.refl w.heap.size w)
  unfold impl_HeightsBehind.f at h
  obtain ⟨b, e1, h_⟩ := Option.bind_eq_some_iff.mp h
  clear h
  obtain ⟨c, e2, h⟩ := Option.bind_eq_some_iff.mp h_
  clear h_
  obtain ⟨t, e3, h_⟩ := Option.bind_eq_some_iff.mp h
  clear h
  have h := h_
  clear h_
  have E0 := Aside0.mk (fun W (hb : Below w.heap.size w W) => impl_Garden_many.calls A0_0 c0_0 l0_0 (l0_0.length : Int) W (Kd.C_below hr0_0 hb) hc0_0 rfl)
  have E1 := Aside0.mk (fun W (hb : Below w.heap.size w W) => impl_areTurns.calls A1 c1 l1 (l0_0.length : Int) b W (Kd.C_below hr1 hb) hc1 e1)
  have E3 := Aside0.mk (fun W (hb : Below w.heap.size w W) => impl_gardenCode.calls A0_0 c0_0 l0_0 c t W (Kd.C_below hr0_0 hb) hc0_0 e3)
  have HR0 := Aside0.mk hr0_0
  have HC0 := Aside0.mk hc0_0
  have HR1 := Aside0.mk hr1
  have HC1 := Aside0.mk hc1
  have eg : ∀ args w, (callFunc 38 args).run Try.prog w = .ok (.enter 38 args) w := enters_of Try.func38 zk rfl
  have EG := Aside0.mk eg
  clear e1 e3 hr0_0 hc0_0 hr1 hc1 eg
  cases b with
  | true =>
    rw [if_pos rfl] at e2
    have E2 := Aside0.mk e2
    clear e2
    by_cases ht : t = 0
    · subst ht
      rw [if_pos rfl] at h
      split at h
      · next hp =>
        simp only [Option.some.injEq, Prod.mk.injEq] at h
        obtain ⟨rfl, rfl⟩ := h
        obtain ⟨⟨p1, p2, p3⟩, p4, p5⟩ := hp
        have HP := Aside0.mk (⟨p1, p2, p3, p4, p5⟩ : l0_0.length ≤ 1000 ∧ 0 < l1.length ∧ (∀ x ∈ l1, x = -1 ∨ (0 ≤ x ∧ x < (l0_0.length : Int))) ∧ 0 ≤ a2 ∧ a2 ≤ 1000000)
        have HJ := Aside0.mk (fun (d : Nat) (A : Option Addr) (n c : Nat) (gt g10 : Nat) (W : World) (hb : Below w.heap.size w W) (ht : W.heap[gt]? = some (.cells #[.slice A1 l1.length c1] 24 (0, 0))) (hg : W.heap[g10]? = some (.cells #[.int .i64 (d : Int)] 2 (0, 0))) => impl_HeightsBehind_1.calls A1 c1 l1 (d : Int) gt g10 (.slice A n c) W (Kd.C_below HR1.out hb) HC1.out p2 (by omega) ht hg)
        clear p1 p2 p3 p4 p5
        obtain ⟨RES, hres⟩ : ∃ R_, R_ = heightsT l0_0 l1 a2.toNat 0 (List.replicate l0_0.length 0) := ⟨_, rfl⟩
        have HV := Aside0.mk (show heightsT l0_0 l1 (a2.toNat - 0) 0 (List.replicate l0_0.length 0) = RES by rw [hres, Nat.sub_zero])
        rw [← hres]
        clear hres
        go_enter Try.func9, Try.ntmps9
        go_wp2_with (first | ((with_reducible refine gate_dst (N := 3) rfl ?_); refine box_event zr (N := 3) zr (cs := #[.slice A0_0 l0_0.length c0_0]) (t := 26) zg ?_; intro gb hg w1 hbox hb; have n_ := y3 (below_step HB.out hb) (hbox) (zS hg : w.heap.size ≤ gb); clear HB; obtain ⟨HB, BK, GE⟩ := n_; clear hb hbox hg) | ((with_reducible refine gate_dst (N := 4) rfl ?_); refine box_event zr (N := 4) zr (cs := #[.slice A1 l1.length c1]) (t := 24) zg ?_; intro gt hg w2 hbox hb; have n_ := y3 (below_step HB.out hb) (blk_below BK.out hb) (hbox); clear HB BK; obtain ⟨HB, BK, BT⟩ := n_; clear hb hbox hg))
        refine start_ (n := 11) (S := fun w' => w'.cell? ⟨gb, 0, none⟩ = some (.slice A0_0 l0_0.length c0_0) ∧ w'.cell? ⟨gt, 0, none⟩ = some (.slice A1 l1.length c1)) (ds := [9]) #[false,false,false,false,false,false,false,false,false,false,false] zk rfl rfl ⟨zc BK.out, zc BT.out⟩ (fun hHeld => ?_)
        have n_ := y3 (below_drew1 HB.out) (blk_drew BK.out) (blk_drew BT.out)
        clear HB BK BT
        obtain ⟨HB, BK, BT⟩ := n_
        generalize w2.drew = wd at HB BK BT hHeld ⊢
        refine take_ (i := 0) (N := some 11) (v := ?_) (a' := ?_) #[true,false,false,false,false,false,false,false,false,false,false] rfl rfl zk (fun _ _ _ h => h) (Or.inl ⟨by rfl, ?_⟩) hHeld ?_ ?_
        rotate_left
        · rintro w' ⟨s0, s1⟩
          go_simp
          with_reducible rfl
        rotate_left
        exact zq
        refine take_ (i := 1) (N := some 12) (v := ?_) (a' := ?_) #[true,true,false,false,false,false,false,false,false,false,false] rfl rfl zk (fun _ _ _ h => h) (Or.inl ⟨by rfl, ?_⟩) hHeld ?_ ?_
        rotate_left
        · rintro w' ⟨s0, s1⟩
          go_simp
          with_reducible rfl
        rotate_left
        exact zq
        refine take_ (i := 2) (N := some 13) (v := ?_) (a' := ?_) #[true,true,true,false,false,false,false,false,false,false,false] rfl rfl zk (fun _ _ _ h => h) (Or.inl ⟨by rfl, ?_⟩) hHeld ?_ ?_
        rotate_left
        · rintro w' ⟨s0, s1⟩
          go_simp
          with_reducible rfl
        rotate_left
        exact zq
        refine one_ (i := 3) (N := some 14) #[true,true,true,true,false,false,false,false,false,false,false] rfl rfl zk (by decide) (fun K hK => ?_)
        refine goes_ Try.func28 zk rfl #[.agg #[.slice A0_0 l0_0.length c0_0]] (by rfl) rfl rfl (by (try simp only [List.map_toArray, List.map_cons, List.map_nil]); first | done | rfl) ?_
        refine (E0.out _ HB.out).mono ?_
        rintro e w3 ⟨rfl, hb⟩
        have hS := Aside0.mk hHeld
        clear hHeld
        have n_ := y3 (below_step HB.out hb) (blk_below BK.out hb) (blk_below BT.out hb)
        clear HB BK BT
        obtain ⟨HB, BK, BT⟩ := n_
        refine ⟨_, rfl, ?_⟩
        refine hK.out _ _ ⟨(hb.cell (World.block_lt_of_cell? _ _ hS.out.1)).trans hS.out.1, (hb.cell (World.block_lt_of_cell? _ _ hS.out.2)).trans hS.out.2⟩ (fun hHeld => ?_)
        clear hK K
        clear hb hS
        refine norm_ (a' := ?_) ?_ ?_
        rotate_left
        · show Act.put _ (some 14) _ = _
          simp only [Act.put, List.setIfInBounds_toArray, List.set_cons_zero, List.set_cons_succ, i64_w, i32_w]
          rfl
        refine one_ (i := 4) (N := some 15) #[true,true,true,true,true,false,false,false,false,false,false] rfl rfl zk (by decide) (fun K hK => ?_)
        refine goes_ Try.func27 zk rfl #[.slice A1 l1.length c1, .int .i64 (l0_0.length : Int)] (by rfl) rfl rfl (by (try simp only [List.map_toArray, List.map_cons, List.map_nil]); first | done | rfl) ?_
        refine (E1.out _ HB.out).mono ?_
        rintro e w4 ⟨rfl, hb⟩
        have hS := Aside0.mk hHeld
        clear hHeld
        have n_ := y3 (below_step HB.out hb) (blk_below BK.out hb) (blk_below BT.out hb)
        clear HB BK BT
        obtain ⟨HB, BK, BT⟩ := n_
        refine ⟨_, rfl, ?_⟩
        refine hK.out _ _ ⟨(hb.cell (World.block_lt_of_cell? _ _ hS.out.1)).trans hS.out.1, (hb.cell (World.block_lt_of_cell? _ _ hS.out.2)).trans hS.out.2⟩ (fun hHeld => ?_)
        clear hK K
        clear hb hS
        refine norm_ (a' := ?_) ?_ ?_
        rotate_left
        · show Act.put _ (some 15) _ = _
          simp only [Act.put, List.setIfInBounds_toArray, List.set_cons_zero, List.set_cons_succ, i64_w, i32_w]
          rfl
        refine pure_ (i := 5) (N := some 16) (v := ?_) (a' := ?_) #[true,true,true,true,true,true,false,false,false,false,false] rfl rfl zk (fun _ _ _ h => h) (Or.inl ⟨by rfl, ?_⟩) ?_ ?_
        rotate_left; exact zp; rotate_left; exact zq
        refine pure_ (i := 6) (N := some 17) (v := ?_) (a' := ?_) #[true,true,true,true,true,true,true,false,false,false,false] rfl rfl zk (fun _ _ _ h => h) (Or.inl ⟨by rfl, ?_⟩) ?_ ?_
        rotate_left; exact zp; rotate_left; exact zq
        refine one_ (i := 7) (N := some 18) #[true,true,true,true,true,true,true,true,false,false,false] rfl rfl zk (by decide) (fun K hK => ?_)
        refine goes_ Try.func36 zk rfl #[.int .i64 a2] (by rfl) rfl rfl (by (try simp only [List.map_toArray, List.map_cons, List.map_nil]); first | done | rfl) ?_
        refine (impl_isDays.calls a2 c _ E2.out).mono ?_
        rintro e w5 ⟨rfl, hb0⟩
        have hb := hb0.below
        have hS := Aside0.mk hHeld
        clear hHeld
        have n_ := y3 (below_step HB.out hb) (blk_below BK.out hb) (blk_below BT.out hb)
        clear HB BK BT
        obtain ⟨HB, BK, BT⟩ := n_
        refine ⟨_, rfl, ?_⟩
        refine hK.out _ _ ⟨(hb.cell (World.block_lt_of_cell? _ _ hS.out.1)).trans hS.out.1, (hb.cell (World.block_lt_of_cell? _ _ hS.out.2)).trans hS.out.2⟩ (fun hHeld => ?_)
        clear hK K
        clear hb hb0 hS
        refine norm_ (a' := ?_) ?_ ?_
        rotate_left
        · show Act.put _ (some 18) _ = _
          simp only [Act.put, List.setIfInBounds_toArray, List.set_cons_zero, List.set_cons_succ, i64_w, i32_w]
          rfl
        refine pure_ (i := 8) (N := some 19) (v := ?_) (a' := ?_) #[true,true,true,true,true,true,true,true,true,false,false] rfl rfl zk (fun _ _ _ h => h) (Or.inl ⟨by rfl, ?_⟩) ?_ ?_
        rotate_left; exact zp; rotate_left; exact zq
        refine last_ (i := 9) (N := some 20) #[true,true,true,true,true,true,true,true,true,true,false] rfl rfl zk (by decide) (fun K hK => ?_)
        refine goes_ Try.func26 zk rfl #[.agg #[.slice A0_0 l0_0.length c0_0], .bool c] (by rfl) rfl rfl (by (try simp only [List.map_toArray, List.map_cons, List.map_nil]); first | done | rfl) ?_
        refine (E3.out _ HB.out).mono ?_
        rintro e w6 ⟨rfl, hb⟩
        have n_ := y3 (below_step HB.out hb) (blk_below BK.out hb) (blk_below BT.out hb)
        clear HB BK BT
        obtain ⟨HB, BK, BT⟩ := n_
        refine ⟨_, rfl, ?_⟩
        refine hK.out _ _ ?_
        clear hK K
        clear hb hHeld
        refine norm_ (a' := ?_) ?_ ?_
        rotate_left
        · show Act.put _ (some 20) _ = _
          simp only [Act.put, List.setIfInBounds_toArray, List.set_cons_zero, List.set_cons_succ, i64_w, i32_w]
          rfl
        refine pure_ (i := 10) (N := some 8) (v := ?_) (a' := ?_) #[true,true,true,true,true,true,true,true,true,true,true] rfl rfl zk (fun _ _ _ h => h) (Or.inl ⟨by rfl, ?_⟩) ?_ ?_
        rotate_left; exact zp; rotate_left; exact zq
        refine done_ zk ?_
        have hq := zc BK.out
        have hq2 := zc BT.out
        go_wp2_with (first | (go_at_call 28; refine (E0.out _ HB.out).mono ?_; rintro e w7 ⟨rfl, hb⟩; have n_ := y3 (below_step HB.out hb) (blk_below BK.out hb) (blk_below BT.out hb); clear HB BK BT; obtain ⟨HB, BK, BT⟩ := n_; clear hb) | ((with_reducible refine gate_dst (N := 26) rfl ?_); refine Kd.R_make (Kd.int .i64) _ 2 rfl (N := 26) rfl 24 _ _ rfl (l0_0.length : Int) rfl rfl Try.underlying24 (.int .i64 0) 8 info2 rfl (by decide) (by omega) 0 (ok := fun _ => True) (okp := fun _ => True) rfl (fun _ hk => hk) trivial (by omega) (by have := HP.out.1; omega) (Below.refl _ _) (Nat.le_refl _) ?_; intro v9 w8 ho hb hg_ hnew_; have n_ := y4 (Kd.R_lower ho (below_size HB.out)) (below_step HB.out hb) (blk_below BK.out hb) (blk_below BT.out hb); clear HB BK BT; obtain ⟨HO, HB, BK, BT⟩ := n_; clear hb ho hg_ hnew_))
        rw [Int.toNat_natCast] at HO
        clear hq hq2
        go_loopg [9, 28] (a2.toNat + 1) (fun kq v9 v28 w' => ∃ (d : Nat) (H : List Int), v28 = .int .i64 (d : Int) ∧ Aside0 (d + kq = a2.toNat + 1) ∧ Aside0 (H.length = l0_0.length) ∧ Aside0 (heightsT l0_0 l1 (a2.toNat - d) d H = RES) ∧ Aside0 (Kd.R (Kd.int .i64) 2 w' w.heap.size (fun _ => True) v9 H) ∧ Aside0 (w'.heap[gb]? = some (.cells #[.slice A0_0 l0_0.length c0_0] 26 (0, 0))) ∧ Aside0 (w'.heap[gt]? = some (.cells #[.slice A1 l1.length c1] 24 (0, 0))) ∧ Aside0 (Below w.heap.size w w'))
        case atStart => exact ⟨0, List.replicate l0_0.length 0, rfl, ⟨by omega⟩, ⟨List.length_replicate⟩, HV, ⟨zR HO.out⟩, ⟨zG BK.out⟩, ⟨zG BT.out⟩, ⟨zB⟩⟩
        case round =>
          clear HV HO BK BT HB
          obtain ⟨d, H, rfl, HD, HN, HV, HO, BK, BT, HB⟩ := hrel
          by_cases hd : (d : Int) < a2
          · have hd1 : decide ((d : Int) < a2) = true := decide_eq_true hd
            obtain ⟨k1, rfl⟩ : ∃ k1, gk = k1 + 1 := ⟨gk - 1, by have := HD.out; omega⟩
            have hv := HV.out
            rw [show a2.toNat - d = (a2.toNat - (d + 1)) + 1 by omega, heightsT] at hv
            have HW := Aside0.mk (show wrap64 ((d : Int) + 1) = ((d + 1 : Nat) : Int) by have := HP.out.2.2.2.2; unfold wrap64; omega)
            have hj0 : 0 ≤ Int.tmod (d : Int) (l1.length : Int) := Int.tmod_nonneg _ (by omega)
            have hj1 : Int.tmod (d : Int) (l1.length : Int) < (l1.length : Int) := Int.tmod_lt_of_pos _ (by have := HP.out.2.1; omega)
            have hmem : rd l1 (Int.tmod (d : Int) (l1.length : Int)) ∈ l1 := rd_mem hj0 hj1
            have HI := Aside0.mk (HP.out.2.2.1 _ hmem)
            have HV1 := Aside0.mk hv
            have HLN := Aside0.mk (grT_length (R := l0_0) (H := H) 1 HN.out)
            have hj := HJ.out d
            generalize rd l1 (Int.tmod (d : Int) (l1.length : Int)) = i at HI HV1 hj
            have HJ1 := Aside0.mk hj
            have hd2 := eq_true hd
            obtain ⟨Ah, ch, rfl⟩ := Kd.R_slice HO.out
            have hq := zc BK.out
            have hq2 := zc BT.out
            clear hj hj0 hj1 hmem hv HV hd
            go_wp2_with (first | ((with_reducible refine gate_dst (N := 10) rfl ?_); refine box_event zr (N := 10) zr (cs := #[.int .i64 0]) (t := 2) zg ?_; intro g10 hg w9 hbox hb; have hnb : gb ≠ g10 := Nat.ne_of_lt (Nat.lt_of_lt_of_eq (blk_lt BK.out) hg.symm); have hnt : gt ≠ g10 := Nat.ne_of_lt (Nat.lt_of_lt_of_eq (blk_lt BT.out) hg.symm); have hnb' := hnb.symm; have hnt' := hnt.symm; have n_ := y6 (zS hg : w.heap.size ≤ g10) (Kd.R_elderB HO.out g10 (Nat.le_of_eq hg.symm)) (below_step HB.out hb) (blk_below BK.out hb) (blk_below BT.out hb) (hbox); clear HO HB BK BT; obtain ⟨GE10, HO, HB, BK, BT, B10⟩ := n_; have HO1 := Aside0.mk (Kd.R_below HO.out hb); clear HO hb hbox hg; have h10 := zc B10.out; have hf10 := blk_frozen B10.out 0; have hq3 := zc BK.out; have hq4 := zc BT.out; have HNB := Aside0.mk hnb; have HNT := Aside0.mk hnt) | (go_at_call 37; have bs := below_set HB.out GE10.out (j := 0) (v := .int .i64 (d : Int)); have hs_ := Kd.R_far HO1.out (p := ⟨g10, 0, none⟩) (fun k_ hk => hk.2) (.int .i64 (d : Int)); have b3 := blk_far BK.out (p := ⟨g10, 0, none⟩) HNB.out (.int .i64 (d : Int)); have b4 := blk_far BT.out (p := ⟨g10, 0, none⟩) HNT.out (.int .i64 (d : Int)); have b10 := blk_put (cs' := #[.int .i64 (d : Int)]) B10.out 0 (.int .i64 (d : Int)) rfl; refine (impl_Garden_day.calls A0_0 c0_0 l0_0 Ah ch H 38 #[.pointer (some ⟨gt, 0, none⟩), .pointer (some ⟨g10, 0, none⟩)] EG.out i _ (Kd.C_below HR0.out bs) HC0.out (Kd.R_reads' hs_).2.2 (Kd.R_reads' hs_).2.1 HN.out (by have := HN.out; have := HP.out.1; omega) HI.out (fun W A c hb hC hc => HJ1.out A _ c gt g10 W (below_step bs hb) (blk_below b4 hb) (blk_below b10 hb))).mono ?_; rintro e w10 ⟨v36, v37, rfl, hR, hb⟩; have n_ := y4 (Kd.R_lower hR (below_size bs)) (below_step bs hb) (blk_below b3 hb) (blk_below b4 hb); clear HB BK BT HO1 B10 hR hb bs hs_ b3 b4 b10 h10 hf10 hq3 hq4 hnb hnt hnb' hnt' hq hq2; obtain ⟨HO, HB, BK, BT⟩ := n_))
            go_roundg k1
            case measure => omega
            case rel => exact ⟨d + 1, _, by rw [HW.out], ⟨by have := HD.out; omega⟩, ⟨by have := HLN.out; split <;> simp [this]⟩, HV1, ⟨zR HO.out⟩, ⟨zG BK.out⟩, ⟨zG BT.out⟩, ⟨zB⟩⟩
          · have hd1 : decide ((d : Int) < a2) = false := decide_eq_false hd
            have hv := HV.out
            rw [show a2.toNat - d = 0 by omega, heightsT] at hv
            subst hv
            go_wp2
            go_ret2
            exact ⟨_, rfl, HO.out, HB.out⟩
      · cases h
    · rw [if_neg ht] at h
      simp only [Option.some.injEq, Prod.mk.injEq] at h
      obtain ⟨rfl, rfl⟩ := h
      have ht1 : (t == 0) = false := beq_eq_false_iff_ne.mpr ht
      have ht2 : (t != 0) = true := bne_iff_ne.mpr ht
      clear ht
      go_enter Try.func9, Try.ntmps9
      go_wp2_with (first | ((with_reducible refine gate_dst (N := 3) rfl ?_); refine box_event zr (N := 3) zr (cs := #[.slice A0_0 l0_0.length c0_0]) (t := 26) zg ?_; intro gb hg w1 hbox hb; have n_ := y3 (below_step HB.out hb) (hbox) (zS hg : w.heap.size ≤ gb); clear HB; obtain ⟨HB, BK, GE⟩ := n_; clear hb hbox hg) | ((with_reducible refine gate_dst (N := 4) rfl ?_); refine box_event zr (N := 4) zr (cs := #[.slice A1 l1.length c1]) (t := 24) zg ?_; intro gt hg w2 hbox hb; have n_ := y3 (below_step HB.out hb) (blk_below BK.out hb) (hbox); clear HB BK; obtain ⟨HB, BK, BT⟩ := n_; clear hb hbox hg))
      refine start_ (n := 11) (S := fun w' => w'.cell? ⟨gb, 0, none⟩ = some (.slice A0_0 l0_0.length c0_0) ∧ w'.cell? ⟨gt, 0, none⟩ = some (.slice A1 l1.length c1)) (ds := [9]) #[false,false,false,false,false,false,false,false,false,false,false] zk rfl rfl ⟨zc BK.out, zc BT.out⟩ (fun hHeld => ?_)
      have n_ := y3 (below_drew1 HB.out) (blk_drew BK.out) (blk_drew BT.out)
      clear HB BK BT
      obtain ⟨HB, BK, BT⟩ := n_
      generalize w2.drew = wd at HB BK BT hHeld ⊢
      refine take_ (i := 0) (N := some 11) (v := ?_) (a' := ?_) #[true,false,false,false,false,false,false,false,false,false,false] rfl rfl zk (fun _ _ _ h => h) (Or.inl ⟨by rfl, ?_⟩) hHeld ?_ ?_
      rotate_left
      · rintro w' ⟨s0, s1⟩
        go_simp
        with_reducible rfl
      rotate_left
      exact zq
      refine take_ (i := 1) (N := some 12) (v := ?_) (a' := ?_) #[true,true,false,false,false,false,false,false,false,false,false] rfl rfl zk (fun _ _ _ h => h) (Or.inl ⟨by rfl, ?_⟩) hHeld ?_ ?_
      rotate_left
      · rintro w' ⟨s0, s1⟩
        go_simp
        with_reducible rfl
      rotate_left
      exact zq
      refine take_ (i := 2) (N := some 13) (v := ?_) (a' := ?_) #[true,true,true,false,false,false,false,false,false,false,false] rfl rfl zk (fun _ _ _ h => h) (Or.inl ⟨by rfl, ?_⟩) hHeld ?_ ?_
      rotate_left
      · rintro w' ⟨s0, s1⟩
        go_simp
        with_reducible rfl
      rotate_left
      exact zq
      refine one_ (i := 3) (N := some 14) #[true,true,true,true,false,false,false,false,false,false,false] rfl rfl zk (by decide) (fun K hK => ?_)
      refine goes_ Try.func28 zk rfl #[.agg #[.slice A0_0 l0_0.length c0_0]] (by rfl) rfl rfl (by (try simp only [List.map_toArray, List.map_cons, List.map_nil]); first | done | rfl) ?_
      refine (E0.out _ HB.out).mono ?_
      rintro e w3 ⟨rfl, hb⟩
      have hS := Aside0.mk hHeld
      clear hHeld
      have n_ := y3 (below_step HB.out hb) (blk_below BK.out hb) (blk_below BT.out hb)
      clear HB BK BT
      obtain ⟨HB, BK, BT⟩ := n_
      refine ⟨_, rfl, ?_⟩
      refine hK.out _ _ ⟨(hb.cell (World.block_lt_of_cell? _ _ hS.out.1)).trans hS.out.1, (hb.cell (World.block_lt_of_cell? _ _ hS.out.2)).trans hS.out.2⟩ (fun hHeld => ?_)
      clear hK K
      clear hb hS
      refine norm_ (a' := ?_) ?_ ?_
      rotate_left
      · show Act.put _ (some 14) _ = _
        simp only [Act.put, List.setIfInBounds_toArray, List.set_cons_zero, List.set_cons_succ, i64_w, i32_w]
        rfl
      refine one_ (i := 4) (N := some 15) #[true,true,true,true,true,false,false,false,false,false,false] rfl rfl zk (by decide) (fun K hK => ?_)
      refine goes_ Try.func27 zk rfl #[.slice A1 l1.length c1, .int .i64 (l0_0.length : Int)] (by rfl) rfl rfl (by (try simp only [List.map_toArray, List.map_cons, List.map_nil]); first | done | rfl) ?_
      refine (E1.out _ HB.out).mono ?_
      rintro e w4 ⟨rfl, hb⟩
      have hS := Aside0.mk hHeld
      clear hHeld
      have n_ := y3 (below_step HB.out hb) (blk_below BK.out hb) (blk_below BT.out hb)
      clear HB BK BT
      obtain ⟨HB, BK, BT⟩ := n_
      refine ⟨_, rfl, ?_⟩
      refine hK.out _ _ ⟨(hb.cell (World.block_lt_of_cell? _ _ hS.out.1)).trans hS.out.1, (hb.cell (World.block_lt_of_cell? _ _ hS.out.2)).trans hS.out.2⟩ (fun hHeld => ?_)
      clear hK K
      clear hb hS
      refine norm_ (a' := ?_) ?_ ?_
      rotate_left
      · show Act.put _ (some 15) _ = _
        simp only [Act.put, List.setIfInBounds_toArray, List.set_cons_zero, List.set_cons_succ, i64_w, i32_w]
        rfl
      refine pure_ (i := 5) (N := some 16) (v := ?_) (a' := ?_) #[true,true,true,true,true,true,false,false,false,false,false] rfl rfl zk (fun _ _ _ h => h) (Or.inl ⟨by rfl, ?_⟩) ?_ ?_
      rotate_left; exact zp; rotate_left; exact zq
      refine pure_ (i := 6) (N := some 17) (v := ?_) (a' := ?_) #[true,true,true,true,true,true,true,false,false,false,false] rfl rfl zk (fun _ _ _ h => h) (Or.inl ⟨by rfl, ?_⟩) ?_ ?_
      rotate_left; exact zp; rotate_left; exact zq
      refine one_ (i := 7) (N := some 18) #[true,true,true,true,true,true,true,true,false,false,false] rfl rfl zk (by decide) (fun K hK => ?_)
      refine goes_ Try.func36 zk rfl #[.int .i64 a2] (by rfl) rfl rfl (by (try simp only [List.map_toArray, List.map_cons, List.map_nil]); first | done | rfl) ?_
      refine (impl_isDays.calls a2 c _ E2.out).mono ?_
      rintro e w5 ⟨rfl, hb0⟩
      have hb := hb0.below
      have hS := Aside0.mk hHeld
      clear hHeld
      have n_ := y3 (below_step HB.out hb) (blk_below BK.out hb) (blk_below BT.out hb)
      clear HB BK BT
      obtain ⟨HB, BK, BT⟩ := n_
      refine ⟨_, rfl, ?_⟩
      refine hK.out _ _ ⟨(hb.cell (World.block_lt_of_cell? _ _ hS.out.1)).trans hS.out.1, (hb.cell (World.block_lt_of_cell? _ _ hS.out.2)).trans hS.out.2⟩ (fun hHeld => ?_)
      clear hK K
      clear hb hb0 hS
      refine norm_ (a' := ?_) ?_ ?_
      rotate_left
      · show Act.put _ (some 18) _ = _
        simp only [Act.put, List.setIfInBounds_toArray, List.set_cons_zero, List.set_cons_succ, i64_w, i32_w]
        rfl
      refine pure_ (i := 8) (N := some 19) (v := ?_) (a' := ?_) #[true,true,true,true,true,true,true,true,true,false,false] rfl rfl zk (fun _ _ _ h => h) (Or.inl ⟨by rfl, ?_⟩) ?_ ?_
      rotate_left; exact zp; rotate_left; exact zq
      refine last_ (i := 9) (N := some 20) #[true,true,true,true,true,true,true,true,true,true,false] rfl rfl zk (by decide) (fun K hK => ?_)
      refine goes_ Try.func26 zk rfl #[.agg #[.slice A0_0 l0_0.length c0_0], .bool c] (by rfl) rfl rfl (by (try simp only [List.map_toArray, List.map_cons, List.map_nil]); first | done | rfl) ?_
      refine (E3.out _ HB.out).mono ?_
      rintro e w6 ⟨rfl, hb⟩
      have n_ := y3 (below_step HB.out hb) (blk_below BK.out hb) (blk_below BT.out hb)
      clear HB BK BT
      obtain ⟨HB, BK, BT⟩ := n_
      refine ⟨_, rfl, ?_⟩
      refine hK.out _ _ ?_
      clear hK K
      clear hb hHeld
      refine norm_ (a' := ?_) ?_ ?_
      rotate_left
      · show Act.put _ (some 20) _ = _
        simp only [Act.put, List.setIfInBounds_toArray, List.set_cons_zero, List.set_cons_succ, i64_w, i32_w]
        rfl
      refine pure_ (i := 10) (N := some 8) (v := ?_) (a' := ?_) #[true,true,true,true,true,true,true,true,true,true,true] rfl rfl zk (fun _ _ _ h => h) (Or.inl ⟨by rfl, ?_⟩) ?_ ?_
      rotate_left; exact zp; rotate_left; exact zq
      refine done_ zk ?_
      have hq := zc BK.out
      have hq2 := zc BT.out
      go_wp2
      go_ret2
      exact ⟨_, rfl, Kd.R_nil _ _ _ _ _, HB.out⟩
  | false =>
    rw [if_neg (by decide)] at e2
    obtain rfl := Option.some.inj e2
    by_cases ht : t = 0
    · subst ht
      rw [if_pos rfl] at h
      split at h
      · next hp =>
        simp only [Option.some.injEq, Prod.mk.injEq] at h
        obtain ⟨rfl, rfl⟩ := h
        obtain ⟨⟨p1, p2, p3⟩, p4, p5⟩ := hp
        have HP := Aside0.mk (⟨p1, p2, p3, p4, p5⟩ : l0_0.length ≤ 1000 ∧ 0 < l1.length ∧ (∀ x ∈ l1, x = -1 ∨ (0 ≤ x ∧ x < (l0_0.length : Int))) ∧ 0 ≤ a2 ∧ a2 ≤ 1000000)
        have HJ := Aside0.mk (fun (d : Nat) (A : Option Addr) (n c : Nat) (gt g10 : Nat) (W : World) (hb : Below w.heap.size w W) (ht : W.heap[gt]? = some (.cells #[.slice A1 l1.length c1] 24 (0, 0))) (hg : W.heap[g10]? = some (.cells #[.int .i64 (d : Int)] 2 (0, 0))) => impl_HeightsBehind_1.calls A1 c1 l1 (d : Int) gt g10 (.slice A n c) W (Kd.C_below HR1.out hb) HC1.out p2 (by omega) ht hg)
        clear p1 p2 p3 p4 p5
        obtain ⟨RES, hres⟩ : ∃ R_, R_ = heightsT l0_0 l1 a2.toNat 0 (List.replicate l0_0.length 0) := ⟨_, rfl⟩
        have HV := Aside0.mk (show heightsT l0_0 l1 (a2.toNat - 0) 0 (List.replicate l0_0.length 0) = RES by rw [hres, Nat.sub_zero])
        rw [← hres]
        clear hres
        go_enter Try.func9, Try.ntmps9
        go_wp2_with (first | ((with_reducible refine gate_dst (N := 3) rfl ?_); refine box_event zr (N := 3) zr (cs := #[.slice A0_0 l0_0.length c0_0]) (t := 26) zg ?_; intro gb hg w1 hbox hb; have n_ := y3 (below_step HB.out hb) (hbox) (zS hg : w.heap.size ≤ gb); clear HB; obtain ⟨HB, BK, GE⟩ := n_; clear hb hbox hg) | ((with_reducible refine gate_dst (N := 4) rfl ?_); refine box_event zr (N := 4) zr (cs := #[.slice A1 l1.length c1]) (t := 24) zg ?_; intro gt hg w2 hbox hb; have n_ := y3 (below_step HB.out hb) (blk_below BK.out hb) (hbox); clear HB BK; obtain ⟨HB, BK, BT⟩ := n_; clear hb hbox hg))
        refine start_ (n := 11) (S := fun w' => w'.cell? ⟨gb, 0, none⟩ = some (.slice A0_0 l0_0.length c0_0) ∧ w'.cell? ⟨gt, 0, none⟩ = some (.slice A1 l1.length c1)) (ds := [9]) #[false,false,false,false,false,false,false,false,false,false,false] zk rfl rfl ⟨zc BK.out, zc BT.out⟩ (fun hHeld => ?_)
        have n_ := y3 (below_drew1 HB.out) (blk_drew BK.out) (blk_drew BT.out)
        clear HB BK BT
        obtain ⟨HB, BK, BT⟩ := n_
        generalize w2.drew = wd at HB BK BT hHeld ⊢
        refine take_ (i := 0) (N := some 11) (v := ?_) (a' := ?_) #[true,false,false,false,false,false,false,false,false,false,false] rfl rfl zk (fun _ _ _ h => h) (Or.inl ⟨by rfl, ?_⟩) hHeld ?_ ?_
        rotate_left
        · rintro w' ⟨s0, s1⟩
          go_simp
          with_reducible rfl
        rotate_left
        exact zq
        refine take_ (i := 1) (N := some 12) (v := ?_) (a' := ?_) #[true,true,false,false,false,false,false,false,false,false,false] rfl rfl zk (fun _ _ _ h => h) (Or.inl ⟨by rfl, ?_⟩) hHeld ?_ ?_
        rotate_left
        · rintro w' ⟨s0, s1⟩
          go_simp
          with_reducible rfl
        rotate_left
        exact zq
        refine take_ (i := 2) (N := some 13) (v := ?_) (a' := ?_) #[true,true,true,false,false,false,false,false,false,false,false] rfl rfl zk (fun _ _ _ h => h) (Or.inl ⟨by rfl, ?_⟩) hHeld ?_ ?_
        rotate_left
        · rintro w' ⟨s0, s1⟩
          go_simp
          with_reducible rfl
        rotate_left
        exact zq
        refine one_ (i := 3) (N := some 14) #[true,true,true,true,false,false,false,false,false,false,false] rfl rfl zk (by decide) (fun K hK => ?_)
        refine goes_ Try.func28 zk rfl #[.agg #[.slice A0_0 l0_0.length c0_0]] (by rfl) rfl rfl (by (try simp only [List.map_toArray, List.map_cons, List.map_nil]); first | done | rfl) ?_
        refine (E0.out _ HB.out).mono ?_
        rintro e w3 ⟨rfl, hb⟩
        have hS := Aside0.mk hHeld
        clear hHeld
        have n_ := y3 (below_step HB.out hb) (blk_below BK.out hb) (blk_below BT.out hb)
        clear HB BK BT
        obtain ⟨HB, BK, BT⟩ := n_
        refine ⟨_, rfl, ?_⟩
        refine hK.out _ _ ⟨(hb.cell (World.block_lt_of_cell? _ _ hS.out.1)).trans hS.out.1, (hb.cell (World.block_lt_of_cell? _ _ hS.out.2)).trans hS.out.2⟩ (fun hHeld => ?_)
        clear hK K
        clear hb hS
        refine norm_ (a' := ?_) ?_ ?_
        rotate_left
        · show Act.put _ (some 14) _ = _
          simp only [Act.put, List.setIfInBounds_toArray, List.set_cons_zero, List.set_cons_succ, i64_w, i32_w]
          rfl
        refine one_ (i := 4) (N := some 15) #[true,true,true,true,true,false,false,false,false,false,false] rfl rfl zk (by decide) (fun K hK => ?_)
        refine goes_ Try.func27 zk rfl #[.slice A1 l1.length c1, .int .i64 (l0_0.length : Int)] (by rfl) rfl rfl (by (try simp only [List.map_toArray, List.map_cons, List.map_nil]); first | done | rfl) ?_
        refine (E1.out _ HB.out).mono ?_
        rintro e w4 ⟨rfl, hb⟩
        have hS := Aside0.mk hHeld
        clear hHeld
        have n_ := y3 (below_step HB.out hb) (blk_below BK.out hb) (blk_below BT.out hb)
        clear HB BK BT
        obtain ⟨HB, BK, BT⟩ := n_
        refine ⟨_, rfl, ?_⟩
        refine hK.out _ _ ⟨(hb.cell (World.block_lt_of_cell? _ _ hS.out.1)).trans hS.out.1, (hb.cell (World.block_lt_of_cell? _ _ hS.out.2)).trans hS.out.2⟩ (fun hHeld => ?_)
        clear hK K
        clear hb hS
        refine norm_ (a' := ?_) ?_ ?_
        rotate_left
        · show Act.put _ (some 15) _ = _
          simp only [Act.put, List.setIfInBounds_toArray, List.set_cons_zero, List.set_cons_succ, i64_w, i32_w]
          rfl
        refine pure_ (i := 5) (N := some 16) (v := ?_) (a' := ?_) #[true,true,true,true,true,true,false,false,false,false,false] rfl rfl zk (fun _ _ _ h => h) (Or.inl ⟨by rfl, ?_⟩) ?_ ?_
        rotate_left; exact zp; rotate_left; exact zq
        refine pure_ (i := 6) (N := some 17) (v := undef) (a' := ?_) #[true,true,true,true,true,true,true,false,false,false,false] rfl rfl zk (fun _ _ _ h => h) (Or.inr ⟨by rfl, rfl⟩) ?_ ?_
        rotate_left
        exact zq
        refine one_ (i := 7) (N := some 18) #[true,true,true,true,true,true,true,true,false,false,false] rfl rfl zk (by decide) (fun K hK => ?_)
        refine off_ (by rfl) ?_
        refine hK.out _ _ hHeld (fun hHeld => ?_)
        clear hK K
        refine norm_ (a' := ?_) ?_ ?_
        rotate_left
        · show Act.put _ (some 18) _ = _
          simp only [Act.put, List.setIfInBounds_toArray, List.set_cons_zero, List.set_cons_succ, i64_w, i32_w]
          rfl
        refine pure_ (i := 8) (N := some 19) (v := ?_) (a' := ?_) #[true,true,true,true,true,true,true,true,true,false,false] rfl rfl zk (fun _ _ _ h => h) (Or.inl ⟨by rfl, ?_⟩) ?_ ?_
        rotate_left; exact zp; rotate_left; exact zq
        refine last_ (i := 9) (N := some 20) #[true,true,true,true,true,true,true,true,true,true,false] rfl rfl zk (by decide) (fun K hK => ?_)
        refine goes_ Try.func26 zk rfl #[.agg #[.slice A0_0 l0_0.length c0_0], .bool false] (by rfl) rfl rfl (by (try simp only [List.map_toArray, List.map_cons, List.map_nil]); first | done | rfl) ?_
        refine (E3.out _ HB.out).mono ?_
        rintro e w6 ⟨rfl, hb⟩
        have n_ := y3 (below_step HB.out hb) (blk_below BK.out hb) (blk_below BT.out hb)
        clear HB BK BT
        obtain ⟨HB, BK, BT⟩ := n_
        refine ⟨_, rfl, ?_⟩
        refine hK.out _ _ ?_
        clear hK K
        clear hb hHeld
        refine norm_ (a' := ?_) ?_ ?_
        rotate_left
        · show Act.put _ (some 20) _ = _
          simp only [Act.put, List.setIfInBounds_toArray, List.set_cons_zero, List.set_cons_succ, i64_w, i32_w]
          rfl
        refine pure_ (i := 10) (N := some 8) (v := ?_) (a' := ?_) #[true,true,true,true,true,true,true,true,true,true,true] rfl rfl zk (fun _ _ _ h => h) (Or.inl ⟨by rfl, ?_⟩) ?_ ?_
        rotate_left; exact zp; rotate_left; exact zq
        refine done_ zk ?_
        have hq := zc BK.out
        have hq2 := zc BT.out
        go_wp2_with (first | (go_at_call 28; refine (E0.out _ HB.out).mono ?_; rintro e w7 ⟨rfl, hb⟩; have n_ := y3 (below_step HB.out hb) (blk_below BK.out hb) (blk_below BT.out hb); clear HB BK BT; obtain ⟨HB, BK, BT⟩ := n_; clear hb) | ((with_reducible refine gate_dst (N := 26) rfl ?_); refine Kd.R_make (Kd.int .i64) _ 2 rfl (N := 26) rfl 24 _ _ rfl (l0_0.length : Int) rfl rfl Try.underlying24 (.int .i64 0) 8 info2 rfl (by decide) (by omega) 0 (ok := fun _ => True) (okp := fun _ => True) rfl (fun _ hk => hk) trivial (by omega) (by have := HP.out.1; omega) (Below.refl _ _) (Nat.le_refl _) ?_; intro v9 w8 ho hb hg_ hnew_; have n_ := y4 (Kd.R_lower ho (below_size HB.out)) (below_step HB.out hb) (blk_below BK.out hb) (blk_below BT.out hb); clear HB BK BT; obtain ⟨HO, HB, BK, BT⟩ := n_; clear hb ho hg_ hnew_))
        rw [Int.toNat_natCast] at HO
        clear hq hq2
        go_loopg [9, 28] (a2.toNat + 1) (fun kq v9 v28 w' => ∃ (d : Nat) (H : List Int), v28 = .int .i64 (d : Int) ∧ Aside0 (d + kq = a2.toNat + 1) ∧ Aside0 (H.length = l0_0.length) ∧ Aside0 (heightsT l0_0 l1 (a2.toNat - d) d H = RES) ∧ Aside0 (Kd.R (Kd.int .i64) 2 w' w.heap.size (fun _ => True) v9 H) ∧ Aside0 (w'.heap[gb]? = some (.cells #[.slice A0_0 l0_0.length c0_0] 26 (0, 0))) ∧ Aside0 (w'.heap[gt]? = some (.cells #[.slice A1 l1.length c1] 24 (0, 0))) ∧ Aside0 (Below w.heap.size w w'))
        case atStart => exact ⟨0, List.replicate l0_0.length 0, rfl, ⟨by omega⟩, ⟨List.length_replicate⟩, HV, ⟨zR HO.out⟩, ⟨zG BK.out⟩, ⟨zG BT.out⟩, ⟨zB⟩⟩
        case round =>
          clear HV HO BK BT HB
          obtain ⟨d, H, rfl, HD, HN, HV, HO, BK, BT, HB⟩ := hrel
          by_cases hd : (d : Int) < a2
          · have hd1 : decide ((d : Int) < a2) = true := decide_eq_true hd
            obtain ⟨k1, rfl⟩ : ∃ k1, gk = k1 + 1 := ⟨gk - 1, by have := HD.out; omega⟩
            have hv := HV.out
            rw [show a2.toNat - d = (a2.toNat - (d + 1)) + 1 by omega, heightsT] at hv
            have HW := Aside0.mk (show wrap64 ((d : Int) + 1) = ((d + 1 : Nat) : Int) by have := HP.out.2.2.2.2; unfold wrap64; omega)
            have hj0 : 0 ≤ Int.tmod (d : Int) (l1.length : Int) := Int.tmod_nonneg _ (by omega)
            have hj1 : Int.tmod (d : Int) (l1.length : Int) < (l1.length : Int) := Int.tmod_lt_of_pos _ (by have := HP.out.2.1; omega)
            have hmem : rd l1 (Int.tmod (d : Int) (l1.length : Int)) ∈ l1 := rd_mem hj0 hj1
            have HI := Aside0.mk (HP.out.2.2.1 _ hmem)
            have HV1 := Aside0.mk hv
            have HLN := Aside0.mk (grT_length (R := l0_0) (H := H) 1 HN.out)
            have hj := HJ.out d
            generalize rd l1 (Int.tmod (d : Int) (l1.length : Int)) = i at HI HV1 hj
            have HJ1 := Aside0.mk hj
            have hd2 := eq_true hd
            obtain ⟨Ah, ch, rfl⟩ := Kd.R_slice HO.out
            have hq := zc BK.out
            have hq2 := zc BT.out
            clear hj hj0 hj1 hmem hv HV hd
            go_wp2_with (first | ((with_reducible refine gate_dst (N := 10) rfl ?_); refine box_event zr (N := 10) zr (cs := #[.int .i64 0]) (t := 2) zg ?_; intro g10 hg w9 hbox hb; have hnb : gb ≠ g10 := Nat.ne_of_lt (Nat.lt_of_lt_of_eq (blk_lt BK.out) hg.symm); have hnt : gt ≠ g10 := Nat.ne_of_lt (Nat.lt_of_lt_of_eq (blk_lt BT.out) hg.symm); have hnb' := hnb.symm; have hnt' := hnt.symm; have n_ := y6 (zS hg : w.heap.size ≤ g10) (Kd.R_elderB HO.out g10 (Nat.le_of_eq hg.symm)) (below_step HB.out hb) (blk_below BK.out hb) (blk_below BT.out hb) (hbox); clear HO HB BK BT; obtain ⟨GE10, HO, HB, BK, BT, B10⟩ := n_; have HO1 := Aside0.mk (Kd.R_below HO.out hb); clear HO hb hbox hg; have h10 := zc B10.out; have hf10 := blk_frozen B10.out 0; have hq3 := zc BK.out; have hq4 := zc BT.out; have HNB := Aside0.mk hnb; have HNT := Aside0.mk hnt) | (go_at_call 37; have bs := below_set HB.out GE10.out (j := 0) (v := .int .i64 (d : Int)); have hs_ := Kd.R_far HO1.out (p := ⟨g10, 0, none⟩) (fun k_ hk => hk.2) (.int .i64 (d : Int)); have b3 := blk_far BK.out (p := ⟨g10, 0, none⟩) HNB.out (.int .i64 (d : Int)); have b4 := blk_far BT.out (p := ⟨g10, 0, none⟩) HNT.out (.int .i64 (d : Int)); have b10 := blk_put (cs' := #[.int .i64 (d : Int)]) B10.out 0 (.int .i64 (d : Int)) rfl; refine (impl_Garden_day.calls A0_0 c0_0 l0_0 Ah ch H 38 #[.pointer (some ⟨gt, 0, none⟩), .pointer (some ⟨g10, 0, none⟩)] EG.out i _ (Kd.C_below HR0.out bs) HC0.out (Kd.R_reads' hs_).2.2 (Kd.R_reads' hs_).2.1 HN.out (by have := HN.out; have := HP.out.1; omega) HI.out (fun W A c hb hC hc => HJ1.out A _ c gt g10 W (below_step bs hb) (blk_below b4 hb) (blk_below b10 hb))).mono ?_; rintro e w10 ⟨v36, v37, rfl, hR, hb⟩; have n_ := y4 (Kd.R_lower hR (below_size bs)) (below_step bs hb) (blk_below b3 hb) (blk_below b4 hb); clear HB BK BT HO1 B10 hR hb bs hs_ b3 b4 b10 h10 hf10 hq3 hq4 hnb hnt hnb' hnt' hq hq2; obtain ⟨HO, HB, BK, BT⟩ := n_))
            go_roundg k1
            case measure => omega
            case rel => exact ⟨d + 1, _, by rw [HW.out], ⟨by have := HD.out; omega⟩, ⟨by have := HLN.out; split <;> simp [this]⟩, HV1, ⟨zR HO.out⟩, ⟨zG BK.out⟩, ⟨zG BT.out⟩, ⟨zB⟩⟩
          · have hd1 : decide ((d : Int) < a2) = false := decide_eq_false hd
            have hv := HV.out
            rw [show a2.toNat - d = 0 by omega, heightsT] at hv
            subst hv
            go_wp2
            go_ret2
            exact ⟨_, rfl, HO.out, HB.out⟩
      · cases h
    · rw [if_neg ht] at h
      simp only [Option.some.injEq, Prod.mk.injEq] at h
      obtain ⟨rfl, rfl⟩ := h
      have ht1 : (t == 0) = false := beq_eq_false_iff_ne.mpr ht
      have ht2 : (t != 0) = true := bne_iff_ne.mpr ht
      clear ht
      go_enter Try.func9, Try.ntmps9
      go_wp2_with (first | ((with_reducible refine gate_dst (N := 3) rfl ?_); refine box_event zr (N := 3) zr (cs := #[.slice A0_0 l0_0.length c0_0]) (t := 26) zg ?_; intro gb hg w1 hbox hb; have n_ := y3 (below_step HB.out hb) (hbox) (zS hg : w.heap.size ≤ gb); clear HB; obtain ⟨HB, BK, GE⟩ := n_; clear hb hbox hg) | ((with_reducible refine gate_dst (N := 4) rfl ?_); refine box_event zr (N := 4) zr (cs := #[.slice A1 l1.length c1]) (t := 24) zg ?_; intro gt hg w2 hbox hb; have n_ := y3 (below_step HB.out hb) (blk_below BK.out hb) (hbox); clear HB BK; obtain ⟨HB, BK, BT⟩ := n_; clear hb hbox hg))
      refine start_ (n := 11) (S := fun w' => w'.cell? ⟨gb, 0, none⟩ = some (.slice A0_0 l0_0.length c0_0) ∧ w'.cell? ⟨gt, 0, none⟩ = some (.slice A1 l1.length c1)) (ds := [9]) #[false,false,false,false,false,false,false,false,false,false,false] zk rfl rfl ⟨zc BK.out, zc BT.out⟩ (fun hHeld => ?_)
      have n_ := y3 (below_drew1 HB.out) (blk_drew BK.out) (blk_drew BT.out)
      clear HB BK BT
      obtain ⟨HB, BK, BT⟩ := n_
      generalize w2.drew = wd at HB BK BT hHeld ⊢
      refine take_ (i := 0) (N := some 11) (v := ?_) (a' := ?_) #[true,false,false,false,false,false,false,false,false,false,false] rfl rfl zk (fun _ _ _ h => h) (Or.inl ⟨by rfl, ?_⟩) hHeld ?_ ?_
      rotate_left
      · rintro w' ⟨s0, s1⟩
        go_simp
        with_reducible rfl
      rotate_left
      exact zq
      refine take_ (i := 1) (N := some 12) (v := ?_) (a' := ?_) #[true,true,false,false,false,false,false,false,false,false,false] rfl rfl zk (fun _ _ _ h => h) (Or.inl ⟨by rfl, ?_⟩) hHeld ?_ ?_
      rotate_left
      · rintro w' ⟨s0, s1⟩
        go_simp
        with_reducible rfl
      rotate_left
      exact zq
      refine take_ (i := 2) (N := some 13) (v := ?_) (a' := ?_) #[true,true,true,false,false,false,false,false,false,false,false] rfl rfl zk (fun _ _ _ h => h) (Or.inl ⟨by rfl, ?_⟩) hHeld ?_ ?_
      rotate_left
      · rintro w' ⟨s0, s1⟩
        go_simp
        with_reducible rfl
      rotate_left
      exact zq
      refine one_ (i := 3) (N := some 14) #[true,true,true,true,false,false,false,false,false,false,false] rfl rfl zk (by decide) (fun K hK => ?_)
      refine goes_ Try.func28 zk rfl #[.agg #[.slice A0_0 l0_0.length c0_0]] (by rfl) rfl rfl (by (try simp only [List.map_toArray, List.map_cons, List.map_nil]); first | done | rfl) ?_
      refine (E0.out _ HB.out).mono ?_
      rintro e w3 ⟨rfl, hb⟩
      have hS := Aside0.mk hHeld
      clear hHeld
      have n_ := y3 (below_step HB.out hb) (blk_below BK.out hb) (blk_below BT.out hb)
      clear HB BK BT
      obtain ⟨HB, BK, BT⟩ := n_
      refine ⟨_, rfl, ?_⟩
      refine hK.out _ _ ⟨(hb.cell (World.block_lt_of_cell? _ _ hS.out.1)).trans hS.out.1, (hb.cell (World.block_lt_of_cell? _ _ hS.out.2)).trans hS.out.2⟩ (fun hHeld => ?_)
      clear hK K
      clear hb hS
      refine norm_ (a' := ?_) ?_ ?_
      rotate_left
      · show Act.put _ (some 14) _ = _
        simp only [Act.put, List.setIfInBounds_toArray, List.set_cons_zero, List.set_cons_succ, i64_w, i32_w]
        rfl
      refine one_ (i := 4) (N := some 15) #[true,true,true,true,true,false,false,false,false,false,false] rfl rfl zk (by decide) (fun K hK => ?_)
      refine goes_ Try.func27 zk rfl #[.slice A1 l1.length c1, .int .i64 (l0_0.length : Int)] (by rfl) rfl rfl (by (try simp only [List.map_toArray, List.map_cons, List.map_nil]); first | done | rfl) ?_
      refine (E1.out _ HB.out).mono ?_
      rintro e w4 ⟨rfl, hb⟩
      have hS := Aside0.mk hHeld
      clear hHeld
      have n_ := y3 (below_step HB.out hb) (blk_below BK.out hb) (blk_below BT.out hb)
      clear HB BK BT
      obtain ⟨HB, BK, BT⟩ := n_
      refine ⟨_, rfl, ?_⟩
      refine hK.out _ _ ⟨(hb.cell (World.block_lt_of_cell? _ _ hS.out.1)).trans hS.out.1, (hb.cell (World.block_lt_of_cell? _ _ hS.out.2)).trans hS.out.2⟩ (fun hHeld => ?_)
      clear hK K
      clear hb hS
      refine norm_ (a' := ?_) ?_ ?_
      rotate_left
      · show Act.put _ (some 15) _ = _
        simp only [Act.put, List.setIfInBounds_toArray, List.set_cons_zero, List.set_cons_succ, i64_w, i32_w]
        rfl
      refine pure_ (i := 5) (N := some 16) (v := ?_) (a' := ?_) #[true,true,true,true,true,true,false,false,false,false,false] rfl rfl zk (fun _ _ _ h => h) (Or.inl ⟨by rfl, ?_⟩) ?_ ?_
      rotate_left; exact zp; rotate_left; exact zq
      refine pure_ (i := 6) (N := some 17) (v := undef) (a' := ?_) #[true,true,true,true,true,true,true,false,false,false,false] rfl rfl zk (fun _ _ _ h => h) (Or.inr ⟨by rfl, rfl⟩) ?_ ?_
      rotate_left
      exact zq
      refine one_ (i := 7) (N := some 18) #[true,true,true,true,true,true,true,true,false,false,false] rfl rfl zk (by decide) (fun K hK => ?_)
      refine off_ (by rfl) ?_
      refine hK.out _ _ hHeld (fun hHeld => ?_)
      clear hK K
      refine norm_ (a' := ?_) ?_ ?_
      rotate_left
      · show Act.put _ (some 18) _ = _
        simp only [Act.put, List.setIfInBounds_toArray, List.set_cons_zero, List.set_cons_succ, i64_w, i32_w]
        rfl
      refine pure_ (i := 8) (N := some 19) (v := ?_) (a' := ?_) #[true,true,true,true,true,true,true,true,true,false,false] rfl rfl zk (fun _ _ _ h => h) (Or.inl ⟨by rfl, ?_⟩) ?_ ?_
      rotate_left; exact zp; rotate_left; exact zq
      refine last_ (i := 9) (N := some 20) #[true,true,true,true,true,true,true,true,true,true,false] rfl rfl zk (by decide) (fun K hK => ?_)
      refine goes_ Try.func26 zk rfl #[.agg #[.slice A0_0 l0_0.length c0_0], .bool false] (by rfl) rfl rfl (by (try simp only [List.map_toArray, List.map_cons, List.map_nil]); first | done | rfl) ?_
      refine (E3.out _ HB.out).mono ?_
      rintro e w6 ⟨rfl, hb⟩
      have n_ := y3 (below_step HB.out hb) (blk_below BK.out hb) (blk_below BT.out hb)
      clear HB BK BT
      obtain ⟨HB, BK, BT⟩ := n_
      refine ⟨_, rfl, ?_⟩
      refine hK.out _ _ ?_
      clear hK K
      clear hb hHeld
      refine norm_ (a' := ?_) ?_ ?_
      rotate_left
      · show Act.put _ (some 20) _ = _
        simp only [Act.put, List.setIfInBounds_toArray, List.set_cons_zero, List.set_cons_succ, i64_w, i32_w]
        rfl
      refine pure_ (i := 10) (N := some 8) (v := ?_) (a' := ?_) #[true,true,true,true,true,true,true,true,true,true,true] rfl rfl zk (fun _ _ _ h => h) (Or.inl ⟨by rfl, ?_⟩) ?_ ?_
      rotate_left; exact zp; rotate_left; exact zq
      refine done_ zk ?_
      have hq := zc BK.out
      have hq2 := zc BT.out
      go_wp2
      go_ret2
      exact ⟨_, rfl, Kd.R_nil _ _ _ _ _, HB.out⟩
end Go.Proofs.Ytgmciimgmnnhmaa.P
end
section
namespace Go.Proofs.Ytgmciimgmnnhmaa.P
open Go.RowKit Go.Proofs.YtgmciimgmnnhmaaW.PrintWords Go.Proofs.YtgmciimgmnnhmaaW.PrintLast Go.Proofs.YtgmciimgmnnhmaaW.PrintMore
attribute [local go_sem] max2_int min2_int max_two min_two max_three min_three max_four min_four   -- for this text's walks alone
set_option linter.unusedVariables false
set_option linter.unusedSimpArgs false
def laws_big.f (l0 : List Int) : Option (Bool) := some (decide ((l0.length : Int) > 4096))
set_option maxHeartbeats 8000000 in
set_option maxRecDepth 100000 in
theorem laws_big.calls (A0 : Option Addr) (c0 : Nat) (l0 : List Int) (r : Bool) (w : World) (hr0 : Kd.C (Kd.int .u8) w A0 l0.length l0) (hc0 : l0.length ≤ c0) (h : laws_big.f l0 = some r) :
    Calls Try.prog 4 #[.slice A0 l0.length c0] w fun e w' => e = .returned (.bool r) ∧ Drawn0 w w' := by
 have HR0 := Aside0.mk hr0
 have HC0 := Aside0.mk hc0
 clear hr0 hc0
 have H : (some (decide ((l0.length : Int) > 4096))) = some r := h
 clear h
 obtain rfl := Option.some.inj H
 go_enter Try.func4, Try.ntmps4
 go_wp2
 go_ret
 exact ⟨by first | rfl | (simp; done) | (simp [*]; done), by repeat (first | exact Drawn0.refl _ | apply Drawn0.step)⟩
end Go.Proofs.Ytgmciimgmnnhmaa.P
end
section
namespace Go.Proofs.Ytgmciimgmnnhmaa.P
open Go.RowKit Go.Proofs.YtgmciimgmnnhmaaW.PrintWords Go.Proofs.YtgmciimgmnnhmaaW.PrintLast Go.Proofs.YtgmciimgmnnhmaaW.PrintMore
attribute [local go_sem] max2_int min2_int max_two min_two max_three min_three max_four min_four   -- for this text's walks alone
set_option linter.unusedVariables false
set_option linter.unusedSimpArgs false
/-- A state of type 68 at block g of W; what its slices lead to came in by w0. -/
def IsS68 (w0 W : World) (g : Nat) (f0 : List Int) (f1 : Int) (f2 : Int) : Prop := ∃ A0 c0, W.heap[g]? = some (.cells #[.slice A0 f0.length c0, .int .i64 f1, .int .u64 f2] 68 (0, 0)) ∧ w0.heap.size ≤ g ∧ Kd.C (Kd.int .u8) w0 A0 f0.length f0
theorem IsS68.grown {w0 W : World} {g : Nat} {f0 : List Int} {f1 : Int} {f2 : Int} {W1 : World} {row : Option Nat} (h : IsS68 w0 W g f0 f1 f2) (hw : W.grownBy W1 row) (hne : some g ≠ row) : IsS68 w0 W1 g f0 f1 f2 := by
  obtain ⟨A0, c0, hb, hg, hr0⟩ := h
  exact ⟨A0, c0, blk_grown hb hw hne, hg, hr0⟩
theorem IsS68.kept {w0 W : World} {g : Nat} {f0 : List Int} {f1 : Int} {f2 : Int} {W1 : World} {S : Nat → Prop} (h : IsS68 w0 W g f0 f1 f2) (hk : Kept W W1 S) (hne : ¬ S g) : IsS68 w0 W1 g f0 f1 f2 := by
  obtain ⟨A0, c0, hb, hg, hr0⟩ := h
  exact ⟨A0, c0, blk_kept hb hk hne, hg, hr0⟩
theorem IsS68.below {w0 W : World} {g : Nat} {f0 : List Int} {f1 : Int} {f2 : Int} {W1 : World} (h : IsS68 w0 W g f0 f1 f2) (hw : Below W.heap.size W W1) : IsS68 w0 W1 g f0 f1 f2 := h.grown (grown_of_below hw none) (by simp)
theorem IsS68.alloc {w0 W : World} {g : Nat} {f0 : List Int} {f1 : Int} {f2 : Int} (h : IsS68 w0 W g f0 f1 f2) (o : Obj) : IsS68 w0 (W.alloc o) g f0 f1 f2 := h.below (below_alloc (Below.refl _ _) o)
theorem IsS68.drewN {w0 W : World} {g : Nat} {f0 : List Int} {f1 : Int} {f2 : Int} (h : IsS68 w0 W g f0 f1 f2) (m : Nat) : IsS68 w0 (W.drewN m) g f0 f1 f2 := h
theorem IsS68.drew {w0 W : World} {g : Nat} {f0 : List Int} {f1 : Int} {f2 : Int} (h : IsS68 w0 W g f0 f1 f2) : IsS68 w0 W.drew g f0 f1 f2 := h
theorem IsS68.apart {w0 W : World} {g : Nat} {f0 : List Int} {f1 : Int} {f2 : Int} {α : Type} {d : Kd α} {e : Nat} {base : Nat} {ok : Nat → Prop} {v : Value} {xs : List α} (h : IsS68 w0 W g f0 f1 f2) (ho : d.R e W base ok v xs) (ht : ∀ q, q ∈ e :: d.E → q ≠ 68) : d.R e W base (fun k => ok k ∧ k ≠ g) v xs := by
  obtain ⟨A0, c0, hb, hg, hr0⟩ := h
  exact Kd.R_types ho hb ht
theorem IsS68.own_ne {w0 W : World} {g : Nat} {f0 : List Int} {f1 : Int} {f2 : Int} {α : Type} {d : Kd α} {e : Nat} {base : Nat} {ok : Nat → Prop} {v : Value} {xs : List α} (h : IsS68 w0 W g f0 f1 f2) (ho : d.R e W base ok v xs) (ht : e ≠ 68) : some g ≠ v.ownBlock := by
  obtain ⟨A0, c0, hb, hg, hr0⟩ := h
  exact Kd.R_ne ho hb ht
theorem IsS68.lt {w0 W : World} {g : Nat} {f0 : List Int} {f1 : Int} {f2 : Int} (h : IsS68 w0 W g f0 f1 f2) : g < W.heap.size := by
  obtain ⟨A0, c0, hb, hg, hr0⟩ := h
  exact blk_lt hb
theorem IsS68.ge {w0 W : World} {g : Nat} {f0 : List Int} {f1 : Int} {f2 : Int} (h : IsS68 w0 W g f0 f1 f2) : w0.heap.size ≤ g := by
  obtain ⟨A0, c0, hb, hg, hr0⟩ := h
  exact hg
theorem IsS68.ne_blk {w0 W : World} {g : Nat} {f0 : List Int} {f1 : Int} {f2 : Int} {a : Nat} {cs : Array Value} {t : TypeId} {fr : Nat × Nat} (h : IsS68 w0 W g f0 f1 f2) (hb2 : W.heap[a]? = some (.cells cs t fr)) (ht : t ≠ 68) : g ≠ a := by
  obtain ⟨A0, c0, hb, hg, hr0⟩ := h
  rintro rfl
  rw [hb] at hb2
  injection hb2 with hb2
  injection hb2 with _ ht2
  exact ht ht2.symm
theorem IsS68.far {w0 W : World} {g : Nat} {f0 : List Int} {f1 : Int} {f2 : Int} {p : Addr} (h : IsS68 w0 W g f0 f1 f2) (hne : g ≠ p.block) (u : Value) : IsS68 w0 (W.setCell p u) g f0 f1 f2 := by
  obtain ⟨A0, c0, hb, hg, hr0⟩ := h
  exact ⟨A0, c0, blk_far hb hne u, hg, hr0⟩
theorem cellS68_0 {W : World} {g : Nat} {A0 : Option Addr} {c0 : Nat} {f0 : List Int} {f1 : Int} {f2 : Int} (h : W.heap[g]? = some (.cells #[.slice A0 f0.length c0, .int .i64 f1, .int .u64 f2] 68 (0, 0))) : W.cell? ⟨g, 0, none⟩ = some (.slice A0 f0.length c0) := (blk_cell h 0).trans rfl
theorem cellS68_1 {W : World} {g : Nat} {A0 : Option Addr} {c0 : Nat} {f0 : List Int} {f1 : Int} {f2 : Int} (h : W.heap[g]? = some (.cells #[.slice A0 f0.length c0, .int .i64 f1, .int .u64 f2] 68 (0, 0))) : W.cell? ⟨g, 1, none⟩ = some (.int .i64 f1) := (blk_cell h 1).trans rfl
theorem IsS68.set_1 {w0 W : World} {g : Nat} {f0 : List Int} {f1 : Int} {f2 : Int} (h : IsS68 w0 W g f0 f1 f2) (x : Int) : IsS68 w0 (W.setCell ⟨g, 1, none⟩ (.int .i64 x)) g f0 x f2 := by
  obtain ⟨A0, c0, hb, hg, hr0⟩ := h
  exact ⟨A0, c0, by simpa using blk_set hb 1 (.int .i64 x), hg, hr0⟩
theorem cellS68_2 {W : World} {g : Nat} {A0 : Option Addr} {c0 : Nat} {f0 : List Int} {f1 : Int} {f2 : Int} (h : W.heap[g]? = some (.cells #[.slice A0 f0.length c0, .int .i64 f1, .int .u64 f2] 68 (0, 0))) : W.cell? ⟨g, 2, none⟩ = some (.int .u64 f2) := (blk_cell h 2).trans rfl
theorem IsS68.set_2 {w0 W : World} {g : Nat} {f0 : List Int} {f1 : Int} {f2 : Int} (h : IsS68 w0 W g f0 f1 f2) (x : Int) : IsS68 w0 (W.setCell ⟨g, 2, none⟩ (.int .u64 x)) g f0 f1 x := by
  obtain ⟨A0, c0, hb, hg, hr0⟩ := h
  exact ⟨A0, c0, by simpa using blk_set hb 2 (.int .u64 x), hg, hr0⟩
def spec_l01From.l0 : Nat → List Int → Int → List Int → Int → Int → Option (List Int × Int × Int)
  | 0, _, _, _, _, _ => none
  | k + 1, x0, x4, x102000, x102001, x102002 => if x4 < (x0.length : Int) then (if x4 < 4096 then (if 0 ≤ x4 then (spec_l01From.l0 k x0 (wrap64 (x4 + 1)) x102000 x102001 (IntKind.u64.wrap ((IntKind.u64.wrap ((IntKind.u64.wrap (x102002 * 1099511628211)) + (IntKind.u64.wrap (rd x0 x4)))) + 241))) else (none)) else (some (x102000, x102001, x102002))) else (some (x102000, x102001, x102002))
def spec_l01From.f (k : Nat) (l0 : List Int) : Option (List Int × Int × Int) := spec_l01From.l0 k l0 0 l0 0 (IntKind.u64.wrap (14041 + (IntKind.u64.wrap ((l0.length : Int)))))
theorem spec_l01From.mono_l : ∀ k, (∀ y0 y1 y2 y3 y4, LeO (spec_l01From.l0 k y0 y1 y2 y3 y4) (spec_l01From.l0 (k + 1) y0 y1 y2 y3 y4))
  | 0 => fun _ _ _ _ _ r h => by simp [spec_l01From.l0] at h
  | k + 1 => by
    have ih0 := spec_l01From.mono_l k
    · intro y0 y1 y2 y3 y4
      unfold spec_l01From.l0
      repeat' first | (with_reducible exact ih0 _ _ _ _ _) | (with_reducible exact LeO.refl _) | (with_reducible exact LeO.none _) | (with_reducible refine LeO.ite ?_ ?_) | (with_reducible refine LeO.bind ?_ (fun _ => ?_)) | exact ih0 _ _ _ _ _ | exact LeO.none _ | refine LeO.ite ?_ ?_ | refine LeO.bind ?_ (fun _ => ?_)
theorem spec_l01From.mono : ∀ a0 k, LeO (spec_l01From.f k a0) (spec_l01From.f (k + 1) a0) := by
  intro a0 k
  have ih0 := spec_l01From.mono_l k
  unfold spec_l01From.f
  repeat' first | (with_reducible exact ih0 _ _ _ _ _) | (with_reducible exact LeO.refl _) | (with_reducible exact LeO.none _) | (with_reducible refine LeO.ite ?_ ?_) | (with_reducible refine LeO.bind ?_ (fun _ => ?_)) | exact ih0 _ _ _ _ _ | exact LeO.none _ | refine LeO.ite ?_ ?_ | refine LeO.bind ?_ (fun _ => ?_)
def spec_l01From.T5 : Bool × List (List Nat × List Nat) := (true, [([], []), ([], []), ([1], [1]), ([2], [2]), ([3], [3]), ([4], [4]), ([], []), ([], []), ([6, 7], [6, 7]), ([8], [8]), ([9], [9]), ([5, 10], [5, 10]), ([11], [11]), ([0, 0, 1, 2, 3, 4, 5, 6, 7, 8, 9, 10, 11, 12], [0]), ([13, 0, 1, 2, 3, 4, 5, 6, 7, 8, 9, 10, 11, 12], [13]), ([14, 12, 0, 1, 2, 3, 4, 5, 6, 7, 8, 9, 10, 11, 12], [12, 14])])
def spec_l01From.B5 : List Nat := [0, 0, 2, 6, 14, 30, 0, 0, 192, 448, 960, 2046, 4094, 8191, 16383, 32767]
theorem spec_l01From.tab5 : rtab .any (opsOf Try.f33 5) = spec_l01From.T5 := by kernel_rfl
theorem spec_l01From.bits5 : waitsOk spec_l01From.T5.2 spec_l01From.B5 = true := by kernel_rfl
set_option maxHeartbeats 8000000 in
set_option maxRecDepth 100000 in
theorem spec_l01From.calls1 (k : Nat) (A0 : Option Addr) (c0 : Nat) (l0 : List Int) (r1 : List Int) (r2 : Int) (r3 : Int) (w0 w : World) (hB : Below w0.heap.size w0 w) (hr0 : Kd.C (Kd.int .u8) w0 A0 l0.length l0) (hc0 : l0.length ≤ c0) (h : spec_l01From.f k l0 = some (r1, r2, r3)) :
    Calls Try.prog 33 #[.slice A0 l0.length c0] w fun e w' => ∃ g_ : Nat, e = .returned (.pointer (some ⟨g_, 0, none⟩)) ∧ IsS68 w0 w' g_ r1 r2 r3 ∧ Below w.heap.size w w' ∧ Below w.heap.size w w' := by
 have hu68 := Try.underlying68
 have HR0 := Aside0.mk hr0
 have HRw0 := Aside0.mk (Kd.C_below hr0 hB)
 have HC0 := Aside0.mk hc0
 clear hr0 hc0
 have HBW := Aside0.mk (Below.refl w.heap.size w)
 have HW0 := Aside0.mk hB.size
 have HB := Aside0.mk (Below.refl w.heap.size w)
 clear hB
 have H : (spec_l01From.l0 k l0 0 l0 0 (IntKind.u64.wrap (14041 + (IntKind.u64.wrap ((l0.length : Int)))))) = some (r1, r2, r3) := h
 clear h
 have H' := Aside0.mk H
 clear H
 go_enter Try.func33, Try.ntmps33
 go_wp2_with (first | ((with_reducible refine gate_dst (N := 11) rfl ?_); refine box_event zr (N := 11) zr (cs := #[.slice A0 l0.length c0, .int .i64 0, .int .u64 (IntKind.u64.wrap (14041 + (IntKind.u64.wrap ((l0.length : Int)))))]) (t := 68) zg ?_; intro gb101 hg w2 hbox hb; have n_ := y5 (below_step HBW.out hb) (below_step (zB) hb) (hbox) ((by rw [hg]; exact (below_size (by repeat (first | (with_reducible first | exact HBW.out | apply below_alloc | apply pw_below_drewN | apply below_drew1) | exact HBW.out))) : w.heap.size ≤ gb101)) ((Nat.le_trans HW0.out (by rw [hg]; exact (below_size (by repeat (first | (with_reducible first | exact HBW.out | apply below_alloc | apply pw_below_drewN | apply below_drew1) | exact HBW.out))) : w.heap.size ≤ gb101) : w0.heap.size ≤ gb101)); clear HBW HB; obtain ⟨HBW, HB, BK101, GW101, GE101⟩ := n_; clear hb hbox hg))
 go_loopg [4] k (fun kq v4 w' => ∃ (x4_1 : Int) (x102002_1 : Int), v4 = .int .i64 x4_1 ∧ Aside0 (spec_l01From.l0 kq l0 x4_1 l0 0 x102002_1 = some (r1, r2, r3)) ∧ Aside0 (kq ≤ k) ∧ Aside0 (w'.heap[gb101]? = some (.cells #[(.slice A0 l0.length c0), .int .i64 0, .int .u64 x102002_1] 68 (0, 0))) ∧ Aside0 (Below w.heap.size w w'))
 case atStart => exact ⟨(0), (IntKind.u64.wrap (14041 + (IntKind.u64.wrap ((l0.length : Int))))), zF, H', ⟨Nat.le_refl _⟩, ⟨zG BK101.out⟩, ⟨zB⟩⟩
 clear H'
 obtain ⟨x4_1, x102002_1, rfl, HA, HK1, BK101, HB⟩ := hrel
 cases gk with
 | zero => exact absurd HA.out (by simp [spec_l01From.l0])
 | succ k1 =>
   have H := HA.out
   clear HA
   simp only [spec_l01From.l0] at H
   by_cases c3 : x4_1 < (l0.length : Int)
   · rw [if_pos c3] at H
     have c3b0 : decide (x4_1 < (l0.length : Int)) = true := decide_eq_true c3
     clear c3
     by_cases c4 : x4_1 < 4096
     · rw [if_pos c4] at H
       have c4b0 : decide (x4_1 < 4096) = true := decide_eq_true c4
       clear c4
       by_cases c5 : 0 ≤ x4_1
       · rw [if_pos c5] at H
         have c5b0 : decide (0 ≤ x4_1) = true := decide_eq_true c5
         clear c5
         have H' := Aside0.mk H
         clear H
         try go_wp2
         have n_ := y2 (blk_drew BK101.out) (below_drew1 HB.out)
         clear BK101 HB
         obtain ⟨BK101, HB⟩ := n_
         have p102 : 0 ≤ (x4_1 : Int) := zD
         have q102 : x4_1 < (l0.length : Int) := zD
         obtain ⟨ad102, e102, hx102_0⟩ := Kd.at_int HRw0.out x4_1 p102 q102
         have hw102_0 := hx102_0
         cases e102
         replace hx102_0 := pw_cell_below HB.out hx102_0
         replace p102 := eq_true p102
         replace q102 := eq_true q102
         refine start_ (n := 16) (S := fun w' => w'.cell? ⟨gb101, 0, none⟩ = some (.slice (some ad102) l0.length c0) ∧ w'.cell? ⟨gb101, 1, none⟩ = some (.int .i64 0) ∧ w'.cell? ⟨gb101, 2, none⟩ = some (.int .u64 x102002_1) ∧ w'.cell? (ad102.add (x4_1).toNat) = some (.int .u8 (rd l0 x4_1))) (ds := [15]) #[false,false,false,false,false,false,false,false,false,false,false,false,false,false,false,false] zk rfl rfl ⟨(blk_cell BK101.out 0).trans rfl, (blk_cell BK101.out 1).trans rfl, (blk_cell BK101.out 2).trans rfl, ((HB.out.cell (World.block_lt_of_cell? w _ hw102_0)).trans hw102_0)⟩ (fun hHeld => ?_); refine with_tabW spec_l01From.tab5 spec_l01From.bits5 (fun HT_ HW_ => ?_)
         generalize wr.drew = w6 at BK101 HB hx102_0 hHeld ⊢
         refine pure_ (i := 0) (N := some 22) (v := ?_) (a' := ?_) #[true,false,false,false,false,false,false,false,false,false,false,false,false,false,false,false] rfl rfl (any_of HT_.out zk) (fun _ _ _ h => h) (Or.inl ⟨by rfl, ?_⟩) ?_ ?_
         rotate_left; exact zp; rotate_left; exact zq
         refine pure_ (i := 1) (N := some 23) (v := ?_) (a' := ?_) #[true,true,false,false,false,false,false,false,false,false,false,false,false,false,false,false] rfl rfl (any_of HT_.out zk) (fun _ _ _ h => h) (Or.inl ⟨by rfl, ?_⟩) ?_ ?_
         rotate_left; exact zp; rotate_left; exact zq
         refine pure_ (i := 2) (N := some 24) (v := ?_) (a' := ?_) #[true,true,true,false,false,false,false,false,false,false,false,false,false,false,false,false] rfl rfl (any_of HT_.out zk) (fun _ _ _ h => h) (Or.inl ⟨by rfl, ?_⟩) ?_ ?_
         rotate_left; exact zp; rotate_left; exact zq
         refine pure_ (i := 3) (N := some 25) (v := ?_) (a' := ?_) #[true,true,true,true,false,false,false,false,false,false,false,false,false,false,false,false] rfl rfl (any_of HT_.out zk) (fun _ _ _ h => h) (Or.inl ⟨by rfl, ?_⟩) ?_ ?_
         rotate_left; exact zp; rotate_left; exact zq
         refine pure_ (i := 6) (N := some 28) (v := ?_) (a' := ?_) #[true,true,true,true,false,false,true,false,false,false,false,false,false,false,false,false] rfl rfl (any_of HT_.out zk) (fun _ _ _ h => h) (Or.inl ⟨by rfl, ?_⟩) ?_ ?_
         rotate_left; exact zp; rotate_left; exact zq
         refine pure_ (i := 7) (N := some 29) (v := ?_) (a' := ?_) #[true,true,true,true,false,false,true,true,false,false,false,false,false,false,false,false] rfl rfl (any_of HT_.out zk) (fun _ _ _ h => h) (Or.inl ⟨by rfl, ?_⟩) ?_ ?_
         rotate_left; exact zp; rotate_left; exact zq
         refine pure_ (i := 8) (N := some 30) (v := ?_) (a' := ?_) #[true,true,true,true,false,false,true,true,true,false,false,false,false,false,false,false] rfl rfl (any_of HT_.out zk) (fun _ _ _ h => h) (Or.inl ⟨by rfl, ?_⟩) ?_ ?_
         rotate_left; exact zp; rotate_left; exact zq
         refine take_ (i := 4) (N := some 26) (v := ?_) (a' := ?_) #[true,true,true,true,true,false,true,true,true,false,false,false,false,false,false,false] rfl rfl (take_ofW HT_.out HW_.out zk) (fun _ _ _ h => h) (Or.inl ⟨by rfl, ?_⟩) hHeld ?_ ?_
         rotate_left
         · rintro w' ⟨s0, s1, s2, s3⟩
           go_simp
           with_reducible rfl
         rotate_left
         · simp only [Act.put, List.setIfInBounds_toArray, List.set_cons_zero, List.set_cons_succ, i64_w, i32_w]
           rfl
         refine pure_ (i := 5) (N := some 27) (v := ?_) (a' := ?_) #[true,true,true,true,true,true,true,true,true,false,false,false,false,false,false,false] rfl rfl (any_of HT_.out zk) (fun _ _ _ h => h) (Or.inl ⟨by rfl, ?_⟩) ?_ ?_
         rotate_left; exact zp; rotate_left; exact zq
         refine take_ (i := 9) (N := some 31) (v := ?_) (a' := ?_) #[true,true,true,true,true,true,true,true,true,true,false,false,false,false,false,false] rfl rfl (take_ofW HT_.out HW_.out zk) (fun _ _ _ h => h) (Or.inl ⟨by rfl, ?_⟩) hHeld ?_ ?_
         rotate_left
         · rintro w' ⟨s0, s1, s2, s3⟩
           go_simp
           with_reducible rfl
         rotate_left
         · simp only [Act.put, List.setIfInBounds_toArray, List.set_cons_zero, List.set_cons_succ, i64_w, i32_w]
           rfl
         refine pure_ (i := 10) (N := some 32) (v := ?_) (a' := ?_) #[true,true,true,true,true,true,true,true,true,true,true,false,false,false,false,false] rfl rfl (any_of HT_.out zk) (fun _ _ _ h => h) (Or.inl ⟨by rfl, ?_⟩) ?_ ?_
         rotate_left; exact zp; rotate_left; exact zq
         refine pure_ (i := 11) (N := some 33) (v := ?_) (a' := ?_) #[true,true,true,true,true,true,true,true,true,true,true,true,false,false,false,false] rfl rfl (any_of HT_.out zk) (fun _ _ _ h => h) (Or.inl ⟨by rfl, ?_⟩) ?_ ?_
         rotate_left; exact zp; rotate_left; exact zq
         refine pure_ (i := 12) (N := some 34) (v := ?_) (a' := ?_) #[true,true,true,true,true,true,true,true,true,true,true,true,true,false,false,false] rfl rfl (any_of HT_.out zk) (fun _ _ _ h => h) (Or.inl ⟨by rfl, ?_⟩) ?_ ?_
         rotate_left; exact zp; rotate_left; exact zq
         refine pure_ (i := 13) (N := some 35) (v := ?_) (a' := ?_) #[true,true,true,true,true,true,true,true,true,true,true,true,true,true,false,false] rfl rfl (any_of HT_.out zk) (fun _ _ _ h => h) (Or.inl ⟨by rfl, ?_⟩) ?_ ?_
         rotate_left; exact zp; rotate_left; exact zq
         refine pure_ (i := 14) (N := some 36) (v := ?_) (a' := ?_) #[true,true,true,true,true,true,true,true,true,true,true,true,true,true,true,false] rfl rfl (any_of HT_.out zk) (fun _ _ _ h => h) (Or.inl ⟨by rfl, ?_⟩) ?_ ?_
         rotate_left; exact zp; rotate_left; exact zq
         refine last_ (i := 15) (N := none) #[true,true,true,true,true,true,true,true,true,true,true,true,true,true,true,true] rfl rfl (one_of HT_.out zk) (by decide) (fun K hK => ?_)
         have hs7 : w6.cell? ⟨gb101, 2, none⟩ = some (.int .u64 x102002_1) := (blk_cell BK101.out 2).trans rfl
         have hfs7 := blk_frozen BK101.out 2
         refine skip_ (w1 := ?_) (by rfl) rfl ?_ ?_
         rotate_left
         · go_simp
           rfl
         refine hK.out _ _ ?_
         clear hK K
         refine done_ (done_of HT_.out zk) ?_
         try go_wp2
         go_roundg k1
         case measure => have := HK1.out; omega
         case rel => exact ⟨(wrap64 (x4_1 + 1)), (IntKind.u64.wrap ((IntKind.u64.wrap ((IntKind.u64.wrap (x102002_1 * 1099511628211)) + (IntKind.u64.wrap (rd l0 x4_1)))) + 241)), zF, H', ⟨by have := HK1.out; omega⟩, ⟨by refine zG ?_; refine blk_put (cs := #[.slice (some ad102) l0.length c0, .int .i64 0, .int .u64 x102002_1]) ?_ 2 _ rfl; refine zG ?_; exact BK101.out⟩, ⟨zB⟩⟩
       · rw [if_neg c5] at H
         exact absurd H (by simp)
     · rw [if_neg c4] at H
       have c4b0 : decide (x4_1 < 4096) = false := decide_eq_false c4
       clear c4
       simp only [Option.some.injEq, Prod.mk.injEq] at H
       obtain ⟨rfl, rfl, rfl⟩ := H
       go_wp2
       go_ret
       exact ⟨_, rfl, (show IsS68 w0 _ gb101 l0 0 x102002_1 from ⟨_, _, zG BK101.out, GE101.out, HR0.out⟩), zB, zB⟩
   · rw [if_neg c3] at H
     have c3b0 : decide (x4_1 < (l0.length : Int)) = false := decide_eq_false c3
     clear c3
     simp only [Option.some.injEq, Prod.mk.injEq] at H
     obtain ⟨rfl, rfl, rfl⟩ := H
     go_wp2
     go_ret
     exact ⟨_, rfl, (show IsS68 w0 _ gb101 l0 0 x102002_1 from ⟨_, _, zG BK101.out, GE101.out, HR0.out⟩), zB, zB⟩
set_option maxHeartbeats 8000000 in
set_option maxRecDepth 100000 in
theorem spec_l01From.calls (k : Nat) (A0 : Option Addr) (c0 : Nat) (l0 : List Int) (r1 : List Int) (r2 : Int) (r3 : Int) (w0 w : World) (hB : Below w0.heap.size w0 w) (hr0 : Kd.C (Kd.int .u8) w0 A0 l0.length l0) (hc0 : l0.length ≤ c0) (h : spec_l01From.f k l0 = some (r1, r2, r3)) :
    Calls Try.prog 33 #[.slice A0 l0.length c0] w fun e w' => ∃ g_ : Nat, e = .returned (.pointer (some ⟨g_, 0, none⟩)) ∧ IsS68 w0 w' g_ r1 r2 r3 ∧ Below w0.heap.size w0 w' ∧ Below w.heap.size w w' := by
 refine (spec_l01From.calls1 k A0 c0 l0 r1 r2 r3 w0 w hB hr0 hc0 h).mono ?_
 rintro e w' ⟨g, he, hi, hb1, hb2⟩
 exact ⟨g, he, hi, below_step hB hb1, hb2⟩
end Go.Proofs.Ytgmciimgmnnhmaa.P
end
section
namespace Go.Proofs.Ytgmciimgmnnhmaa.P
open Go.RowKit Go.Proofs.YtgmciimgmnnhmaaW.PrintWords Go.Proofs.YtgmciimgmnnhmaaW.PrintLast Go.Proofs.YtgmciimgmnnhmaaW.PrintMore
attribute [local go_sem] max2_int min2_int max_two min_two max_three min_three max_four min_four   -- for this text's walks alone
set_option linter.unusedVariables false
set_option linter.unusedSimpArgs false
def spec_l01Next.f (s0_0 : List Int) (s0_1 : Int) (s0_2 : Int) (a1 : Int) : Option (Int × Int × Int) := if a1 < 1 then (some (0, s0_1, s0_2)) else (if s0_1 < (s0_0.length : Int) then (if 0 ≤ s0_1 then (if a1 = 0 then (none) else (some (Int.tmod (wrap64 ((wrap64 (Go.bits .and .u64 ((IntKind.u64.wrap ((IntKind.u64.wrap (s0_2 * 6364136223846793005)) + 1442695040888963407)) / 8589934592) 16777215)) + (wrap64 (rd s0_0 s0_1)))) a1, wrap64 (s0_1 + 1), IntKind.u64.wrap ((IntKind.u64.wrap (s0_2 * 6364136223846793005)) + 1442695040888963407)))) else (none)) else (if a1 = 0 then (none) else (some (Int.tmod (wrap64 (Go.bits .and .u64 ((IntKind.u64.wrap ((IntKind.u64.wrap (s0_2 * 6364136223846793005)) + 1442695040888963407)) / 8589934592) 16777215)) a1, s0_1, IntKind.u64.wrap ((IntKind.u64.wrap (s0_2 * 6364136223846793005)) + 1442695040888963407)))))
end Go.Proofs.Ytgmciimgmnnhmaa.P
end
