/- The program's FirstRests returns what the reference's returns, for all tasks; no condition beside. -/
import Derived.Test.YtnmpjikiodnmnaaCFnExactFirstRests1
import Derived.ArgAppend
import Derived.Below
import Derived.BigQuiet
import Derived.Carry
import Derived.ChangeArms
import Derived.ChangeOld
import Derived.ChangeSame
import Derived.Deep.AppendLies
import Derived.Deep.CutBlock
import Derived.Deep.DeepCutAuto
import Derived.Deep.Draws
import Derived.Deep.Fields
import Derived.Deep.LoopGhost
import Derived.Deep.OwnRows
import Derived.Deep.QuietTactic
import Derived.Deep.RegionHeld3
import Derived.Deep.Slices
import Derived.KernelRfl
import Derived.Laws.BitsLemmas
import Derived.Laws.BytesArg
import Derived.Laws.CopyOwn
import Derived.Laws.IdiomCopy
import Derived.Laws.MakeOwn
import Derived.Laws.OwnMore
import Derived.Laws.Rows
import Derived.Laws.Slices
import Derived.Lib.AppendStr
import Derived.Lib.ConvBytes
import Derived.Lib.SliceRun
import Derived.Lib.SmallJoins
import Derived.Maps.AppendAt
import Derived.OpenShut
import Derived.OrdersHeld
import Derived.OwnWalk
import Derived.ProofKit
import Derived.RowKit
import Derived.RowKit3
import Derived.Shelf.Abstract
import Derived.ShutString
import Derived.SizedLaws
import Derived.StillTailTactics
import Derived.Tactics
import Derived.Test.YtnmpjikiodnmnaaProg
import Derived.WalkKit
import Derived.WideLaws
import Derived.WideShapes
section
namespace Go.Proofs.Ytnmpjikiodnmnaa.P
open Go.ChangeShapes Go.WideShapes Go.RowKit Go.Deep Go.Proofs.YtnmpjikiodnmnaaW.PrintWords Go.Proofs.YtnmpjikiodnmnaaW.PrintLast Go.Proofs.YtnmpjikiodnmnaaW.PrintMore
set_option linter.unusedVariables false
def okInt (k : IntKind) (n : Int) : Prop := (Lit.int k n).wf = true
def okRow {α : Type} (S : α → Prop) (l : List α) : Prop := l.length ≤ maxLen ∧ ∀ x ∈ l, S x
/-- Whatever reads as data of type T is a value of kind d, as S says. -/
def Opens (P : Program) {α : Type} (d : Kd α) (S : α → Prop) (T : TypeId) : Prop :=
  ∀ (H : Type) (enc : TypeId × Value → H) (w : World) (base : Nat) (spare : Nat → Bool) (held : Bool) (fuel : Nat) (cs : List Value) (x : DataW H × List MemPlace),
    DataW.trod enc P w base spare held fuel T cs = some x → ∃ a : α, d.K w a cs ∧ S a
theorem opens_int {P : Program} {k : IntKind} {T : TypeId} (h : P.underlying T = some (.int k)) : Opens P (Kd.int k) (okInt k) T := by
  intro H enc w base spare held fuel cs x hx
  obtain ⟨n, rfl, _, hw⟩ := DataW.trod_int h hx
  exact ⟨n, rfl, hw⟩
theorem opens_slice {P : Program} {α : Type} {d : Kd α} {S : α → Prop} {T E : TypeId} (hd : Opens P d S E) (ht : P.underlying T = some (.slice E)) (hc : P.cellsOf E = 1) (hs : d.sz = 1) : Opens P (Kd.slice E d) (okRow S) T := by
  intro H enc w base spare held fuel cs x hx
  rcases open_slice1 ht hc hx with ⟨rfl, _⟩ | ⟨a, len, cap, m, n, V, D, Pl, rfl, hb, hl, hm, hmm, _, hV⟩
  · exact ⟨[], ⟨none, 0, rfl, by simp, rfl, by simp, fun h => absurd h (by simp)⟩, by simp [okRow]⟩
  · have hlm : len ≤ m := by rw [hmm]; split <;> omega
    have each : ∀ i, i < len → ∃ y : α, d.K w y [V i] ∧ S y := fun i hi => hd H enc w base spare held n [V i] _ (hV i (by omega)).2
    have : ∀ n, n ≤ len → ∃ l : List α, l.length = n ∧ (∀ j p, l[j]? = some p → d.K w p [V j] ∧ S p) := by
      intro n
      induction n with
      | zero => intro _; exact ⟨[], rfl, fun j p h => by simp at h⟩
      | succ n ih =>
        intro hn
        obtain ⟨l, hl1, hl2⟩ := ih (by omega)
        obtain ⟨y, hy⟩ := each n (by omega)
        refine ⟨l ++ [y], by simp [hl1], fun j p hj => ?_⟩
        rcases Nat.lt_or_ge j l.length with h | h
        · rw [List.getElem?_append_left h] at hj
          exact hl2 j p hj
        · have hj2 := (List.getElem?_eq_some_iff.1 hj).1
          simp at hj2
          have : j = l.length := by omega
          subst this
          have hp : y = p := by simpa using hj
          subst hp
          rw [hl1]
          exact hy
    obtain ⟨l, hl1, hl2⟩ := this len (Nat.le_refl _)
    have hmax : len ≤ 9223372036854775807 := by unfold maxLen at hm; omega
    refine ⟨l, ⟨some a, cap, by rw [hl1], by omega, rfl, by omega, fun _ => ⟨a, rfl, fun j p hj => ⟨[V j], by rw [hs]; rfl, (hl2 j p hj).1, fun i u hu => ?_⟩⟩⟩, by omega, fun y hy => ?_⟩
    · have hj2 := (List.getElem?_eq_some_iff.1 hj).1
      have hi : i = 0 := by
        have := (List.getElem?_eq_some_iff.1 hu).1
        simpa using this
      subst hi
      have : V j = u := by simpa using hu
      rw [hs, Nat.mul_one, Nat.add_zero, ← this]
      exact (hV j (by omega)).1
    · obtain ⟨j, hj⟩ := List.getElem?_of_mem hy
      exact (hl2 j y hj).2
section
variable {H : Type} {enc : TypeId × Value → H} {P : Program} {w : World} {base : Nat} {spare : Nat → Bool} {held : Bool}
/-- A field that is a slice. -/
theorem open_cell {α : Type} {d : Kd α} {S : α → Prop} {T : TypeId} {fuel : Nat} {c : Value} {x : DataW H × List MemPlace} (hd : Opens P d S T) (h : DataW.trod enc P w base spare held fuel T [c] = some x) : ∃ a : α, d.K w a [c] ∧ S a :=
  hd H enc w base spare held fuel [c] x h
theorem row_cell {α : Type} {d : Kd α} {e : Nat} {w : World} {l : List α} {c : Value} (h : (Kd.slice e d).K w l [c]) : ∃ (A : Option Addr) (n : Nat), c = .slice A l.length n ∧ l.length ≤ n ∧ d.C w A l.length l := by
  obtain ⟨A, n, he, hl, hr⟩ := h
  exact ⟨A, n, by simpa using he, hl, hr⟩
theorem agg1 {r : Reach} {b0 : Nat} {t : TypeId} {f0 : Field} {v : Value} {d : DataW H} {p : List MemPlace} (hs : P.underlying t = some (.struct #[f0])) (hone : oneCellFields P #[f0] = true) (hC : P.cellsOf t = 1)
    (hv : Value.okWide P w r b0 t v) (h : DataW.Trod enc P w base spare held t v d p) :
    ∃ (v0 : Value) (y0 : DataW H × List MemPlace) (n : Nat), v = .agg #[v0] ∧ DataW.trod enc P w base spare held n f0.type [v0] = some y0 := by
  obtain ⟨cs, rfl, hsz⟩ := okWide_struct hs hv
  obtain ⟨c0, rfl⟩ : ∃ c0, cs = #[c0] := by
    have h1 : cs.size = 1 := hsz.trans hC
    obtain ⟨l⟩ := cs
    match l, h1 with
    | [c], _ => exact ⟨c, rfl⟩
  obtain ⟨fuel, hf⟩ := h
  obtain ⟨xs, n, _, hx, hl, hlen, hfld⟩ := DataW.trod_struct hs hf
  match xs, hlen with
  | [y0], _ =>
    obtain ⟨o0, k0⟩ := hone_of hone 0 f0 rfl
    have h0 := hfld 0 f0 rfl
    rw [o0, k0] at h0
    exact ⟨c0, y0, n, rfl, by simpa [Value.cells] using h0⟩
end
end Go.Proofs.Ytnmpjikiodnmnaa.P
end
section
namespace Go.Proofs.Ytnmpjikiodnmnaa.P
open Go.RowKit Go.Proofs.YtnmpjikiodnmnaaW.PrintWords Go.Proofs.YtnmpjikiodnmnaaW.PrintLast Go.Proofs.YtnmpjikiodnmnaaW.PrintMore
attribute [local go_sem] max2_int min2_int max_two min_two max_three min_three max_four min_four   -- for this text's walks alone
set_option linter.unusedVariables false
set_option linter.unusedSimpArgs false
def errW : Option Int → Value
  | none => .nilIface
  | some c => .iface 0 (.int .i64 c)
theorem errW_none : errW none = .nilIface := rfl
theorem errW_some (c : Int) : errW (some c) = .iface 0 (.int .i64 c) := rfl
theorem info2 : (Try.prog.info? 2).map (fun i => (i.zero, i.size, i.bytes)) = some (some (.int .i64 0), 1, 8) := by kernel_rfl
end Go.Proofs.Ytnmpjikiodnmnaa.P
end
section
namespace Go.Proofs.Ytnmpjikiodnmnaa.P
open Go.RowKit Go.Proofs.YtnmpjikiodnmnaaW.PrintWords Go.Proofs.YtnmpjikiodnmnaaW.PrintLast Go.Proofs.YtnmpjikiodnmnaaW.PrintMore
theorem zA {p : Prop} (h : p := by (try simp only [List.map_toArray, List.map_cons, List.map_nil]); first | done | rfl | (simp only [List.length_drop, List.length_take]; rfl)) : p := h
theorem zB {p : Prop} (h : p := by repeat (first | (with_reducible first | exact HB.out | apply below_alloc | apply pw_below_drewN | apply below_drew1 | refine below_set ?_ (IsS0.ge HI0.out) | refine below_set ?_ (Aside0.out (by assumption : Aside0 (w0.heap.size ≤ _))) | refine below_set ?_ (Aside0.out (by assumption : Aside0 (w.heap.size ≤ _)))) | exact HB.out)) : p := h
theorem zJ {p : Prop} (h : p := by repeat (first | (with_reducible first | exact HK.out | apply Kept.alloc | apply Kept.drewN | apply Kept.drew | refine Kept.setCell ?_ (.inl (.inr rfl)) _ | refine Kept.setCell ?_ (.inr (Aside0.out (by assumption : Aside0 (w.heap.size ≤ _)))) _) | exact HK.out)) : p := h
theorem zG {p q : Prop} (b : p) (h : p → q := by intro b_; (with_reducible repeat (first | refine blk_drewN ?_ _ | refine blk_drew ?_ | refine blk_alloc ?_ _)); exact b_) : q := h b
theorem zR {p q : Prop} (b : p) (h : p → q := by intro b_; (with_reducible repeat (first | apply Kd.R_alloc | apply Kd.R_drewN | apply Kd.R_drew)); exact b_) : q := h b
theorem zC {p q : Prop} (b : p) (h : p → q := by intro b_; repeat (first | exact b_ | (with_reducible refine Kd.C_alloc ?_ _) | (with_reducible refine Kd.C_drewN ?_ _) | (with_reducible refine Kd.C_drew ?_))) : q := h b
theorem zD {p : Prop} [Decidable p] (h : decide p = true := by first | (with_reducible assumption) | assumption) : p := of_decide_eq_true h
theorem zH {α : Type} {a b : α} {q : Prop} (e : a = b) (h : a = b → q := by intro e_; first | (rw [e_]; with_reducible exact H) | (have H2_ := (Option.bind_some _ _).symm.trans H; rw [e_]; with_reducible exact H2_) | (have H2_ := (Option.bind_some _ _).symm.trans H; with_reducible exact H2_) | with_reducible exact H | (rw [e_]; exact H) | exact H) : q := h e
theorem zE {p : Prop} (h : p := by first | rfl | (simp [errW_none, errW_some] <;> rfl) | (simp [*, errW_none, errW_some] <;> rfl)) : p := h
theorem zF {p : Prop} (h : p := by first | rfl | (simp; done) | (simp [*]; done)) : p := h
theorem zS {a b c : Nat} (e : b = c) (h : a ≤ c := by exact (below_size zB)) : a ≤ b := e.symm ▸ h
theorem zL {p : Prop} {a b c : Nat} (e : b = c) (k : p) (h : p → a < c := by intro k_; exact blk_lt (zG k_)) : a ≠ b := by have := h k; omega
theorem zM {p : Prop} {a b c : Nat} (e : b = c) (k : p) (h : p → a < c := by intro k_; exact blk_lt (zG k_)) : b ≠ a := by have := h k; omega
theorem zr {p : Prop} (h : p := by rfl) : p := h
theorem zk {p : Prop} (h : p := by kernel_rfl) : p := h
theorem zg {p : Prop} (h : p := by first | (go_simp; done) | (go_simp; rfl)) : p := h
theorem zc {w : World} {g : Nat} {v : Value} {t : TypeId} (h : w.heap[g]? = some (.cells #[v] t (0, 0))) : w.cell? ⟨g, 0, none⟩ = some v := (blk_cell h 0).trans rfl
theorem zb {p : Prop} {w w' : World} {g : Nat} {o : Obj} (b : p) (hb : Below w.heap.size w w') (h : p → w.heap[g]? = some o := by intro b_; exact zG b_) : w'.heap[g]? = some o := blk_below (h b) hb
theorem zp {p : Prop} (h : p := by (intro w'; go_simp; with_reducible rfl)) : p := h
theorem zq {p : Prop} (h : p := by (simp only [Act.put, List.setIfInBounds_toArray, List.set_cons_zero, List.set_cons_succ, i64_w, i32_w]; rfl)) : p := h
theorem zd {p : Prop} (h : p := by first | exact ⟨rfl, _, World.drewN_drewN _ _ _⟩ | exact ⟨rfl, _, Eq.trans (World.drewN_drewN _ _ _) (congrArg (World.drewN _) (Nat.add_assoc _ _ _))⟩) : p := h
theorem y2 {a b : Prop} (xa : a) (xb : b) : Aside0 a ∧ Aside0 b := ⟨⟨xa⟩, ⟨xb⟩⟩
theorem y3 {a b c : Prop} (xa : a) (xb : b) (xc : c) : Aside0 a ∧ Aside0 b ∧ Aside0 c := ⟨⟨xa⟩, ⟨xb⟩, ⟨xc⟩⟩
theorem y4 {a b c d : Prop} (xa : a) (xb : b) (xc : c) (xd : d) : Aside0 a ∧ Aside0 b ∧ Aside0 c ∧ Aside0 d := ⟨⟨xa⟩, ⟨xb⟩, ⟨xc⟩, ⟨xd⟩⟩
theorem y5 {a b c d e : Prop} (xa : a) (xb : b) (xc : c) (xd : d) (xe : e) : Aside0 a ∧ Aside0 b ∧ Aside0 c ∧ Aside0 d ∧ Aside0 e := ⟨⟨xa⟩, ⟨xb⟩, ⟨xc⟩, ⟨xd⟩, ⟨xe⟩⟩
theorem y6 {a b c d e f : Prop} (xa : a) (xb : b) (xc : c) (xd : d) (xe : e) (xf : f) : Aside0 a ∧ Aside0 b ∧ Aside0 c ∧ Aside0 d ∧ Aside0 e ∧ Aside0 f := ⟨⟨xa⟩, ⟨xb⟩, ⟨xc⟩, ⟨xd⟩, ⟨xe⟩, ⟨xf⟩⟩
theorem y7 {a b c d e f g : Prop} (xa : a) (xb : b) (xc : c) (xd : d) (xe : e) (xf : f) (xg : g) : Aside0 a ∧ Aside0 b ∧ Aside0 c ∧ Aside0 d ∧ Aside0 e ∧ Aside0 f ∧ Aside0 g := ⟨⟨xa⟩, ⟨xb⟩, ⟨xc⟩, ⟨xd⟩, ⟨xe⟩, ⟨xf⟩, ⟨xg⟩⟩
theorem y8 {a b c d e f g h : Prop} (xa : a) (xb : b) (xc : c) (xd : d) (xe : e) (xf : f) (xg : g) (xh : h) : Aside0 a ∧ Aside0 b ∧ Aside0 c ∧ Aside0 d ∧ Aside0 e ∧ Aside0 f ∧ Aside0 g ∧ Aside0 h := ⟨⟨xa⟩, ⟨xb⟩, ⟨xc⟩, ⟨xd⟩, ⟨xe⟩, ⟨xf⟩, ⟨xg⟩, ⟨xh⟩⟩
theorem y10 {a b c d e f g h i j : Prop} (xa : a) (xb : b) (xc : c) (xd : d) (xe : e) (xf : f) (xg : g) (xh : h) (xi : i) (xj : j) : Aside0 a ∧ Aside0 b ∧ Aside0 c ∧ Aside0 d ∧ Aside0 e ∧ Aside0 f ∧ Aside0 g ∧ Aside0 h ∧ Aside0 i ∧ Aside0 j := ⟨⟨xa⟩, ⟨xb⟩, ⟨xc⟩, ⟨xd⟩, ⟨xe⟩, ⟨xf⟩, ⟨xg⟩, ⟨xh⟩, ⟨xi⟩, ⟨xj⟩⟩
end Go.Proofs.Ytnmpjikiodnmnaa.P
end
section
namespace Go.Proofs.Ytnmpjikiodnmnaa.P
open Go.RowKit Go.Proofs.YtnmpjikiodnmnaaW.PrintWords Go.Proofs.YtnmpjikiodnmnaaW.PrintLast Go.Proofs.YtnmpjikiodnmnaaW.PrintMore
attribute [local go_sem] max2_int min2_int max_two min_two max_three min_three max_four min_four   -- for this text's walks alone
set_option linter.unusedVariables false
set_option linter.unusedSimpArgs false
def idxF {α : Type} (p : α → Bool) (l : List α) : Int := if l.any p then (l.findIdx p : Int) else -1
def idxL (p : Int → Bool) (l : List Int) : Nat → Int → Option Int
  | 0, _ => none
  | k + 1, i => if i < (l.length : Int) then (if p (rd l i) = true then some i else idxL p l k (wrap64 (i + 1))) else some (-1)
theorem idxL_at (p : Int → Bool) (l : List Int) (hl : l.length ≤ 9223372036854775807) : ∀ (d n : Nat), n + d = l.length → (∀ x ∈ l.take n, p x = false) → idxL p l (d + 1) (n : Int) = some (idxF p l) := by
  intro d
  induction d with
  | zero =>
    intro n hn hp
    have hno : l.any p = false := by
      rw [List.take_of_length_le (by omega)] at hp
      simpa using hp
    simp only [idxL]
    rw [if_neg (by omega), idxF, if_neg (by simp [hno])]
  | succ d ih =>
    intro n hn hp
    have hlt : n < l.length := by omega
    have hrd : rd l (n : Int) = l[n] := by simp [rd, hlt]
    have htake : l.take (n + 1) = l.take n ++ [l[n]] := by rw [List.take_succ_eq_append_getElem hlt]
    rw [idxL, if_pos (by omega), hrd]
    by_cases h : p l[n] = true
    · rw [if_pos h, idxF, if_pos (by simp only [List.any_eq_true]; exact ⟨l[n], List.getElem_mem _, h⟩)]
      congr 2
      symm
      rw [List.findIdx_eq hlt]
      refine ⟨h, fun j hj => ?_⟩
      exact hp _ (List.mem_take_iff_getElem.2 ⟨j, by omega, rfl⟩)
    · rw [if_neg h, show wrap64 ((n : Int) + 1) = ((n + 1 : Nat) : Int) by unfold wrap64; omega]
      refine ih (n + 1) (by omega) ?_
      rw [htake]
      intro x hx
      rcases List.mem_append.1 hx with hx | hx
      · exact hp x hx
      · rw [List.mem_singleton.1 hx]
        simpa using h
theorem idxF_nonneg {α : Type} (p : α → Bool) (l : List α) : decide (0 ≤ idxF p l) = l.any p := by
  unfold idxF
  by_cases h : l.any p = true
  · rw [if_pos h, h]; simp
  · rw [if_neg h]
    simp only [Bool.not_eq_true] at h
    rw [h]; simp
theorem all_not_any {α : Type} (p : α → Bool) (l : List α) : l.all p = !(l.any fun x => !p x) := by
  induction l with
  | nil => rfl
  | cons x l ih => rw [List.all_cons, List.any_cons, Bool.not_or, Bool.not_not, ih]
theorem rd_mem {l : List Int} {i : Int} (h0 : 0 ≤ i) (h : i < (l.length : Int)) : rd l i ∈ l := by
  have hlt : i.toNat < l.length := by omega
  simp [rd, hlt]
end Go.Proofs.Ytnmpjikiodnmnaa.P
end
section
namespace Go.Proofs.Ytnmpjikiodnmnaa.P
open Go.RowKit Go.Proofs.YtnmpjikiodnmnaaW.PrintWords Go.Proofs.YtnmpjikiodnmnaaW.PrintLast Go.Proofs.YtnmpjikiodnmnaaW.PrintMore
attribute [local go_sem] max2_int min2_int max_two min_two max_three min_three max_four min_four   -- for this text's walks alone
set_option linter.unusedVariables false
set_option linter.unusedSimpArgs false
def ckd : Kd (Int × Int) := Kd.pair (Kd.int .i64) (Kd.int .i64)
def clsV (x : Int × Int) : Value := .agg #[.int .i64 x.1, .int .i64 x.2]
def rdC (l : List (Int × Int)) (i : Int) : Int × Int := l.getD i.toNat (0, 0)
theorem at_cls {w : World} {A : Option Addr} {n : Nat} {xs : List (Int × Int)} (h : ckd.C w A n xs) (i : Int) (h0 : 0 ≤ i) (h1 : i < n) :
    ∃ ad, A = some ad ∧ w.cell? (ad.add (i.toNat * 2)) = some (.int .i64 (rdC xs i).1) ∧ w.cell? ⟨(ad.add (i.toNat * 2)).block, (ad.add (i.toNat * 2)).off + 1, none⟩ = some (.int .i64 (rdC xs i).2) := by
  obtain ⟨ad, c, e, _, ⟨c0, c1, rfl, k0, k1⟩, hg⟩ := Kd.C_get h (0, 0) i h0 h1
  obtain rfl : c0 = [.int .i64 (xs.getD i.toNat (0, 0)).1] := k0
  obtain rfl : c1 = [.int .i64 (xs.getD i.toNat (0, 0)).2] := k1
  have a1 : w.cell? (ad.add (i.toNat * 2 + 0)) = some (.int .i64 (rdC xs i).1) := hg 0 _ rfl
  have a2 : w.cell? (ad.add (i.toNat * 2 + 1)) = some (.int .i64 (rdC xs i).2) := hg 1 _ rfl
  refine ⟨ad, e, a1, ?_⟩
  have e2 : (⟨(ad.add (i.toNat * 2)).block, (ad.add (i.toNat * 2)).off + 1, none⟩ : Addr) = ad.add (i.toNat * 2 + 1) := by
    unfold Addr.add
    by_cases z : i.toNat * 2 = 0
    · simp [z]
    · simp [z, Nat.add_assoc]
  rw [e2]
  exact a2
def idxC (p : Int × Int → Bool) (l : List (Int × Int)) : Nat → Int → Option Int
  | 0, _ => none
  | k + 1, i => if i < (l.length : Int) then (if p (rdC l i) = true then some i else idxC p l k (wrap64 (i + 1))) else some (-1)
theorem idxC_at (p : Int × Int → Bool) (l : List (Int × Int)) (hl : l.length ≤ 9223372036854775807) : ∀ (d n : Nat), n + d = l.length → (∀ x ∈ l.take n, p x = false) → idxC p l (d + 1) (n : Int) = some (idxF p l) := by
  intro d
  induction d with
  | zero =>
    intro n hn hp
    have hno : l.any p = false := by
      rw [List.take_of_length_le (by omega)] at hp
      simpa using hp
    simp only [idxC]
    rw [if_neg (by omega), idxF, if_neg (by simp [hno])]
  | succ d ih =>
    intro n hn hp
    have hlt : n < l.length := by omega
    have hrd : rdC l (n : Int) = l[n] := by simp [rdC, hlt]
    have htake : l.take (n + 1) = l.take n ++ [l[n]] := by rw [List.take_succ_eq_append_getElem hlt]
    rw [idxC, if_pos (by omega), hrd]
    by_cases h : p l[n] = true
    · rw [if_pos h, idxF, if_pos (by simp only [List.any_eq_true]; exact ⟨l[n], List.getElem_mem _, h⟩)]
      congr 2
      symm
      rw [List.findIdx_eq hlt]
      refine ⟨h, fun j hj => ?_⟩
      exact hp _ (List.mem_take_iff_getElem.2 ⟨j, by omega, rfl⟩)
    · rw [if_neg h, show wrap64 ((n : Int) + 1) = ((n + 1 : Nat) : Int) by unfold wrap64; omega]
      refine ih (n + 1) (by omega) ?_
      rw [htake]
      intro x hx
      rcases List.mem_append.1 hx with hx | hx
      · exact hp x hx
      · rw [List.mem_singleton.1 hx]
        simpa using h
theorem rdC_mem {l : List (Int × Int)} {i : Int} (h0 : 0 ≤ i) (h : i < (l.length : Int)) : rdC l i ∈ l := by
  have hlt : i.toNat < l.length := by omega
  simp [rdC, hlt]
set_option maxHeartbeats 4000000 in
set_option maxRecDepth 100000 in
theorem fvC_IndexFunc (g : Nat) (lb : Array Value) (eg : ∀ args w, (callFunc g args).run Try.prog w = .ok (.enter g args) w) (p : Int × Int → Bool) (A0 : Option Addr) (c0 : Nat) (l0 : List (Int × Int)) (w : World)
    (hr0 : Kd.C ckd w A0 l0.length l0) (hc0 : l0.length ≤ c0)
    (hp : ∀ (W : World) (x : Int × Int), Below w.heap.size w W → x ∈ l0 → Calls Try.prog g (#[clsV x] ++ lb) W fun e w' => e = .returned (.bool (p x)) ∧ Below W.heap.size W w') :
    Calls Try.prog 68 #[.slice A0 l0.length c0, .func (.func g) #[] lb] w fun e w' => e = .returned (.int .i64 (idxF p l0)) ∧ Below w.heap.size w w' := by
  have H : idxC p l0 (l0.length + 1) 0 = some (idxF p l0) := idxC_at p l0 hr0.2.1 l0.length 0 (by omega) (by simp)
  generalize idxF p l0 = r at H ⊢
  have HR0 := Aside0.mk hr0
  have HC0 := Aside0.mk hc0
  have HP := Aside0.mk hp
  clear hr0 hc0 hp
  have H' := Aside0.mk H
  clear H
  have HB := Aside0.mk (Below.refl w.heap.size w)
  go_enter Try.func68, Try.ntmps68
  go_wp2
  go_loopg [5, 8] (l0.length + 1) (fun kq v5 v8 w' => ∃ x8 : Int, v8 = .int .i64 x8 ∧ Aside0 (idxC p l0 kq x8 = some r) ∧ Aside0 (0 ≤ x8) ∧ Aside0 (Below w.heap.size w w'))
  case atStart => exact ⟨0, rfl, H', ⟨by omega⟩, HB⟩
  case round =>
    clear H' HB
    obtain ⟨x8, rfl, HA, H0, HB⟩ := hrel
    cases gk with
    | zero => exact absurd HA.out (by simp [idxC])
    | succ k1 =>
      have H := HA.out
      clear HA
      simp only [idxC] at H
      by_cases c3 : x8 < (l0.length : Int)
      · rw [if_pos c3] at H
        obtain ⟨ad, e1, hx, hy⟩ := at_cls HR0.out x8 H0.out c3
        cases e1
        have hcell := pw_cell_below HB.out hx
        have hcell2 := pw_cell_below HB.out hy
        clear hx hy
        have hcall := HP.out _ (rdC l0 x8) HB.out (rdC_mem H0.out c3)
        have c3b := decide_eq_true c3
        have c0b := eq_true H0.out
        have c3c := eq_true c3
        have HM : Aside0 (x8 < 9223372036854775807) := ⟨by have := HR0.out.2.1; omega⟩
        clear c3
        generalize rdC l0 x8 = y at H hcell hcell2 hcall
        cases hq : p y with
        | true =>
          rw [hq, if_pos rfl] at H
          rw [hq] at hcall
          obtain rfl := Option.some.inj H
          clear H hq
          have HQ := Aside0.mk hcall
          clear hcall
          go_wp2_with (go_at_fn g; refine HQ.out.mono ?_; rintro e w' ⟨rfl, hb1⟩)
          go_ret
          exact ⟨rfl, below_step HB.out hb1⟩
        | false =>
          rw [hq, if_neg (by simp)] at H
          rw [hq] at hcall
          have H' := Aside0.mk H
          clear H hq
          have HQ := Aside0.mk hcall
          clear hcall
          go_wp2_with (go_at_fn g; refine HQ.out.mono ?_; rintro e w' ⟨rfl, hb1⟩)
          go_roundg k1
          case measure => omega
          case rel => exact ⟨(wrap64 (x8 + 1)), zF, H', ⟨by have h1 := HM.out; have h2 := H0.out; unfold wrap64; omega⟩, ⟨below_step HB.out hb1⟩⟩
      · rw [if_neg c3] at H
        obtain rfl := Option.some.inj H
        have c3b := decide_eq_false c3
        clear c3 H
        go_wp2
        go_ret
        exact ⟨rfl, HB.out⟩
set_option maxHeartbeats 4000000 in
theorem fvC_ContainsFunc (g : Nat) (lb : Array Value) (eg : ∀ args w, (callFunc g args).run Try.prog w = .ok (.enter g args) w) (p : Int × Int → Bool) (A0 : Option Addr) (c0 : Nat) (l0 : List (Int × Int)) (w : World)
    (hr0 : Kd.C ckd w A0 l0.length l0) (hc0 : l0.length ≤ c0)
    (hp : ∀ (W : World) (x : Int × Int), Below w.heap.size w W → x ∈ l0 → Calls Try.prog g (#[clsV x] ++ lb) W fun e w' => e = .returned (.bool (p x)) ∧ Below W.heap.size W w') :
    Calls Try.prog 65 #[.slice A0 l0.length c0, .func (.func g) #[] lb] w fun e w' => e = .returned (.bool (l0.any p)) ∧ Below w.heap.size w w' := by
  rw [← idxF_nonneg p l0]
  have HQ := Aside0.mk (fvC_IndexFunc g lb eg p A0 c0 l0 w hr0 hc0 hp)
  clear hr0 hc0 hp
  go_enter Try.func65, Try.ntmps65
  go_wp2_with (go_at_call 68; refine HQ.out.mono ?_; rintro e w' ⟨rfl, hb1⟩)
  go_ret
  exact ⟨rfl, hb1⟩
set_option maxHeartbeats 4000000 in
theorem fvC_areAll_1 (g : Nat) (lb : Array Value) (eg : ∀ args w, (callFunc g args).run Try.prog w = .ok (.enter g args) w) (p : Int × Int → Bool) (B : Nat) (x : Int × Int) (W : World)
    (hc : W.cell? ⟨B, 0, none⟩ = some (.func (.func g) #[] lb))
    (hp : ∀ W1 : World, Below W.heap.size W W1 → Calls Try.prog g (#[clsV x] ++ lb) W1 fun e w' => e = .returned (.bool (p x)) ∧ Below W1.heap.size W1 w') :
    Calls Try.prog 66 #[clsV x, .pointer (some ⟨B, 0, none⟩)] W fun e w' => e = .returned (.bool (!p x)) ∧ Below W.heap.size W w' := by
  have HQ := Aside0.mk hp
  have HC := Aside0.mk hc
  have HB := Aside0.mk (Below.refl W.heap.size W)
  clear hp hc
  generalize p x = b at HQ ⊢
  show Calls Try.prog 66 #[.agg #[.int .i64 x.1, .int .i64 x.2], .pointer (some ⟨B, 0, none⟩)] W _
  go_enter Try.func66, Try.ntmps66
  go_wp2_with (first
    | ((with_reducible refine gate_dst (N := 2) rfl ?_); refine box_event zr (N := 2) zr (cs := #[.int .i64 x.1, .int .i64 x.2]) (t := 63) zg ?_; intro gb hg w1 hbox hb; have hc0 : w1.cell? ⟨gb, 0, none⟩ = some (.int .i64 x.1) := (blk_cell hbox 0).trans rfl; have hc1 : w1.cell? ⟨gb, 1, none⟩ = some (.int .i64 x.2) := (blk_cell hbox 1).trans rfl; have hcB := pw_cell_below hb HC.out; have n_ := Aside0.mk (below_step HB.out hb); clear HB hbox hb hg; have HB := n_; clear n_)
    | (go_at_fn g; refine (HQ.out _ HB.out).mono ?_; rintro e w' ⟨rfl, hb1⟩; have n_ := Aside0.mk (below_step HB.out hb1); clear HB hb1; have HB := n_; clear n_))
  go_ret
  exact ⟨rfl, HB.out⟩
set_option maxHeartbeats 4000000 in
theorem fvC_areAll (g : Nat) (lb : Array Value) (eg : ∀ args w, (callFunc g args).run Try.prog w = .ok (.enter g args) w) (p : Int × Int → Bool) (A0 : Option Addr) (c0 : Nat) (l0 : List (Int × Int)) (w : World)
    (hr0 : Kd.C ckd w A0 l0.length l0) (hc0 : l0.length ≤ c0)
    (hp : ∀ (W : World) (x : Int × Int), Below w.heap.size w W → x ∈ l0 → Calls Try.prog g (#[clsV x] ++ lb) W fun e w' => e = .returned (.bool (p x)) ∧ Below W.heap.size W w') :
    Calls Try.prog 62 #[.slice A0 l0.length c0, .func (.func g) #[] lb] w fun e w' => e = .returned (.bool (l0.all p)) ∧ Below w.heap.size w w' := by
  rw [all_not_any p l0]
  have e1 : ∀ args w, (callFunc 66 args).run Try.prog w = .ok (.enter 66 args) w := enters_of Try.func66 zk rfl
  have hB : Below w.heap.size w (w.alloc (.cells #[.func (.func g) #[] lb] 82)) := below_alloc (Below.refl _ _) _
  have HQ := Aside0.mk (fvC_ContainsFunc 66 #[.pointer (some ⟨w.heap.size, 0, none⟩)] e1 (fun x => !p x) A0 c0 l0 (w.alloc (.cells #[.func (.func g) #[] lb] 82)) (Kd.C_below hr0 hB) hc0
    (fun W x hb hx => fvC_areAll_1 g lb eg p w.heap.size x W ((hb.cell (p := ⟨w.heap.size, 0, none⟩) (by simp)).trans (by simp)) (fun W1 hb1 => hp W1 x (below_step (below_step hB hb) hb1) hx)))
  have HB := Aside0.mk hB
  clear hr0 hc0 hp hB
  generalize (l0.any fun x => !p x) = b at HQ ⊢
  go_enter Try.func62, Try.ntmps62
  go_wp2_with (go_at_call 65; refine HQ.out.mono ?_; rintro e w' ⟨rfl, hb1⟩)
  go_ret
  exact ⟨rfl, below_step HB.out hb1⟩
end Go.Proofs.Ytnmpjikiodnmnaa.P
end
section
namespace Go.Proofs.Ytnmpjikiodnmnaa.P
open Go.RowKit Go.Proofs.YtnmpjikiodnmnaaW.PrintWords Go.Proofs.YtnmpjikiodnmnaaW.PrintLast Go.Proofs.YtnmpjikiodnmnaaW.PrintMore
attribute [local go_sem] max2_int min2_int max_two min_two max_three min_three max_four min_four   -- for this text's walks alone
set_option linter.unusedVariables false
set_option linter.unusedSimpArgs false
def impl_divisor.l0 : Nat → Int → Int → Option (Int)
  | 0, _, _ => none
  | k + 1, x0, x1 => if x1 = 0 then (some x0) else (impl_divisor.l0 k x1 (Int.tmod x0 x1))
def impl_divisor.f (k : Nat) (a0 : Int) (a1 : Int) : Option (Int) := impl_divisor.l0 k a0 a1
theorem impl_divisor.mono_l : ∀ k, (∀ y0 y1, LeO (impl_divisor.l0 k y0 y1) (impl_divisor.l0 (k + 1) y0 y1))
  | 0 => fun _ _ r h => by simp [impl_divisor.l0] at h
  | k + 1 => by
    have ih0 := impl_divisor.mono_l k
    · intro y0 y1
      unfold impl_divisor.l0
      repeat' first | (with_reducible exact ih0 _ _) | (with_reducible exact LeO.refl _) | (with_reducible exact LeO.none _) | (with_reducible refine LeO.ite ?_ ?_) | (with_reducible refine LeO.bind ?_ (fun _ => ?_)) | exact ih0 _ _ | exact LeO.none _ | refine LeO.ite ?_ ?_ | refine LeO.bind ?_ (fun _ => ?_)
theorem impl_divisor.mono : ∀ a0 a1 k, LeO (impl_divisor.f k a0 a1) (impl_divisor.f (k + 1) a0 a1) := by
  intro a0 a1 k
  have ih0 := impl_divisor.mono_l k
  unfold impl_divisor.f
  repeat' first | (with_reducible exact ih0 _ _) | (with_reducible exact LeO.refl _) | (with_reducible exact LeO.none _) | (with_reducible refine LeO.ite ?_ ?_) | (with_reducible refine LeO.bind ?_ (fun _ => ?_)) | exact ih0 _ _ | exact LeO.none _ | refine LeO.ite ?_ ?_ | refine LeO.bind ?_ (fun _ => ?_)
set_option maxHeartbeats 8000000 in
set_option maxRecDepth 100000 in
theorem impl_divisor.calls (k : Nat) (a0 : Int) (a1 : Int) (r : Int) (w : World) (h : impl_divisor.f k a0 a1 = some r) :
    Calls Try.prog 67 #[.int .i64 a0, .int .i64 a1] w fun e w' => e = .returned (.int .i64 r) ∧ Drawn0 w w' := by
 have H : (impl_divisor.l0 k a0 a1) = some r := h
 clear h
 have H' := Aside0.mk H
 clear H
 go_enter Try.func67, Try.ntmps67
 go_wp2
 repeat (go_quiet (fail); try go_wp2)
 go_loopg [0, 1] k (fun kq v0 v1 w' => ∃ (x0_1 : Int) (x1_1 : Int), v0 = .int .i64 x0_1 ∧ v1 = .int .i64 x1_1 ∧ Aside0 (impl_divisor.l0 kq x0_1 x1_1 = some r) ∧ Aside0 (kq ≤ k) ∧ Drawn0 w w')
 case atStart => exact ⟨(a0), (a1), zF, zF, H', ⟨Nat.le_refl _⟩, by repeat (first | exact Drawn0.refl _ | apply Drawn0.step)⟩
 clear H'
 obtain ⟨x0_1, x1_1, rfl, rfl, HA, HK1, ⟨m1, rfl⟩⟩ := hrel
 cases gk with
 | zero => exact absurd HA.out (by simp [impl_divisor.l0])
 | succ k1 =>
   have H := HA.out
   clear HA
   simp only [impl_divisor.l0] at H
   by_cases c3 : x1_1 = 0
   · rw [if_pos c3] at H
     have c3b0 : (x1_1 == 0) = true := beq_iff_eq.mpr c3
     have c3b1 : (x1_1 != 0) = false := bne_eq_false_iff_eq.mpr c3
     clear c3
     obtain rfl := Option.some.inj H
     go_wp2
     repeat (go_quiet (fail); try go_wp2)
     go_ret
     exact ⟨by first | rfl | (simp; done) | (simp [*]; done), by repeat (first | exact Drawn0.refl _ | apply Drawn0.step)⟩
   · rw [if_neg c3] at H
     have c3b0 : (x1_1 == 0) = false := beq_eq_false_iff_ne.mpr c3
     have c3b1 : (x1_1 != 0) = true := bne_iff_ne.mpr c3
     have H' := Aside0.mk H
     clear H
     go_wp2
     repeat (go_quiet (fail); try go_wp2)
     go_roundg k1
     case measure => have := HK1.out; omega
     case rel => exact ⟨(x1_1), (Int.tmod x0_1 x1_1), zF, zF, H', ⟨by have := HK1.out; omega⟩, by repeat (first | exact Drawn0.refl _ | apply Drawn0.step)⟩
end Go.Proofs.Ytnmpjikiodnmnaa.P
end
section
namespace Go.Proofs.Ytnmpjikiodnmnaa.P
open Go.RowKit Go.Proofs.YtnmpjikiodnmnaaW.PrintWords Go.Proofs.YtnmpjikiodnmnaaW.PrintLast Go.Proofs.YtnmpjikiodnmnaaW.PrintMore
attribute [local go_sem] max2_int min2_int max_two min_two max_three min_three max_four min_four   -- for this text's walks alone
set_option linter.unusedVariables false
set_option linter.unusedSimpArgs false
def impl_Class_meets.f (k : Nat) (c d : Int × Int) : Option Bool := (impl_divisor.f k c.2 d.2).bind fun g => if g = 0 then none else some (decide (Int.tmod (wrap64 (c.1 - d.1)) g = 0))
theorem impl_Class_meets.mono : ∀ c d k, LeO (impl_Class_meets.f k c d) (impl_Class_meets.f (k + 1) c d) := by
  intro c d k
  unfold impl_Class_meets.f
  exact LeO.bind (impl_divisor.mono _ _ _) fun _ => LeO.refl _
set_option maxHeartbeats 4000000 in
set_option maxRecDepth 100000 in
theorem impl_Class_meets.calls (k : Nat) (c d : Int × Int) (r : Bool) (w : World) (h : impl_Class_meets.f k c d = some r) :
    Calls Try.prog 64 #[clsV c, clsV d] w fun e w' => e = .returned (.bool r) ∧ Below w.heap.size w w' := by
  obtain ⟨c0, c1⟩ := c
  obtain ⟨d0, d1⟩ := d
  unfold impl_Class_meets.f at h
  obtain ⟨g, e1, h⟩ := Option.bind_eq_some_iff.mp h
  by_cases hg : g = 0
  · rw [if_pos hg] at h; cases h
  rw [if_neg hg] at h
  obtain rfl := Option.some.inj h
  clear h
  have e1 : impl_divisor.f k c1 d1 = some g := e1
  have HD := Aside0.mk (fun W => impl_divisor.calls k c1 d1 g W e1)
  have g1 : (g == 0) = false := beq_eq_false_iff_ne.mpr hg
  have g2 : (g != 0) = true := bne_iff_ne.mpr hg
  have g3 : (g = 0) = False := eq_false hg
  clear e1
  have HB := Aside0.mk (Below.refl w.heap.size w)
  show Calls Try.prog 64 #[.agg #[.int .i64 c0, .int .i64 c1], .agg #[.int .i64 d0, .int .i64 d1]] w fun e w' => e = .returned (.bool (decide (Int.tmod (wrap64 (c0 - d0)) g = 0))) ∧ Below w.heap.size w w'
  go_enter Try.func64, Try.ntmps64
  try go_wp2_with (first
    | ((with_reducible refine gate_dst (N := 2) rfl ?_); refine box_event zr (N := 2) zr (cs := #[.int .i64 c0, .int .i64 c1]) (t := 63) zg ?_; intro gb hg w1 hbox hb; have hc0 : w1.cell? ⟨gb, 0, none⟩ = some (.int .i64 c0) := (blk_cell hbox 0).trans rfl; have hc1 : w1.cell? ⟨gb, 1, none⟩ = some (.int .i64 c1) := (blk_cell hbox 1).trans rfl; have n_ := Aside0.mk (below_step HB.out hb); clear HB hbox hb hg; have HB := n_; clear n_)
    | ((with_reducible refine gate_dst (N := 3) rfl ?_); refine box_event zr (N := 3) zr (cs := #[.int .i64 d0, .int .i64 d1]) (t := 63) zg ?_; intro gb2 hg w2 hbox hb; have hd0 : w2.cell? ⟨gb2, 0, none⟩ = some (.int .i64 d0) := (blk_cell hbox 0).trans rfl; have hd1 : w2.cell? ⟨gb2, 1, none⟩ = some (.int .i64 d1) := (blk_cell hbox 1).trans rfl; have hc0' := pw_cell_below hb hc0; have hc1' := pw_cell_below hb hc1; have n_ := Aside0.mk (below_step HB.out hb); clear HB hbox hb hg hc0 hc1; have HB := n_; clear n_))
  repeat (go_quiet (first | (go_at_call 67; refine (HD.out _).mono ?_; rintro e w' ⟨rfl, ⟨n1, rfl⟩⟩; (try exact zd))); try go_wp2)
  go_ret
  exact ⟨rfl, by repeat (first | exact HB.out | apply below_alloc | apply pw_below_drewN | apply below_drew1)⟩
end Go.Proofs.Ytnmpjikiodnmnaa.P
end
section
namespace Go.Proofs.Ytnmpjikiodnmnaa.P
open Go.RowKit Go.Proofs.YtnmpjikiodnmnaaW.PrintWords Go.Proofs.YtnmpjikiodnmnaaW.PrintLast Go.Proofs.YtnmpjikiodnmnaaW.PrintMore
attribute [local go_sem] max2_int min2_int max_two min_two max_three min_three max_four min_four   -- for this text's walks alone
set_option linter.unusedVariables false
set_option linter.unusedSimpArgs false
def impl_Class_isApart.f (k : Nat) (c : Int × Int) (l : List (Int × Int)) : Option Bool := if (l.all fun d => (impl_Class_meets.f k c d).isSome) = true then some (l.all fun d => !((impl_Class_meets.f k c d).getD false)) else none
theorem impl_Class_isApart.mono : ∀ c l k, LeO (impl_Class_isApart.f k c l) (impl_Class_isApart.f (k + 1) c l) := by
  intro c l k r h
  unfold impl_Class_isApart.f at h ⊢
  split at h
  · next ha =>
    rw [List.all_eq_true] at ha
    have e : ∀ d ∈ l, impl_Class_meets.f (k + 1) c d = impl_Class_meets.f k c d := fun d hd => by
      obtain ⟨v, hv⟩ := Option.isSome_iff_exists.mp (ha d hd)
      rw [hv]
      exact impl_Class_meets.mono c d k v hv
    have e1 : (l.all fun d => (impl_Class_meets.f (k + 1) c d).isSome) = true := by
      rw [List.all_eq_true]
      intro d hd
      rw [e d hd]
      exact ha d hd
    have e2 : (l.all fun d => !((impl_Class_meets.f (k + 1) c d).getD false)) = (l.all fun d => !((impl_Class_meets.f k c d).getD false)) := by
      rw [Bool.eq_iff_iff, List.all_eq_true, List.all_eq_true]
      constructor <;> intro q d hd <;> have := q d hd
      · rw [e d hd] at this; exact this
      · rw [e d hd]; exact this
    rw [if_pos e1, e2]
    exact h
  · cases h
set_option maxHeartbeats 4000000 in
set_option maxRecDepth 100000 in
theorem fvC_isApart_1 (k : Nat) (c d : Int × Int) (v : Bool) (hm : impl_Class_meets.f k c d = some v) (B : Nat) (W : World) (hc0 : W.cell? ⟨B, 0, none⟩ = some (.int .i64 c.1)) (hc1 : W.cell? ⟨B, 1, none⟩ = some (.int .i64 c.2)) :
    Calls Try.prog 63 (#[clsV d] ++ #[.pointer (some ⟨B, 0, none⟩)]) W fun e w' => e = .returned (.bool (!v)) ∧ Below W.heap.size W w' := by
  have HM := Aside0.mk (fun W => impl_Class_meets.calls k c d v W hm)
  have HB := Aside0.mk (Below.refl W.heap.size W)
  clear hm
  show Calls Try.prog 63 #[.agg #[.int .i64 d.1, .int .i64 d.2], .pointer (some ⟨B, 0, none⟩)] W _
  go_enter Try.func63, Try.ntmps63
  go_wp2_with (first
    | ((with_reducible refine gate_dst (N := 2) rfl ?_); refine box_event zr (N := 2) zr (cs := #[.int .i64 d.1, .int .i64 d.2]) (t := 63) zg ?_; intro gb hg w1 hbox hb; have hd0 : w1.cell? ⟨gb, 0, none⟩ = some (.int .i64 d.1) := (blk_cell hbox 0).trans rfl; have hd1 : w1.cell? ⟨gb, 1, none⟩ = some (.int .i64 d.2) := (blk_cell hbox 1).trans rfl; have hc0' := pw_cell_below hb hc0; have hc1' := pw_cell_below hb hc1; have n_ := Aside0.mk (below_step HB.out hb); clear HB hbox hb hg hc0 hc1; have HB := n_; clear n_)
    | (go_at_call 64; refine (HM.out _).mono ?_; rintro e w' ⟨rfl, hb1⟩; have n_ := Aside0.mk (below_step HB.out hb1); clear HB hb1; have HB := n_; clear n_))
  go_ret
  exact ⟨rfl, HB.out⟩
set_option maxHeartbeats 4000000 in
set_option maxRecDepth 100000 in
theorem impl_Class_isApart.calls (k : Nat) (c : Int × Int) (A1 : Option Addr) (c1 : Nat) (l : List (Int × Int)) (r : Bool) (w : World) (hr1 : ckd.C w A1 l.length l) (hc1 : l.length ≤ c1) (h : impl_Class_isApart.f k c l = some r) :
    Calls Try.prog 53 #[clsV c, .slice A1 l.length c1] w fun e w' => e = .returned (.bool r) ∧ Below w.heap.size w w' := by
  unfold impl_Class_isApart.f at h
  split at h
  · next ha =>
    obtain rfl := Option.some.inj h
    rw [List.all_eq_true] at ha
    have e1 : ∀ args w, (callFunc 63 args).run Try.prog w = .ok (.enter 63 args) w := enters_of Try.func63 zk rfl
    have HQ := Aside0.mk (fun (W : World) (gb : Nat) (hb : Below w.heap.size w W) (hc0 : W.cell? ⟨gb, 0, none⟩ = some (.int .i64 c.1)) (hc1' : W.cell? ⟨gb, 1, none⟩ = some (.int .i64 c.2)) => fvC_areAll 63 #[.pointer (some ⟨gb, 0, none⟩)] e1 (fun d => !((impl_Class_meets.f k c d).getD false)) A1 c1 l W (Kd.C_below hr1 hb) hc1 (fun W' d hb' hd => by
      obtain ⟨v, hv⟩ := Option.isSome_iff_exists.mp (ha d hd)
      rw [hv]
      exact fvC_isApart_1 k c d v hv gb W' (pw_cell_below hb' hc0) (pw_cell_below hb' hc1')))
    clear hr1 hc1 e1 ha h
    generalize (l.all fun d => !((impl_Class_meets.f k c d).getD false)) = b at HQ ⊢
    have HB := Aside0.mk (Below.refl w.heap.size w)
    show Calls Try.prog 53 #[.agg #[.int .i64 c.1, .int .i64 c.2], .slice A1 l.length c1] w _
    go_enter Try.func53, Try.ntmps53
    go_wp2_with (first
      | ((with_reducible refine gate_dst (N := 2) rfl ?_); refine box_event zr (N := 2) zr (cs := #[.int .i64 c.1, .int .i64 c.2]) (t := 63) zg ?_; intro gb hg w1 hbox hb; have HX := Aside0.mk (HQ.out w1 gb (below_step HB.out hb) ((blk_cell hbox 0).trans rfl) ((blk_cell hbox 1).trans rfl)); have n_ := Aside0.mk (below_step HB.out hb); clear HB HQ hbox hb hg; have HB := n_; clear n_)
      | (go_at_call 62; refine HX.out.mono ?_; rintro e w' ⟨rfl, hb1⟩; have n_ := Aside0.mk (below_step HB.out hb1); clear HB hb1; have HB := n_; clear n_))
    go_ret
    exact ⟨rfl, HB.out⟩
  · cases h
end Go.Proofs.Ytnmpjikiodnmnaa.P
end
section
namespace Go.Proofs.Ytnmpjikiodnmnaa.P
open Go.RowKit Go.Proofs.YtnmpjikiodnmnaaW.PrintWords Go.Proofs.YtnmpjikiodnmnaaW.PrintLast Go.Proofs.YtnmpjikiodnmnaaW.PrintMore
attribute [local go_sem] max2_int min2_int max_two min_two max_three min_three max_four min_four   -- for this text's walks alone
set_option linter.unusedVariables false
set_option linter.unusedSimpArgs false
def spec_l01Gcd.l0 : Nat → Int → Int → Option (Int)
  | 0, _, _ => none
  | k + 1, x0, x1 => if x1 = 0 then (some x0) else (spec_l01Gcd.l0 k x1 (Int.tmod x0 x1))
def spec_l01Gcd.f (k : Nat) (a0 : Int) (a1 : Int) : Option (Int) := spec_l01Gcd.l0 k a0 a1
theorem spec_l01Gcd.mono_l : ∀ k, (∀ y0 y1, LeO (spec_l01Gcd.l0 k y0 y1) (spec_l01Gcd.l0 (k + 1) y0 y1))
  | 0 => fun _ _ r h => by simp [spec_l01Gcd.l0] at h
  | k + 1 => by
    have ih0 := spec_l01Gcd.mono_l k
    · intro y0 y1
      unfold spec_l01Gcd.l0
      repeat' first | (with_reducible exact ih0 _ _) | (with_reducible exact LeO.refl _) | (with_reducible exact LeO.none _) | (with_reducible refine LeO.ite ?_ ?_) | (with_reducible refine LeO.bind ?_ (fun _ => ?_)) | exact ih0 _ _ | exact LeO.none _ | refine LeO.ite ?_ ?_ | refine LeO.bind ?_ (fun _ => ?_)
theorem spec_l01Gcd.mono : ∀ a0 a1 k, LeO (spec_l01Gcd.f k a0 a1) (spec_l01Gcd.f (k + 1) a0 a1) := by
  intro a0 a1 k
  have ih0 := spec_l01Gcd.mono_l k
  unfold spec_l01Gcd.f
  repeat' first | (with_reducible exact ih0 _ _) | (with_reducible exact LeO.refl _) | (with_reducible exact LeO.none _) | (with_reducible refine LeO.ite ?_ ?_) | (with_reducible refine LeO.bind ?_ (fun _ => ?_)) | exact ih0 _ _ | exact LeO.none _ | refine LeO.ite ?_ ?_ | refine LeO.bind ?_ (fun _ => ?_)
set_option maxHeartbeats 8000000 in
set_option maxRecDepth 100000 in
theorem spec_l01Gcd.calls (k : Nat) (a0 : Int) (a1 : Int) (r : Int) (w : World) (h : spec_l01Gcd.f k a0 a1 = some r) :
    Calls Try.prog 60 #[.int .i64 a0, .int .i64 a1] w fun e w' => e = .returned (.int .i64 r) ∧ Drawn0 w w' := by
 have H : (spec_l01Gcd.l0 k a0 a1) = some r := h
 clear h
 have H' := Aside0.mk H
 clear H
 go_enter Try.func60, Try.ntmps60
 go_wp2
 go_loopg [0, 1] k (fun kq v0 v1 w' => ∃ (x0_1 : Int) (x1_1 : Int), v0 = .int .i64 x0_1 ∧ v1 = .int .i64 x1_1 ∧ Aside0 (spec_l01Gcd.l0 kq x0_1 x1_1 = some r) ∧ Aside0 (kq ≤ k) ∧ Drawn0 w w')
 case atStart => exact ⟨(a0), (a1), zF, zF, H', ⟨Nat.le_refl _⟩, by repeat (first | exact Drawn0.refl _ | apply Drawn0.step)⟩
 clear H'
 obtain ⟨x0_1, x1_1, rfl, rfl, HA, HK1, ⟨m1, rfl⟩⟩ := hrel
 cases gk with
 | zero => exact absurd HA.out (by simp [spec_l01Gcd.l0])
 | succ k1 =>
   have H := HA.out
   clear HA
   simp only [spec_l01Gcd.l0] at H
   by_cases c3 : x1_1 = 0
   · rw [if_pos c3] at H
     have c3b0 : (x1_1 == 0) = true := beq_iff_eq.mpr c3
     have c3b1 : (x1_1 != 0) = false := bne_eq_false_iff_eq.mpr c3
     clear c3
     obtain rfl := Option.some.inj H
     go_wp2
     go_ret
     exact ⟨by first | rfl | (simp; done) | (simp [*]; done), by repeat (first | exact Drawn0.refl _ | apply Drawn0.step)⟩
   · rw [if_neg c3] at H
     have c3b0 : (x1_1 == 0) = false := beq_eq_false_iff_ne.mpr c3
     have c3b1 : (x1_1 != 0) = true := bne_iff_ne.mpr c3
     have H' := Aside0.mk H
     clear H
     go_wp2
     go_roundg k1
     case measure => have := HK1.out; omega
     case rel => exact ⟨(x1_1), (Int.tmod x0_1 x1_1), zF, zF, H', ⟨by have := HK1.out; omega⟩, by repeat (first | exact Drawn0.refl _ | apply Drawn0.step)⟩
end Go.Proofs.Ytnmpjikiodnmnaa.P
end
section
namespace Go.Proofs.Ytnmpjikiodnmnaa.P
open Go.RowKit Go.Proofs.YtnmpjikiodnmnaaW.PrintWords Go.Proofs.YtnmpjikiodnmnaaW.PrintLast Go.Proofs.YtnmpjikiodnmnaaW.PrintMore
attribute [local go_sem] max2_int min2_int max_two min_two max_three min_three max_four min_four   -- for this text's walks alone
set_option linter.unusedVariables false
set_option linter.unusedSimpArgs false
def spec_l05Meet.f (k : Nat) (c d : Int × Int) : Option Bool := (spec_l01Gcd.f k c.2 d.2).bind fun g => if g = 0 then none else some (decide (Int.tmod (wrap64 (c.1 - d.1)) g = 0))
theorem spec_l05Meet.mono : ∀ c d k, LeO (spec_l05Meet.f k c d) (spec_l05Meet.f (k + 1) c d) := by
  intro c d k
  unfold spec_l05Meet.f
  exact LeO.bind (spec_l01Gcd.mono _ _ _) fun _ => LeO.refl _
set_option maxHeartbeats 4000000 in
set_option maxRecDepth 100000 in
theorem spec_l05Meet.calls (k : Nat) (c d : Int × Int) (r : Bool) (w : World) (h : spec_l05Meet.f k c d = some r) :
    Calls Try.prog 51 #[clsV c, clsV d] w fun e w' => e = .returned (.bool r) ∧ Below w.heap.size w w' := by
  obtain ⟨c0, c1⟩ := c
  obtain ⟨d0, d1⟩ := d
  unfold spec_l05Meet.f at h
  obtain ⟨g, e1, h⟩ := Option.bind_eq_some_iff.mp h
  by_cases hg : g = 0
  · rw [if_pos hg] at h; cases h
  rw [if_neg hg] at h
  obtain rfl := Option.some.inj h
  clear h
  have e1 : spec_l01Gcd.f k c1 d1 = some g := e1
  have HD := Aside0.mk (fun W => spec_l01Gcd.calls k c1 d1 g W e1)
  have g1 : (g == 0) = false := beq_eq_false_iff_ne.mpr hg
  have g2 : (g != 0) = true := bne_iff_ne.mpr hg
  have g3 : (g = 0) = False := eq_false hg
  clear e1
  have HB := Aside0.mk (Below.refl w.heap.size w)
  show Calls Try.prog 51 #[.agg #[.int .i64 c0, .int .i64 c1], .agg #[.int .i64 d0, .int .i64 d1]] w fun e w' => e = .returned (.bool (decide (Int.tmod (wrap64 (c0 - d0)) g = 0))) ∧ Below w.heap.size w w'
  go_enter Try.func51, Try.ntmps51
  try go_wp2_with (first
    | ((with_reducible refine gate_dst (N := 2) rfl ?_); refine box_event zr (N := 2) zr (cs := #[.int .i64 c0, .int .i64 c1]) (t := 63) zg ?_; intro gb hg w1 hbox hb; have hc0 : w1.cell? ⟨gb, 0, none⟩ = some (.int .i64 c0) := (blk_cell hbox 0).trans rfl; have hc1 : w1.cell? ⟨gb, 1, none⟩ = some (.int .i64 c1) := (blk_cell hbox 1).trans rfl; have n_ := Aside0.mk (below_step HB.out hb); clear HB hbox hb hg; have HB := n_; clear n_)
    | ((with_reducible refine gate_dst (N := 3) rfl ?_); refine box_event zr (N := 3) zr (cs := #[.int .i64 d0, .int .i64 d1]) (t := 63) zg ?_; intro gb2 hg w2 hbox hb; have hd0 : w2.cell? ⟨gb2, 0, none⟩ = some (.int .i64 d0) := (blk_cell hbox 0).trans rfl; have hd1 : w2.cell? ⟨gb2, 1, none⟩ = some (.int .i64 d1) := (blk_cell hbox 1).trans rfl; have hc0' := pw_cell_below hb hc0; have hc1' := pw_cell_below hb hc1; have n_ := Aside0.mk (below_step HB.out hb); clear HB hbox hb hg hc0 hc1; have HB := n_; clear n_))
  repeat (go_quiet (first | (go_at_call 60; refine (HD.out _).mono ?_; rintro e w' ⟨rfl, ⟨n1, rfl⟩⟩; (try exact zd))); try go_wp2)
  go_ret
  exact ⟨rfl, by repeat (first | exact HB.out | apply below_alloc | apply pw_below_drewN | apply below_drew1)⟩
end Go.Proofs.Ytnmpjikiodnmnaa.P
end
section
namespace Go.Proofs.Ytnmpjikiodnmnaa.P
open Go.RowKit Go.Proofs.YtnmpjikiodnmnaaW.PrintWords Go.Proofs.YtnmpjikiodnmnaaW.PrintLast Go.Proofs.YtnmpjikiodnmnaaW.PrintMore
attribute [local go_sem] max2_int min2_int max_two min_two max_three min_three max_four min_four   -- for this text's walks alone
set_option linter.unusedVariables false
set_option linter.unusedSimpArgs false
def heldC : List (Int × Int) → Int → Int
  | [], m => m
  | x :: l, m => if x.1 = m then (if x.2 = wrap64 (m + 1) then heldC l (wrap64 (wrap64 (m + 1) + 1)) else -1) else -1
def laws_heldClassS.f (l : List (Int × Int)) (m : Int) : Option Int := some (heldC l m)
theorem drop_rdC {l : List (Int × Int)} {i : Nat} (h : i < l.length) : l.drop i = rdC l (i : Int) :: l.drop (i + 1) := by
  rw [List.drop_eq_getElem_cons h]
  simp [rdC, h]
set_option maxHeartbeats 8000000 in
set_option maxRecDepth 100000 in
theorem laws_heldClassS.calls (A0 : Option Addr) (c0 : Nat) (l : List (Int × Int)) (m : Int) (r : Int) (w : World) (hr0 : ckd.C w A0 l.length l) (hc0 : l.length ≤ c0) (h : laws_heldClassS.f l m = some r) :
    Calls Try.prog 21 #[.slice A0 l.length c0, .int .i64 m] w fun e w' => e = .returned (.int .i64 r) ∧ Below w.heap.size w w' := by
  have h : heldC l m = r := Option.some.inj h
  have HR := Aside0.mk hr0
  have HM := Aside0.mk (show l.length ≤ 9223372036854775807 from hr0.2.1)
  have HB := Aside0.mk (Below.refl w.heap.size w)
  have HV := Aside0.mk (show heldC (l.drop 0) m = r from h)
  clear hr0 hc0 h
  go_enter Try.func21, Try.ntmps21
  go_wp2
  go_loopg [1, 5] (l.length + 1) (fun kq v1 v5 w' => ∃ (i : Nat) (q : Int), v1 = .int .i64 q ∧ v5 = .int .i64 (i : Int) ∧ Aside0 (i + kq = l.length + 1) ∧ Aside0 (heldC (l.drop i) q = r) ∧ Aside0 (Below w.heap.size w w'))
  case atStart => exact ⟨0, m, rfl, rfl, ⟨by omega⟩, HV, HB⟩
  case round =>
    clear HV HB
    obtain ⟨i, q, rfl, rfl, HI, HV, HB⟩ := hrel
    by_cases hi : (i : Int) < (l.length : Int)
    · have hi1 : decide ((i : Int) < (l.length : Int)) = true := decide_eq_true hi
      have hlt : i < l.length := by omega
      obtain ⟨ad, e1, hx, hy⟩ := at_cls HR.out (i : Int) (by omega) hi
      cases e1
      have hx := pw_cell_below HB.out hx
      have hy := pw_cell_below HB.out hy
      simp only [Int.toNat_natCast] at hx hy
      have hv := HV.out
      rw [drop_rdC hlt, heldC] at hv
      have HW := Aside0.mk hv
      clear hv HV
      generalize rdC l (i : Int) = x at hx hy HW
      have c1 := eq_true hi
      have c2 := eq_true (show (0 : Int) ≤ (i : Int) by omega)
      obtain ⟨k1, rfl⟩ : ∃ k1, gk = k1 + 1 := ⟨gk - 1, by have := HI.out; omega⟩
      go_wp2
      go_loopg [1, 6] 3 (fun kq v1 v6 w' => ∃ (j : Nat) (p : Int), v1 = .int .i64 p ∧ v6 = .int .i64 (j : Int) ∧ Aside0 (j + kq = 3) ∧ Aside0 ((j = 0 ∧ p = q) ∨ (j = 1 ∧ p = wrap64 (q + 1) ∧ x.1 = q) ∨ (j = 2 ∧ p = wrap64 (wrap64 (q + 1) + 1) ∧ x.1 = q ∧ x.2 = wrap64 (q + 1))) ∧ Aside0 (Below w.heap.size w w') ∧ Aside0 (w'.cell? (ad.add (i * 2)) = some (.int .i64 x.1)) ∧ Aside0 (w'.cell? ⟨(ad.add (i * 2)).block, (ad.add (i * 2)).off + 1, none⟩ = some (.int .i64 x.2)))
      case atStart => exact ⟨0, q, rfl, rfl, ⟨rfl⟩, ⟨.inl ⟨rfl, rfl⟩⟩, HB, ⟨hx⟩, ⟨hy⟩⟩
      case round =>
        clear HB hx hy
        obtain ⟨j, p, rfl, rfl, HJ, HC, HB, HX, HY⟩ := hrel
        have hx := HX.out
        have hy := HY.out
        rcases HC.out with ⟨rfl, rfl⟩ | ⟨rfl, rfl, e1⟩ | ⟨rfl, rfl, e1, e2⟩
        · obtain ⟨k2, rfl⟩ : ∃ k2, gk = k2 + 1 := ⟨gk - 1, by have := HJ.out; omega⟩
          by_cases e : x.1 = p
          · have b1 : (x.1 != p) = false := bne_eq_false_iff_eq.mpr e
            have b2 : (x.1 == p) = true := beq_iff_eq.mpr e
            go_wp2
            go_roundg k2
            case measure => omega
            case rel => exact ⟨1, _, rfl, rfl, ⟨by have := HJ.out; omega⟩, ⟨.inr (.inl ⟨rfl, rfl, e⟩)⟩, HB, HX, HY⟩
          · have b1 : (x.1 != p) = true := bne_iff_ne.mpr e
            have b2 : (x.1 == p) = false := beq_eq_false_iff_ne.mpr e
            have hv := HW.out
            rw [if_neg e] at hv
            go_wp2
            go_ret
            exact ⟨by subst hv; rfl, HB.out⟩
        · obtain ⟨k2, rfl⟩ : ∃ k2, gk = k2 + 1 := ⟨gk - 1, by have := HJ.out; omega⟩
          by_cases e : x.2 = wrap64 (q + 1)
          · have b1 : (x.2 != wrap64 (q + 1)) = false := bne_eq_false_iff_eq.mpr e
            have b2 : (x.2 == wrap64 (q + 1)) = true := beq_iff_eq.mpr e
            go_wp2
            go_roundg k2
            case measure => omega
            case rel => exact ⟨2, _, rfl, rfl, ⟨by have := HJ.out; omega⟩, ⟨.inr (.inr ⟨rfl, rfl, e1, e⟩)⟩, HB, HX, HY⟩
          · have b1 : (x.2 != wrap64 (q + 1)) = true := bne_iff_ne.mpr e
            have b2 : (x.2 == wrap64 (q + 1)) = false := beq_eq_false_iff_ne.mpr e
            have hv := HW.out
            rw [if_pos e1, if_neg e] at hv
            go_wp2
            go_ret
            exact ⟨by subst hv; rfl, HB.out⟩
        · have hv := HW.out
          rw [if_pos e1, if_pos e2] at hv
          go_wp2
          go_roundg k1
          case measure => omega
          case rel => exact ⟨i + 1, _, rfl, by have := HM.out; rw [show wrap64 ((i : Int) + 1) = ((i + 1 : Nat) : Int) by unfold wrap64; omega], ⟨by have := HI.out; omega⟩, ⟨hv⟩, HB⟩
    · have hi1 : decide ((i : Int) < (l.length : Int)) = false := decide_eq_false hi
      have hv := HV.out
      rw [List.drop_of_length_le (by omega), heldC] at hv
      subst hv
      go_wp2
      go_ret
      exact ⟨rfl, HB.out⟩
end Go.Proofs.Ytnmpjikiodnmnaa.P
end
section
namespace Go.Proofs.Ytnmpjikiodnmnaa.P
open Go.RowKit Go.Proofs.YtnmpjikiodnmnaaW.PrintWords Go.Proofs.YtnmpjikiodnmnaaW.PrintLast Go.Proofs.YtnmpjikiodnmnaaW.PrintMore
attribute [local go_sem] max2_int min2_int max_two min_two max_three min_three max_four min_four   -- for this text's walks alone
set_option linter.unusedVariables false
set_option linter.unusedSimpArgs false
def laws_eqClass.f (c d : Int × Int) : Option Bool := some (decide (c = d))
set_option maxHeartbeats 8000000 in
set_option maxRecDepth 100000 in
theorem laws_eqClass.calls (c d : Int × Int) (r : Bool) (w : World) (h : laws_eqClass.f c d = some r) :
    Calls Try.prog 44 #[clsV c, clsV d] w fun e w' => e = .returned (.bool r) ∧ Below w.heap.size w w' := by
  obtain ⟨c0, c1⟩ := c
  obtain ⟨d0, d1⟩ := d
  obtain rfl := Option.some.inj h
  clear h
  have HB := Aside0.mk (Below.refl w.heap.size w)
  show Calls Try.prog 44 #[.agg #[.int .i64 c0, .int .i64 c1], .agg #[.int .i64 d0, .int .i64 d1]] w _
  go_enter Try.func44, Try.ntmps44
  go_wp2_with (first
    | ((with_reducible refine gate_dst (N := 2) rfl ?_); refine box_event zr (N := 2) zr (cs := #[.int .i64 c0, .int .i64 c1]) (t := 63) zg ?_; intro gb hg w1 hbox hb; have BK1 := Aside0.mk hbox; have n_ := Aside0.mk (below_step HB.out hb); clear HB hbox hb hg; have HB := n_; clear n_)
    | ((with_reducible refine gate_dst (N := 3) rfl ?_); refine box_event zr (N := 3) zr (cs := #[.int .i64 d0, .int .i64 d1]) (t := 63) zg ?_; intro gb2 hg w2 hbox hb; have BK2 := Aside0.mk hbox; have m_ := Aside0.mk (blk_below BK1.out hb); have n_ := Aside0.mk (below_step HB.out hb); clear HB BK1 hbox hb hg; have HB := n_; have BK1 := m_; clear n_ m_))
  go_loopg [5] 3 (fun kq v5 w' => ∃ i : Nat, v5 = .int .i64 (i : Int) ∧ Aside0 (i + kq = 3) ∧ Aside0 (1 ≤ i → c0 = d0) ∧ Aside0 (2 ≤ i → c1 = d1) ∧ Aside0 (w'.heap[gb]? = some (.cells #[.int .i64 c0, .int .i64 c1] 63 (0, 0))) ∧ Aside0 (w'.heap[gb2]? = some (.cells #[.int .i64 d0, .int .i64 d1] 63 (0, 0))) ∧ Aside0 (Below w.heap.size w w'))
  case atStart => exact ⟨0, rfl, ⟨rfl⟩, ⟨fun h => absurd h (by omega)⟩, ⟨fun h => absurd h (by omega)⟩, BK1, BK2, HB⟩
  case round =>
    clear BK1 BK2 HB
    obtain ⟨i, rfl, HI, H0, H1, BK1, BK2, HB⟩ := hrel
    have hc0 : wr.cell? ⟨gb, 0, none⟩ = some (.int .i64 c0) := (blk_cell BK1.out 0).trans rfl
    have hc1 : wr.cell? ⟨gb, 1, none⟩ = some (.int .i64 c1) := (blk_cell BK1.out 1).trans rfl
    have hd0 : wr.cell? ⟨gb2, 0, none⟩ = some (.int .i64 d0) := (blk_cell BK2.out 0).trans rfl
    have hd1 : wr.cell? ⟨gb2, 1, none⟩ = some (.int .i64 d1) := (blk_cell BK2.out 1).trans rfl
    obtain ⟨k1, rfl⟩ | rfl : (∃ k1, gk = k1 + 1) ∨ gk = 0 := by
      cases gk with
      | zero => exact .inr rfl
      | succ k1 => exact .inl ⟨k1, rfl⟩
    · have hi := HI.out
      obtain rfl | rfl | rfl : i = 0 ∨ i = 1 ∨ i = 2 := by omega
      · clear H0 H1
        by_cases e : c0 = d0
        · have b1 : (c0 != d0) = false := bne_eq_false_iff_eq.mpr e
          have b2 : (c0 == d0) = true := beq_iff_eq.mpr e
          try go_wp2
          repeat (go_quiet (fail); try go_wp2)
          go_roundg k1
          case measure => omega
          case rel => exact ⟨1, rfl, ⟨by omega⟩, ⟨fun _ => e⟩, ⟨fun h => absurd h (by omega)⟩, ⟨zG BK1.out⟩, ⟨zG BK2.out⟩, ⟨by repeat (first | exact HB.out | apply below_alloc | apply pw_below_drewN | apply below_drew1)⟩⟩
        · have b1 : (c0 != d0) = true := bne_iff_ne.mpr e
          have b2 : (c0 == d0) = false := beq_eq_false_iff_ne.mpr e
          try go_wp2
          repeat (go_quiet (fail); try go_wp2)
          go_ret
          exact ⟨congrArg (fun b_ => Ending.returned (Value.bool b_)) (decide_eq_false (show ¬ (c0, c1) = (d0, d1) from fun h => e (congrArg Prod.fst h))).symm, by repeat (first | exact HB.out | apply below_alloc | apply pw_below_drewN | apply below_drew1)⟩
      · have e0 := H0.out (by omega)
        clear H0 H1
        by_cases e : c1 = d1
        · have b1 : (c1 != d1) = false := bne_eq_false_iff_eq.mpr e
          have b2 : (c1 == d1) = true := beq_iff_eq.mpr e
          try go_wp2
          repeat (go_quiet (fail); try go_wp2)
          go_roundg k1
          case measure => omega
          case rel => exact ⟨2, rfl, ⟨by omega⟩, ⟨fun _ => e0⟩, ⟨fun _ => e⟩, ⟨zG BK1.out⟩, ⟨zG BK2.out⟩, ⟨by repeat (first | exact HB.out | apply below_alloc | apply pw_below_drewN | apply below_drew1)⟩⟩
        · have b1 : (c1 != d1) = true := bne_iff_ne.mpr e
          have b2 : (c1 == d1) = false := beq_eq_false_iff_ne.mpr e
          try go_wp2
          repeat (go_quiet (fail); try go_wp2)
          go_ret
          exact ⟨congrArg (fun b_ => Ending.returned (Value.bool b_)) (decide_eq_false (show ¬ (c0, c1) = (d0, d1) from fun h => e (congrArg Prod.snd h))).symm, by repeat (first | exact HB.out | apply below_alloc | apply pw_below_drewN | apply below_drew1)⟩
      · have e0 := H0.out (by omega)
        have e1 := H1.out (by omega)
        go_wp2
        go_ret
        exact ⟨congrArg (fun b_ => Ending.returned (Value.bool b_)) (decide_eq_true (show (c0, c1) = (d0, d1) by rw [e0, e1])).symm, HB.out⟩
    · have hi := HI.out
      obtain rfl : i = 3 := by omega
      have e0 := H0.out (by omega)
      have e1 := H1.out (by omega)
      go_wp2
      go_ret
      exact ⟨by first | rfl | simp [e0, e1], HB.out⟩
end Go.Proofs.Ytnmpjikiodnmnaa.P
end
section
namespace Go.Proofs.Ytnmpjikiodnmnaa.P
open Go.RowKit Go.Proofs.YtnmpjikiodnmnaaW.PrintWords Go.Proofs.YtnmpjikiodnmnaaW.PrintLast Go.Proofs.YtnmpjikiodnmnaaW.PrintMore
attribute [local go_sem] max2_int min2_int max_two min_two max_three min_three max_four min_four   -- for this text's walks alone
set_option linter.unusedVariables false
set_option linter.unusedSimpArgs false
def laws_eqClassS.f (a b : List (Int × Int)) : Option Bool := some (decide (a = b))
theorem rdC_get {l : List (Int × Int)} {i : Nat} (h : i < l.length) : rdC l (i : Int) = l[i] := by simp [rdC, h]
set_option maxHeartbeats 8000000 in
set_option maxRecDepth 100000 in
theorem laws_eqClassS.calls (A0 : Option Addr) (c0 : Nat) (a : List (Int × Int)) (A1 : Option Addr) (c1 : Nat) (b : List (Int × Int)) (r : Bool) (w : World) (hr0 : ckd.C w A0 a.length a) (hc0 : a.length ≤ c0) (hr1 : ckd.C w A1 b.length b) (hc1 : b.length ≤ c1) (h : laws_eqClassS.f a b = some r) :
    Calls Try.prog 17 #[.slice A0 a.length c0, .slice A1 b.length c1] w fun e w' => e = .returned (.bool r) ∧ Below w.heap.size w w' := by
  have h : decide (a = b) = r := Option.some.inj h
  have HR0 := Aside0.mk hr0
  have HR1 := Aside0.mk hr1
  have HM := Aside0.mk (show a.length ≤ 9223372036854775807 from hr0.2.1)
  have HB := Aside0.mk (Below.refl w.heap.size w)
  clear hr0 hc0 hr1 hc1
  by_cases hl : (a.length : Int) = (b.length : Int)
  · have l1 : ((a.length : Int) != (b.length : Int)) = false := bne_eq_false_iff_eq.mpr hl
    have l2 : ((a.length : Int) == (b.length : Int)) = true := beq_iff_eq.mpr hl
    have hl' : a.length = b.length := by omega
    have HL := Aside0.mk hl'
    have HV := Aside0.mk h
    clear hl hl' h
    go_enter Try.func17, Try.ntmps17
    go_wp2
    go_loopg [5] (a.length + 1) (fun kq v5 w' => ∃ i : Nat, v5 = .int .i64 (i : Int) ∧ Aside0 (i + kq = a.length + 1) ∧ Aside0 (a.take i = b.take i) ∧ Aside0 (Below w.heap.size w w'))
    case atStart => exact ⟨0, rfl, ⟨by omega⟩, ⟨by simp⟩, HB⟩
    case round =>
      clear HB
      obtain ⟨i, rfl, HI, HT, HB⟩ := hrel
      by_cases hi : (i : Int) < (a.length : Int)
      · have hi1 : decide ((i : Int) < (a.length : Int)) = true := decide_eq_true hi
        have hlt : i < a.length := by omega
        have hi2 : (i : Int) < (b.length : Int) := by have := HL.out; omega
        have hlt2 : i < b.length := by omega
        obtain ⟨k1, rfl⟩ : ∃ k1, gk = k1 + 1 := ⟨gk - 1, by have := HI.out; omega⟩
        obtain ⟨ad, e1, hx0, hy0⟩ := at_cls HR0.out (i : Int) (by omega) hi
        cases e1
        obtain ⟨bd, e2, hu0, hv0⟩ := at_cls HR1.out (i : Int) (by omega) hi2
        cases e2
        have hx := pw_cell_below HB.out hx0
        have hy := pw_cell_below HB.out hy0
        have hu := pw_cell_below HB.out hu0
        have hv := pw_cell_below HB.out hv0
        simp only [Int.toNat_natCast] at hx hy hu hv hx0 hy0 hu0 hv0
        have HE := Aside0.mk (fun W => laws_eqClass.calls (rdC a (i : Int)) (rdC b (i : Int)) (decide (rdC a (i : Int) = rdC b (i : Int))) W rfl)
        have HX := Aside0.mk (rdC_get hlt)
        have HY := Aside0.mk (rdC_get hlt2)
        generalize rdC a (i : Int) = x at hx hy hx0 hy0 HE HX
        generalize rdC b (i : Int) = y at hu hv hu0 hv0 HE HY
        have d1 := eq_true hi
        have d2 := eq_true (show (0 : Int) ≤ (i : Int) by omega)
        have d3 := eq_true hi2
        have HW := Aside0.mk (show wrap64 ((i : Int) + 1) = ((i + 1 : Nat) : Int) by have := HM.out; unfold wrap64; omega)
        by_cases e : x = y
        · rw [decide_eq_true e] at HE
          have HT2 := Aside0.mk (show a.take (i + 1) = b.take (i + 1) by rw [List.take_succ_eq_append_getElem hlt, List.take_succ_eq_append_getElem hlt2, HT.out, ← HX.out, ← HY.out, e])
          clear e
          go_upto_region 6 with (fail)
          go_still_tail 8, zk
          change wpList _ _ _ _ _ wr.drew
          have hbd : Below w.heap.size w wr.drew := below_drew1 HB.out
          generalize wr.drew = w2 at hbd ⊢
          have hx2 := pw_cell_below hbd hx0
          have hy2 := pw_cell_below hbd hy0
          have hu2 := pw_cell_below hbd hu0
          have hv2 := pw_cell_below hbd hv0
          go_wp2_with (go_at_call 44; refine (HE.out _).mono ?_; rintro e w' ⟨rfl, hb1⟩; have HB2 := Aside0.mk (below_step hbd hb1); clear hbd hb1)
          go_roundg k1
          case measure => omega
          case rel => exact ⟨i + 1, congrArg (Value.int .i64) HW.out, ⟨by have := HI.out; omega⟩, HT2, HB2⟩
        · rw [decide_eq_false e] at HE
          go_upto_region 6 with (fail)
          go_still_tail 8, zk
          change wpList _ _ _ _ _ wr.drew
          have hbd : Below w.heap.size w wr.drew := below_drew1 HB.out
          generalize wr.drew = w2 at hbd ⊢
          have hx2 := pw_cell_below hbd hx0
          have hy2 := pw_cell_below hbd hy0
          have hu2 := pw_cell_below hbd hu0
          have hv2 := pw_cell_below hbd hv0
          go_wp2_with (go_at_call 44; refine (HE.out _).mono ?_; rintro e w' ⟨rfl, hb1⟩; have HB2 := Aside0.mk (below_step hbd hb1); clear hbd hb1)
          have hv : false = r := by
            rw [← HV.out]
            symm
            refine decide_eq_false fun q => e ?_
            rw [HX.out, HY.out]
            simp only [q]
          go_ret
          exact ⟨by subst hv; rfl, HB2.out⟩
      · have hi1 : decide ((i : Int) < (a.length : Int)) = false := decide_eq_false hi
        have ht := HT.out
        rw [List.take_of_length_le (by omega), List.take_of_length_le (by have := HL.out; omega)] at ht
        have hv : true = r := by rw [← HV.out, decide_eq_true ht]
        clear ht HV HT h
        subst hv
        go_wp2
        go_ret
        exact ⟨rfl, HB.out⟩
  · have l1 : ((a.length : Int) != (b.length : Int)) = true := bne_iff_ne.mpr hl
    have l2 : ((a.length : Int) == (b.length : Int)) = false := beq_eq_false_iff_ne.mpr hl
    have hv : false = r := by
      rw [← h]
      symm
      exact decide_eq_false fun q => hl (by rw [q])
    clear hl h
    subst hv
    go_enter Try.func17, Try.ntmps17
    go_wp2
    go_ret
    exact ⟨rfl, HB.out⟩
end Go.Proofs.Ytnmpjikiodnmnaa.P
end
section
namespace Go.Proofs.Ytnmpjikiodnmnaa.P
open Go.RowKit Go.Proofs.YtnmpjikiodnmnaaW.PrintWords Go.Proofs.YtnmpjikiodnmnaaW.PrintLast Go.Proofs.YtnmpjikiodnmnaaW.PrintMore
attribute [local go_sem] max2_int min2_int max_two min_two max_three min_three max_four min_four   -- for this text's walks alone
set_option linter.unusedVariables false
set_option linter.unusedSimpArgs false
def markC : Int → List (Int × Int) → List (Int × Int) × Int
  | k, [] => ([], k)
  | k, _ :: l => ((k, wrap64 (k + 1)) :: (markC (wrap64 (wrap64 (k + 1) + 1)) l).1, (markC (wrap64 (wrap64 (k + 1) + 1)) l).2)
def laws_markClassS.f (l : List (Int × Int)) (k : Int) : Option (Int × List (Int × Int)) := some ((markC k l).2, (markC k l).1)
theorem cls_cells {w : World} {g n cap e base : Nat} {ok : Nat → Prop} {xs : List (Int × Int)} (h : Kd.R ckd e w base ok (.slice (some ⟨g, 0, none⟩) n cap) xs) (i : Nat) (hi : (i : Int) < n) :
    w.cell? ⟨g, i * 2, none⟩ = some (.int .i64 (rdC xs (i : Int)).1) ∧ w.cell? ⟨g, i * 2 + 1, none⟩ = some (.int .i64 (rdC xs (i : Int)).2) ∧ (∀ j u, [Value.int .i64 (rdC xs (i : Int)).1, Value.int .i64 (rdC xs (i : Int)).2][j]? = some u → w.cell? ⟨g, (i : Int).toNat * ckd.sz + j, none⟩ = some u) ∧ ∀ j, w.frozen? ⟨g, i * 2 + j, none⟩ = false := by
  obtain ⟨c, hcl, ⟨c0, c1, rfl, k0, k1⟩, hcc, hfr⟩ := Kd.R_elem h (0, 0) (i : Int) (by omega) hi
  obtain rfl : c0 = [.int .i64 (xs.getD (i : Int).toNat (0, 0)).1] := k0
  obtain rfl : c1 = [.int .i64 (xs.getD (i : Int).toNat (0, 0)).2] := k1
  exact ⟨hcc 0 _ rfl, hcc 1 _ rfl, hcc, hfr⟩
theorem mark_step {l m r2 : List (Int × Int)} {i n : Nat} {p r1 : Int} {x : Int × Int} (em : m = (l.set i (p, x.2)).set i (p, wrap64 (p + 1))) (hl : l.length = n) (hi : i < n) (h : l.take i ++ (markC p (l.drop i)).1 = r2 ∧ (markC p (l.drop i)).2 = r1) :
    m.length = n ∧ m.take (i + 1) ++ (markC (wrap64 (wrap64 (p + 1) + 1)) (m.drop (i + 1))).1 = r2 ∧ (markC (wrap64 (wrap64 (p + 1) + 1)) (m.drop (i + 1))).2 = r1 := by
  subst em
  subst hl
  have e1 : ((l.set i (p, x.2)).set i (p, wrap64 (p + 1))) = l.set i (p, wrap64 (p + 1)) := by simp
  rw [e1]
  have e2 : (l.set i (p, wrap64 (p + 1))).drop (i + 1) = l.drop (i + 1) := by rw [List.drop_set_of_lt (by omega)]
  have e3 : (l.set i (p, wrap64 (p + 1))).take (i + 1) = l.take i ++ [(p, wrap64 (p + 1))] := by
    rw [List.take_succ_eq_append_getElem (by simpa using hi)]
    rw [List.take_set_of_le (by omega)]
    simp
  rw [e2, e3]
  rw [List.drop_eq_getElem_cons hi, markC] at h
  exact ⟨by simp, by rw [List.append_assoc]; exact h.1, h.2⟩
set_option maxHeartbeats 8000000 in
set_option maxRecDepth 100000 in
theorem laws_markClassS.calls (P0_ : Nat → Prop) (u9000_ : Value) (l0 : List (Int × Int)) (a1 : Int) (r1 : Int) (r2 : List (Int × Int)) (w0 w : World) (hB : Below w0.heap.size w0 w) (ho0 : Kd.R ckd 63 w w0.heap.size P0_ u9000_ l0) (h : laws_markClassS.f l0 a1 = some (r1, r2)) :
    Calls Try.prog 20 #[u9000_, .int .i64 a1] w fun e w' => e = .returned (.int .i64 r1) ∧ Kd.R ckd 63 w' w0.heap.size (fun k_ => (P0_ k_ ∨ w.heap.size ≤ k_)) u9000_ r2 ∧ Below w0.heap.size w0 w' ∧ Kept w w' (fun k_ => P0_ k_) := by
  have h := Option.some.inj h
  have h1 : (markC a1 l0).2 = r1 := congrArg Prod.fst h
  have h2 : (markC a1 l0).1 = r2 := congrArg Prod.snd h
  obtain ⟨A, c, eA⟩ := Kd.R_slice ho0
  subst eA
  have HM := Aside0.mk (show l0.length ≤ 9223372036854775807 from by obtain ⟨_, _, _, _, hc⟩ := Kd.R_reads ho0; exact hc.2.1)
  have HO := Aside0.mk (show Kd.R ckd 63 w w0.heap.size (fun k_ => (P0_ k_ ∨ w.heap.size ≤ k_)) (.slice A l0.length c) l0 from Kd.R_mono ho0 (fun k_ hk => (.inl hk)))
  have HK := Aside0.mk (Kept.refl w (fun k_ => P0_ k_))
  have HW0 := Aside0.mk hB.size
  have HB := Aside0.mk hB
  have HI := Aside0.mk (show l0.take 0 ++ (markC a1 (l0.drop 0)).1 = r2 ∧ (markC a1 (l0.drop 0)).2 = r1 from by simpa using ⟨h2, h1⟩)
  clear hB h h1 h2
  go_enter Try.func20, Try.ntmps20
  go_wp2
  go_loopg [1, 5, 6] (l0.length + 1) (fun kq v1 v5 v6 w' => ∃ (i : Nat) (p : Int) (l : List (Int × Int)), v1 = .int .i64 p ∧ v5 = .int .i64 (i : Int) ∧ Aside0 (i + kq = l0.length + 1) ∧ Aside0 (l.length = l0.length) ∧ Aside0 (l.take i ++ (markC p (l.drop i)).1 = r2 ∧ (markC p (l.drop i)).2 = r1) ∧ Aside0 (Kd.R ckd 63 w' w0.heap.size (fun k_ => (P0_ k_ ∨ w.heap.size ≤ k_)) (.slice A l0.length c) l) ∧ Aside0 (Kept w w' (fun k_ => P0_ k_)) ∧ Aside0 (Below w0.heap.size w0 w'))
  case atStart => exact ⟨0, a1, l0, rfl, rfl, ⟨by omega⟩, ⟨rfl⟩, HI, HO, HK, HB⟩
  case round =>
    clear HI HO HK HB
    obtain ⟨i, p, l, rfl, rfl, HJ, HL, HI, HO, HK, HB⟩ := hrel
    by_cases hi : (i : Int) < (l0.length : Int)
    · have hi1 : decide ((i : Int) < (l0.length : Int)) = true := decide_eq_true hi
      obtain ⟨k1, rfl⟩ : ∃ k1, gk = k1 + 1 := ⟨gk - 1, by have := HJ.out; omega⟩
      obtain ⟨g, cap, eo, gb, gl, cells, hcells⟩ := Kd.R_form HO.out (by have := HL.out; omega)
      injection eo with ea en_ ec_
      subst ea
      subst ec_
      clear en_
      have GB := Aside0.mk gb
      clear gb gl hcells
      have c1 := eq_true hi
      have c2 := eq_true (show (0 : Int) ≤ (i : Int) by omega)
      have HIL := Aside0.mk (show i < l0.length by omega)
      clear hi
      go_wp2
      have HI0 := Aside0.mk (show (i : Int) < (l0.length : Int) by have := HIL.out; omega)
      obtain ⟨x, hx⟩ : ∃ x, x = rdC l (i : Int) := ⟨_, rfl⟩
      have HX := Aside0.mk hx
      clear hx
      go_loopg [1, 6] 3 (fun kq v1 v6 w' => ∃ (j : Nat) (q : Int) (m : List (Int × Int)), v1 = .int .i64 q ∧ v6 = .int .i64 (j : Int) ∧ Aside0 (j + kq = 3) ∧ Aside0 ((j = 0 ∧ q = p ∧ m = l) ∨ (j = 1 ∧ q = wrap64 (p + 1) ∧ m = l.set i (p, x.2)) ∨ (j = 2 ∧ q = wrap64 (wrap64 (p + 1) + 1) ∧ m = (l.set i (p, x.2)).set i (p, wrap64 (p + 1)))) ∧ Aside0 (Kd.R ckd 63 w' w0.heap.size (fun k_ => (P0_ k_ ∨ w.heap.size ≤ k_)) (.slice (some ⟨g, 0, none⟩) l0.length c) m) ∧ Aside0 (Kept w w' (fun k_ => P0_ k_)) ∧ Aside0 (Below w0.heap.size w0 w'))
      case atStart => exact ⟨0, p, l, rfl, rfl, ⟨rfl⟩, ⟨.inl ⟨rfl, rfl, rfl⟩⟩, HO, HK, HB⟩
      case round =>
        clear HO HK HB
        obtain ⟨j, q, m, rfl, rfl, HQ, HC, HO, HK, HB⟩ := hrel
        rcases HC.out with ⟨rfl, rfl, rfl⟩ | ⟨rfl, rfl, em⟩ | ⟨rfl, rfl, em⟩
        · obtain ⟨k2, rfl⟩ : ∃ k2, gk = k2 + 1 := ⟨gk - 1, by have := HQ.out; omega⟩
          clear HC
          have HC := Aside0.mk (cls_cells HO.out i HI0.out).2.2.1
          rw [← HX.out] at HC
          go_wp2_with (first | ((with_reducible refine gate_store (t := 2) (p := 22) rfl ?_); refine Kd.R_store ckd (w0 := w0) w0.heap.size rfl rfl 2 (.tmp 22) (.tmp 20) rfl 63 (g := g) (n := l0.length) (cap := c) (o' := i * 2) (i : Int) 0 m (q, x.2) (.int .i64 q) [.int .i64 q] [.int .i64 x.1, .int .i64 x.2] (fun k_ => (P0_ k_ ∨ w.heap.size ≤ k_)) (fun _ => False) ?ha ?hof ?hx rfl zk (by simp [Value.oneCell']) HO.out (Int.natCast_nonneg i) HI0.out rfl HC.out (show 0 + 1 ≤ 2 by omega) ⟨[_], [_], rfl, rfl, rfl⟩ (fun _ h => h.elim) HB.out ?_; (case ha => first | rfl | (go_simp; done) | (go_simp; rfl)); (case hof => simp [ckd, Kd.pair, Kd.int, Kd.scalar]); (case hx => first | rfl | (go_simp; done) | (go_simp; rfl)); intro w8 ho hb hg; have n_ := y3 ho hb (Kept.of_grown (S := (fun k_ => P0_ k_)) hg HK.out (fun k_ e_ => HO.out.1 k_ e_)); clear HO HB HK ho hb hg; obtain ⟨HO, HB, HK⟩ := n_))
          go_roundg k2
          case measure => omega
          case rel => exact ⟨1, _, _, rfl, rfl, ⟨by have := HQ.out; omega⟩, ⟨.inr (.inl ⟨rfl, rfl, rfl⟩)⟩, HO, HK, HB⟩
        · obtain ⟨k2, rfl⟩ : ∃ k2, gk = k2 + 1 := ⟨gk - 1, by have := HQ.out; omega⟩
          clear HC
          have HC := Aside0.mk (cls_cells HO.out i HI0.out).2.2.1
          have hm : rdC m (i : Int) = (p, x.2) := by rw [em]; simp [rdC, HL.out, HIL.out]
          rw [hm] at HC
          have EM := Aside0.mk em
          clear em hm
          obtain ⟨q, hq⟩ : ∃ q, q = wrap64 (p + 1) := ⟨_, rfl⟩
          rw [← hq]
          have EQ := Aside0.mk hq
          clear hq
          go_wp2_with (first | ((with_reducible refine gate_store (t := 2) (p := 22) rfl ?_); refine Kd.R_store ckd (w0 := w0) w0.heap.size rfl rfl 2 (.tmp 22) (.tmp 20) rfl 63 (g := g) (n := l0.length) (cap := c) (o' := i * 2 + 1) (i : Int) 1 m (p, q) (.int .i64 q) [.int .i64 q] [.int .i64 p, .int .i64 x.2] (fun k_ => (P0_ k_ ∨ w.heap.size ≤ k_)) (fun _ => False) ?ha ?hof ?hx rfl zk (by simp [Value.oneCell']) HO.out (Int.natCast_nonneg i) HI0.out rfl HC.out (show 1 + 1 ≤ 2 by omega) ⟨[_], [_], rfl, rfl, rfl⟩ (fun _ h => h.elim) HB.out ?_; (case ha => first | rfl | (go_simp; done) | (go_simp; rfl)); (case hof => simp [ckd, Kd.pair, Kd.int, Kd.scalar]); (case hx => first | rfl | (go_simp; done) | (go_simp; rfl)); intro w8 ho hb hg; have n_ := y3 ho hb (Kept.of_grown (S := (fun k_ => P0_ k_)) hg HK.out (fun k_ e_ => HO.out.1 k_ e_)); clear HO HB HK ho hb hg; obtain ⟨HO, HB, HK⟩ := n_))
          go_roundg k2
          case measure => omega
          case rel => exact ⟨2, _, _, rfl, rfl, ⟨by have := HQ.out; omega⟩, ⟨.inr (.inr ⟨rfl, by rw [EQ.out], by rw [EM.out, EQ.out]; rfl⟩)⟩, HO, HK, HB⟩
        · have HE := Aside0.mk (show m.length = l0.length ∧ m.take (i + 1) ++ (markC (wrap64 (wrap64 (p + 1) + 1)) (m.drop (i + 1))).1 = r2 ∧ (markC (wrap64 (wrap64 (p + 1) + 1)) (m.drop (i + 1))).2 = r1 from mark_step em HL.out HIL.out HI.out)
          clear em
          generalize wrap64 (wrap64 (p + 1) + 1) = q at HE
          go_wp2
          go_roundg k1
          case measure => omega
          case rel => exact ⟨i + 1, q, m, rfl, by have := HM.out; have := HI0.out; rw [show wrap64 ((i : Int) + 1) = ((i + 1 : Nat) : Int) by unfold wrap64; omega], ⟨by have := HJ.out; omega⟩, ⟨HE.out.1⟩, ⟨HE.out.2⟩, HO, HK, HB⟩
    · have hi1 : decide ((i : Int) < (l0.length : Int)) = false := decide_eq_false hi
      have hv := HI.out
      rw [List.drop_of_length_le (by have := HL.out; omega), List.take_of_length_le (by have := HL.out; omega)] at hv
      obtain ⟨hv1, hv2⟩ := hv
      simp only [markC, List.append_nil] at hv1 hv2
      subst hv1
      subst hv2
      go_wp2
      go_ret
      exact ⟨rfl, HO.out, HB.out, HK.out⟩
end Go.Proofs.Ytnmpjikiodnmnaa.P
end
section
namespace Go.Proofs.Ytnmpjikiodnmnaa.P
open Go.RowKit Go.Proofs.YtnmpjikiodnmnaaW.PrintWords Go.Proofs.YtnmpjikiodnmnaaW.PrintLast Go.Proofs.YtnmpjikiodnmnaaW.PrintMore
attribute [local go_sem] max2_int min2_int max_two min_two max_three min_three max_four min_four   -- for this text's walks alone
set_option linter.unusedVariables false
set_option linter.unusedSimpArgs false
def firstT (good : Int → Bool) (sub : Int → Option (List (Int × Int))) : Nat → Int → Option (List (Int × Int))
  | 0, _ => none
  | d + 1, r => if good r = true then (match sub r with | some x => some x | none => firstT good sub d (r + 1)) else firstT good sub d (r + 1)
def restsT (mt : Int × Int → Int × Int → Bool) : List Int → List (Int × Int) → Option (List (Int × Int))
  | [], l => some l
  | g :: gs, l => firstT (fun r => l.all fun c => !mt c (r, g)) (fun r => restsT mt gs (l ++ [(r, g)])) g.toNat 0
theorem all_take_succ {α : Type} {l : List α} {p : α → Bool} {i : Nat} (h : i < l.length) : (l.take (i + 1)).all p = ((l.take i).all p && p l[i]) := by
  rw [List.take_succ_eq_append_getElem h, List.all_append]
  simp
theorem all_take_false {α : Type} {l : List α} {p : α → Bool} {i : Nat} (h : (l.take i).all p = false) : l.all p = false := by
  rw [← List.take_append_drop i l, List.all_append, h]
  rfl
theorem row_lit {w : World} {base : Nat} {okp : Nat → Prop} (x : Int × Int) : Reps (ckd.M w base okp) ckd.sz [x] [.int .i64 x.1, .int .i64 x.2] := Reps.c2 ⟨[_], [_], rfl, rfl, rfl⟩ (Reps.none _ _)
end Go.Proofs.Ytnmpjikiodnmnaa.P
end
section
namespace Go.Proofs.Ytnmpjikiodnmnaa.P
open Go.RowKit Go.Proofs.YtnmpjikiodnmnaaW.PrintWords Go.Proofs.YtnmpjikiodnmnaaW.PrintLast Go.Proofs.YtnmpjikiodnmnaaW.PrintMore
attribute [local go_sem] max2_int min2_int max_two min_two max_three min_three max_four min_four   -- for this text's walks alone
set_option linter.unusedVariables false
set_option linter.unusedSimpArgs false
set_option maxHeartbeats 8000000 in
set_option maxRecDepth 100000 in
theorem spec_l05Rests.calls (ok : Int × Int → Prop) (mt : Int × Int → Int × Int → Bool) (hm : ∀ c d, ok c → ok d → ∃ k, spec_l05Meet.f k c d = some (mt c d)) (gaps : List Int) (A0 : Option Addr) (c0 base : Nat) (hok : ∀ g ∈ gaps, ∀ r, 0 ≤ r → r < g → ok (r, g)) (hmax : ∀ g ∈ gaps, g ≤ 9223372036854775807) (hlen : gaps.length ≤ 1000) :
    ∀ (n : Nat) (l : List (Int × Int)) (u : Value) (w : World), l.length + n = gaps.length → (∀ c ∈ l, ok c) → base ≤ w.heap.size → Kd.C (Kd.int .i64) w A0 gaps.length gaps → gaps.length ≤ c0 → Kd.R ckd 63 w base (fun _ => True) u l →
    Calls Try.prog 39 #[.agg #[.slice A0 gaps.length c0], u] w fun e w' => ∃ v, e = .returned (.tuple #[v, .bool (restsT mt (gaps.drop l.length) l).isSome]) ∧ Kd.R ckd 63 w' base (fun _ => True) v ((restsT mt (gaps.drop l.length) l).getD []) ∧ Below w.heap.size w w' := by
  intro n
  induction n with
  | zero =>
    intro l u w hn hl hbase hr0 hc0 hu
    have hd : gaps.drop l.length = [] := List.drop_of_length_le (by omega)
    rw [hd, restsT]
    obtain ⟨A, c, rfl⟩ := Kd.R_slice hu
    have hu38 := Try.underlying38
    have e1 : ((l.length : Int) == (gaps.length : Int)) = true := beq_iff_eq.mpr (by omega)
    have HO := Aside0.mk hu
    have HB := Aside0.mk (Below.refl w.heap.size w)
    clear hn hl hbase hr0 hu hd hm hok hmax hlen hc0
    show Calls Try.prog 39 #[.agg #[.slice A0 gaps.length c0], .slice A l.length c] w fun e w' => ∃ v, e = .returned (.tuple #[v, .bool true]) ∧ Kd.R ckd 63 w' base (fun _ => True) v l ∧ Below w.heap.size w w'
    go_enter Try.func39, Try.ntmps39
    go_wp2_with (first | ((with_reducible refine gate_dst (N := 2) rfl ?_); refine box_event zr (N := 2) zr (cs := #[.slice A0 gaps.length c0]) (t := 38) zg ?_; intro gb hg w1 hbox hb; have hq : w1.cell? ⟨gb, 0, none⟩ = some (.slice A0 gaps.length c0) := zc hbox; have n_ := y2 (below_step HB.out hb) (Kd.R_below HO.out hb); clear HB HO; obtain ⟨HB, HO⟩ := n_; clear hb hbox hg))
    go_ret2
    exact ⟨_, rfl, HO.out, HB.out⟩
  | succ n ih =>
    intro l u w hn hl hbase hr0 hc0 hu
    have hlt : l.length < gaps.length := by omega
    have hd : gaps.drop l.length = gaps[l.length] :: gaps.drop (l.length + 1) := List.drop_eq_getElem_cons hlt
    rw [hd, restsT]
    obtain ⟨A, c, rfl, hc, hC⟩ := Kd.R_reads hu
    obtain ⟨ad, ea, hx⟩ := Kd.at_int hr0 (l.length : Int) (by omega) (by omega)
    subst ea
    have hg0 : rd gaps (l.length : Int) = gaps[l.length] := by simp [rd, hlt]
    rw [hg0, Int.toNat_natCast] at hx
    have hgm : gaps[l.length] ∈ gaps := List.getElem_mem hlt
    have ho1 := hok _ hgm
    have hm1 := hmax _ hgm
    clear hg0 hd hgm hmax
    generalize gaps[l.length] = g at hx ho1 hm1 ⊢
    have IH := Aside0.mk (fun (r : Int) (v : Value) (W : World) (h0 : 0 ≤ r) (h1 : r < g) (hb : Below w.heap.size w W) (hv : Kd.R ckd 63 W base (fun _ => True) v (l ++ [(r, g)])) => ih (l ++ [(r, g)]) v W (by simp; omega) (fun c hc => by
      rcases List.mem_append.1 hc with hc | hc
      · exact hl c hc
      · rw [List.mem_singleton.1 hc]
        exact ho1 r h0 h1) (Nat.le_trans hbase hb.size) (Kd.C_below hr0 hb) hc0 hv)
    have hu38 := Try.underlying38
    have e1 : ((l.length : Int) == (gaps.length : Int)) = false := beq_eq_false_iff_ne.mpr (by omega)
    have q1 := eq_true (show (0 : Int) ≤ (l.length : Int) by omega)
    have q2 := eq_true (show (l.length : Int) < (gaps.length : Int) by omega)
    have HO := Aside0.mk hu
    have HL := Aside0.mk hC
    have HB := Aside0.mk (Below.refl w.heap.size w)
    have LM := Aside0.mk (show l.length < 1000 by omega)
    have HG := Aside0.mk hm1
    have HX := Aside0.mk hx
    have HM := Aside0.mk (fun (i : Nat) (hi : i < l.length) (r : Int) (h0 : 0 ≤ r) (h1 : r < g) => hm l[i] (r, g) (hl _ (List.getElem_mem hi)) (ho1 r h0 h1))
    have HBASE := Aside0.mk hbase
    have HR0 := Aside0.mk hr0
    simp only [List.length_append, List.length_singleton] at IH
    generalize gaps.drop (l.length + 1) = gs at IH ⊢
    clear hn hl hbase hr0 hu hm hok hlen hc0 hC ih hlt hc ho1 hm1 hx
    have HV := Aside0.mk (show firstT (fun r => l.all fun c => !mt c (r, g)) (fun r => restsT mt gs (l ++ [(r, g)])) (g - 0).toNat 0 = firstT (fun r => l.all fun c => !mt c (r, g)) (fun r => restsT mt gs (l ++ [(r, g)])) g.toNat 0 by rw [Int.sub_zero])
    generalize firstT (fun r => l.all fun c => !mt c (r, g)) (fun r => restsT mt gs (l ++ [(r, g)])) g.toNat 0 = R at HV ⊢
    go_enter Try.func39, Try.ntmps39
    go_wp2_with (first | ((with_reducible refine gate_dst (N := 2) rfl ?_); refine box_event zr (N := 2) zr (cs := #[.slice (some ad) gaps.length c0]) (t := 38) zg ?_; intro gb hg w1 hbox hb; have hq : w1.cell? ⟨gb, 0, none⟩ = some (.slice (some ad) gaps.length c0) := zc hbox; have hx1 := pw_cell_below hb HX.out; have n_ := y2 (below_step HB.out hb) hbox; clear HB; obtain ⟨HB, BK⟩ := n_; clear hb hbox hg))
    go_loopg [7] (g.toNat + 1) (fun kq v7 w' => ∃ r : Int, v7 = .int .i64 r ∧ Aside0 (0 ≤ r) ∧ Aside0 ((g - r).toNat < kq) ∧ Aside0 (firstT (fun r => l.all fun c => !mt c (r, g)) (fun r => restsT mt gs (l ++ [(r, g)])) (g - r).toNat r = R) ∧ Aside0 (w'.heap[gb]? = some (.cells #[.slice (some ad) gaps.length c0] 38 (0, 0))) ∧ Aside0 (Below w.heap.size w w'))
    case atStart => exact ⟨0, rfl, ⟨Int.le_refl 0⟩, ⟨by omega⟩, HV, ⟨zG BK.out⟩, HB⟩
    case round =>
      clear HV HB BK hq hx1
      obtain ⟨r, rfl, H0, HK, HV, BK, HB⟩ := hrel
      by_cases hr : r < g
      · have hr1 : decide (r < g) = true := decide_eq_true hr
        have hr2 := eq_true hr
        obtain ⟨k1, rfl⟩ : ∃ k1, gk = k1 + 1 := ⟨gk - 1, by have := HK.out; omega⟩
        have hv := HV.out
        rw [show (g - r).toNat = (g - (r + 1)).toNat + 1 by omega, firstT] at hv
        have HV1 := Aside0.mk hv
        have HR := Aside0.mk hr
        clear hv HV hr
        go_wp2
        go_loopg [8, 9] (l.length + 1) (fun kq v8 v9 w' => ∃ (i : Nat) (b : Bool), v8 = .bool b ∧ v9 = .int .i64 (i : Int) ∧ Aside0 (i + kq = l.length + 1) ∧ Aside0 ((l.take i).all (fun c => !mt c (r, g)) = b) ∧ Aside0 (w'.heap[gb]? = some (.cells #[.slice (some ad) gaps.length c0] 38 (0, 0))) ∧ Aside0 (Below w.heap.size w w'))
        case atStart => exact ⟨0, true, rfl, rfl, ⟨by omega⟩, ⟨by simp⟩, ⟨zG BK.out⟩, HB⟩
        case round =>
          clear BK HB
          obtain ⟨i, b, rfl, rfl, HI, HA, BK, HB⟩ := hrel
          cases b with
          | false =>
            have hgd : (l.all fun c => !mt c (r, g)) = false := all_take_false HA.out
            have hv := HV1.out
            simp only [hgd, Bool.false_eq_true, if_false] at hv
            have HV := Aside0.mk hv
            have hw1 : wrap64 (r + 1) = r + 1 := by have := H0.out; have := HR.out; have := HG.out; unfold wrap64; omega
            have HW := Aside0.mk hw1
            clear hv hgd hw1 HA HV1
            by_cases hi : (i : Int) < (l.length : Int)
            · have hi1 : decide ((i : Int) < (l.length : Int)) = true := decide_eq_true hi
              have hi2 := eq_true (show i < l.length by omega)
              clear hi
              go_wp2
              go_roundg k1
              case measure => omega
              case rel => exact ⟨r + 1, by rw [HW.out], ⟨by have := H0.out; omega⟩, ⟨by have := HK.out; have := HR.out; omega⟩, HV, ⟨zG BK.out⟩, HB⟩
            · have hi1 : decide ((i : Int) < (l.length : Int)) = false := decide_eq_false hi
              have hi2 := eq_false (show ¬ i < l.length by omega)
              clear hi
              go_wp2
              go_roundg k1
              case measure => omega
              case rel => exact ⟨r + 1, by rw [HW.out], ⟨by have := H0.out; omega⟩, ⟨by have := HK.out; have := HR.out; omega⟩, HV, ⟨zG BK.out⟩, HB⟩
          | true =>
            by_cases hi : (i : Int) < (l.length : Int)
            · have hi1 : decide ((i : Int) < (l.length : Int)) = true := decide_eq_true hi
              have hlt : i < l.length := by omega
              obtain ⟨k2, rfl⟩ : ∃ k2, gk = k2 + 1 := ⟨gk - 1, by have := HI.out; omega⟩
              obtain ⟨bd, e2, hx, hy⟩ := at_cls HL.out (i : Int) (by omega) hi
              subst e2
              have hx := pw_cell_below HB.out hx
              have hy := pw_cell_below HB.out hy
              simp only [Int.toNat_natCast] at hx hy
              obtain ⟨km, hkm⟩ := HM.out i hlt r H0.out HR.out
              have e3 : rdC l (i : Int) = l[i] := by simp [rdC, hlt]
              have ha := HA.out
              have HC := Aside0.mk (fun W => spec_l05Meet.calls km l[i] (r, g) (mt l[i] (r, g)) W hkm)
              have HA2 := Aside0.mk (show (l.take (i + 1)).all (fun c => !mt c (r, g)) = !mt l[i] (r, g) by rw [all_take_succ hlt, ha, Bool.true_and])
              rw [← e3] at HC HA2
              generalize rdC l (i : Int) = x at hx hy HC HA2
              have HJ := Aside0.mk (show wrap64 ((i : Int) + 1) = ((i + 1 : Nat) : Int) by have := LM.out; unfold wrap64; omega)
              have q3 := eq_true hi
              have hi2 := eq_true hlt
              have q4 := eq_true (show (0 : Int) ≤ (i : Int) by omega)
              clear ha e3 hkm hi HA
              generalize mt x (r, g) = bm at HC HA2
              go_wp2_with (first | (go_at_call 51; refine (HC.out _).mono ?_; rintro e w' ⟨rfl, hb1⟩; have n_ := y2 (below_step HB.out hb1) (zb BK.out hb1); clear HB BK hb1; obtain ⟨HB, BK⟩ := n_))
              go_roundg k2
              case measure => omega
              case rel => exact ⟨i + 1, !bm, rfl, by rw [HJ.out], ⟨by have := HI.out; omega⟩, HA2, ⟨zG BK.out⟩, HB⟩
            · have hi1 : decide ((i : Int) < (l.length : Int)) = false := decide_eq_false hi
              have hi2 := eq_false (show ¬ i < l.length by omega)
              have hgd : (l.all fun c => !mt c (r, g)) = true := by rw [← HA.out, List.take_of_length_le (by omega)]
              have hv := HV1.out
              simp only [hgd, if_true] at hv
              have HV := Aside0.mk hv
              have hq0 := zc BK.out
              clear hv hgd hi HA HV1 HI
              go_wp2
              refine start_ (n := 15) (S := fun w' => w'.cell? ⟨gb, 0, none⟩ = some (.slice (some ad) gaps.length c0)) (ds := []) #[false,false,false,false,false,false,false,false,false,false,false,false,false,false,false] zk rfl rfl hq0 (fun hHeld => ?_)
              have HQ := Aside0.mk hHeld
              have n_ := Aside0.mk (below_drew1 HB.out)
              have HBK := Aside0.mk (blk_drew BK.out)
              clear HB BK hq0
              have HB := n_
              clear n_
              generalize wr.drew = wd at HB HQ HBK hHeld ⊢
              refine take_ (i := 0) (N := some 51) (v := ?_) (a' := ?_) #[true,false,false,false,false,false,false,false,false,false,false,false,false,false,false] rfl rfl zk (fun _ _ _ h => h) (Or.inl ⟨by rfl, ?_⟩) hHeld ?_ ?_
              rotate_left
              · rintro w' s0
                go_simp
                with_reducible rfl
              rotate_left
              exact zq
              refine pure_ (i := 2) (N := some 53) (v := ?_) (a' := ?_) #[true,false,true,false,false,false,false,false,false,false,false,false,false,false,false] rfl rfl zk (fun _ _ _ h => h) (Or.inl ⟨by rfl, ?_⟩) ?_ ?_
              rotate_left; exact zp; rotate_left; exact zq
              refine pure_ (i := 4) (N := some 55) (v := ?_) (a' := ?_) #[true,false,true,false,true,false,false,false,false,false,false,false,false,false,false] rfl rfl zk (fun _ _ _ h => h) (Or.inl ⟨by rfl, ?_⟩) ?_ ?_
              rotate_left; exact zp; rotate_left; exact zq
              refine pure_ (i := 5) (N := some 56) (v := ?_) (a' := ?_) #[true,false,true,false,true,true,false,false,false,false,false,false,false,false,false] rfl rfl zk (fun _ _ _ h => h) (Or.inl ⟨by rfl, ?_⟩) ?_ ?_
              rotate_left; exact zp; rotate_left; exact zq
              refine pure_ (i := 6) (N := some 57) (v := ?_) (a' := ?_) #[true,false,true,false,true,true,true,false,false,false,false,false,false,false,false] rfl rfl zk (fun _ _ _ h => h) (Or.inl ⟨by rfl, ?_⟩) ?_ ?_
              rotate_left; exact zp; rotate_left; exact zq
              have HD := Aside0.mk (Below.refl wd.heap.size wd)
              have HLd := Aside0.mk (Kd.C_below HL.out HB.out)
              refine join_ (σ := Value × Value × Value × Value) 6 #[true,true,true,true,true,true,true,true,true,false,false,false,false,false,false] (fun s_ => [(52, s_.1), (54, s_.2.1), (58, s_.2.2.1), (59, s_.2.2.2)]) (fun s_ w' => Kd.R ckd 63 w' wd.heap.size (fun _ => True) s_.2.2.2 (l ++ [(r, g)]) ∧ Below wd.heap.size wd w') ?_ ?_
              rotate_left
              · intro hCont
                refine two_ (i := 1) (j := 7) (Ni := some 52) (Nj := some 58) #[true,true,true,false,true,true,true,false,false,false,false,false,false,false,false] #[true,false,true,false,true,true,true,true,false,false,false,false,false,false,false] rfl rfl rfl rfl zk (by decide) (by decide) (fun K hK => ?_) (fun K hK => ?_)
                · skip
                  refine Kd.R_lit_step ckd (w0 := wd) wd.heap.size 63 ?hg (N := 52) ?hd (xs := ([] : List (Int × Int))) (inner := []) (ok := fun _ => True) (okp := fun _ => False) ?hr ?hp (fun _ hk => hk.elim) (trivial) HD.out (HD.out.size) (by simp) ?_
                  case hd => rfl
                  case hg => rfl
                  case hr => first | (go_simp; done) | (go_simp; rfl)
                  case hp => exact (Reps.none _ _)
                  intro v52 w1 ho hb hg_ hnew_
                  have HO52 := Aside0.mk (ho)
                  have nD_ := Aside0.mk hb
                  clear HD
                  have HD := nD_
                  clear nD_
                  refine hK.out _ _ ((hb.cell (World.block_lt_of_cell? _ _ HQ.out)).trans HQ.out) (fun hHeld => ?_)
                  clear hK K
                  clear ho hb hg_ hnew_
                  refine norm_ (a' := ?_) ?_ ?_
                  rotate_left
                  · show Act.put _ (some 52) _ = _
                    simp only [Act.put, List.setIfInBounds_toArray, List.set_cons_zero, List.set_cons_succ, i64_w, i32_w]
                    rfl
                  refine two_ (i := 3) (j := 7) (Ni := some 54) (Nj := some 58) #[true,true,true,true,true,true,true,false,false,false,false,false,false,false,false] #[true,true,true,false,true,true,true,true,false,false,false,false,false,false,false] rfl rfl rfl rfl zk (by decide) (by decide) (fun K hK => ?_) (fun K hK => ?_)
                  · skip
                    refine Kd.R_append_rows_step ckd (w0 := wd) wd.heap.size (by rfl) (.tmp 52) (.tmp 53) 35 63 (.agg #[.int .i64 0, .int .i64 0]) 16 rfl Try.underlying35 zk rfl (by decide) (by omega) v52 [] l A l.length c (fun _ => True) (fun _ => False) rfl rfl HO52.out (Kd.C_below HLd.out HD.out) (fun _ _ h => h) (fun _ h => h.elim) (fun _ _ => trivial) HD.out HD.out.size (by have := LM.out; simp; omega) ?_
                    intro v54 w2 ho hb hg hat
                    rw [List.nil_append] at ho
                    have HO54 := Aside0.mk (ho)
                    have nD_ := Aside0.mk hb
                    clear HD
                    have HD := nD_
                    clear nD_
                    refine hK.out _ _ ((hb.cell (World.block_lt_of_cell? _ _ HQ.out)).trans HQ.out) (fun hHeld => ?_)
                    clear hK K
                    clear ho hb hg hat HO52
                    refine norm_ (a' := ?_) ?_ ?_
                    rotate_left
                    · show Act.put _ (some 54) _ = _
                      simp only [Act.put, List.setIfInBounds_toArray, List.set_cons_zero, List.set_cons_succ, i64_w, i32_w]
                      rfl
                    refine one_ (i := 7) (N := some 58) #[true,true,true,true,true,true,true,true,false,false,false,false,false,false,false] rfl rfl zk (by decide) (fun K hK => ?_)
                    refine Kd.R_lit_step ckd (w0 := wd) wd.heap.size 63 ?hg (N := 58) ?hd (xs := ([(r, g)] : List (Int × Int))) (inner := [.int .i64 r, .int .i64 g]) (ok := fun _ => True) (okp := fun _ => False) ?hr ?hp (fun _ hk => hk.elim) (trivial) HD.out (HD.out.size) (by simp) ?_
                    case hd => rfl
                    case hg => rfl
                    case hr => first | (go_simp; done) | (go_simp; rfl)
                    case hp => exact row_lit (r, g)
                    intro v58 w3 ho hb hg_ hnew_
                    obtain ⟨A58, c58, rfl, hc58, hC58⟩ := Kd.R_reads ho
                    have HO54b := Aside0.mk (Kd.R_step HO54.out (fun k _ hk => hg_.block k hk (by simp)))
                    have HC58 := Aside0.mk (hC58)
                    have nD_ := Aside0.mk hb
                    clear HD
                    have HD := nD_
                    clear nD_
                    refine hK.out _ _ ((hb.cell (World.block_lt_of_cell? _ _ HQ.out)).trans HQ.out) (fun hHeld => ?_)
                    clear hK K
                    clear ho hb hg_ hnew_ HO54 hc58 hC58
                    refine norm_ (a' := ?_) ?_ ?_
                    rotate_left
                    · show Act.put _ (some 58) _ = _
                      simp only [Act.put, List.setIfInBounds_toArray, List.set_cons_zero, List.set_cons_succ, i64_w, i32_w]
                      rfl
                    refine one_ (i := 8) (N := some 59) #[true,true,true,true,true,true,true,true,true,false,false,false,false,false,false] rfl rfl zk (by decide) (fun K hK => ?_)
                    refine Kd.R_append_rows_step ckd (w0 := wd) wd.heap.size (by rfl) (.tmp 54) (.tmp 58) 35 63 (.agg #[.int .i64 0, .int .i64 0]) 16 rfl Try.underlying35 zk rfl (by decide) (by omega) v54 l [(r, g)] A58 _ c58 (fun _ => True) (fun _ => False) rfl rfl HO54b.out HC58.out (fun _ _ h => h) (fun _ h => h.elim) (fun _ _ => trivial) HD.out HD.out.size (by have := LM.out; simp; omega) ?_
                    intro v59 w4 ho hb hg hat
                    have HO59 := Aside0.mk (ho)
                    have nD_ := Aside0.mk hb
                    clear HD
                    have HD := nD_
                    clear nD_
                    refine hK.out _ _ ((hb.cell (World.block_lt_of_cell? _ _ HQ.out)).trans HQ.out) (fun hHeld => ?_)
                    clear hK K
                    clear ho hb hg hat HO54b HC58
                    refine norm_ (a' := ?_) ?_ ?_
                    rotate_left
                    · show Act.put _ (some 59) _ = _
                      simp only [Act.put, List.setIfInBounds_toArray, List.set_cons_zero, List.set_cons_succ, i64_w, i32_w]
                      rfl
                    exact norm_ (by simp only [putAll, Act.put, List.setIfInBounds_toArray, List.set_cons_zero, List.set_cons_succ]) (hCont (v52, v54, .slice A58 [(r, g)].length c58, v59) _ ⟨HO59.out, HD.out⟩)
                  · skip
                    refine Kd.R_lit_step ckd (w0 := wd) wd.heap.size 63 ?hg (N := 58) ?hd (xs := ([(r, g)] : List (Int × Int))) (inner := [.int .i64 r, .int .i64 g]) (ok := fun k_ => some k_ ≠ v52.ownBlock) (okp := fun _ => False) ?hr ?hp (fun _ hk => hk.elim) (fun h_ => Nat.lt_irrefl _ (Kd.R_lt HO52.out _ h_.symm)) HD.out (HD.out.size) (by simp) ?_
                    case hd => rfl
                    case hg => rfl
                    case hr => first | (go_simp; done) | (go_simp; rfl)
                    case hp => exact row_lit (r, g)
                    intro v58 w2 ho hb hg_ hnew_
                    have HO58 := Aside0.mk (ho)
                    have HO52b := Aside0.mk (Kd.R_step HO52.out (fun k _ hk => hg_.block k hk (by simp)))
                    have nD_ := Aside0.mk hb
                    clear HD
                    have HD := nD_
                    clear nD_
                    refine hK.out _ _ ((hb.cell (World.block_lt_of_cell? _ _ HQ.out)).trans HQ.out) (fun hHeld => ?_)
                    clear hK K
                    clear ho hb hg_ hnew_ HO52
                    have HO52 := HO52b
                    clear HO52b
                    refine norm_ (a' := ?_) ?_ ?_
                    rotate_left
                    · show Act.put _ (some 58) _ = _
                      simp only [Act.put, List.setIfInBounds_toArray, List.set_cons_zero, List.set_cons_succ, i64_w, i32_w]
                      rfl
                    refine one_ (i := 3) (N := some 54) #[true,true,true,true,true,true,true,true,false,false,false,false,false,false,false] rfl rfl zk (by decide) (fun K hK => ?_)
                    refine Kd.R_append_rows_step ckd (w0 := wd) wd.heap.size (by rfl) (.tmp 52) (.tmp 53) 35 63 (.agg #[.int .i64 0, .int .i64 0]) 16 rfl Try.underlying35 zk rfl (by decide) (by omega) v52 [] l A l.length c (fun _ => True) (fun _ => False) rfl rfl HO52.out (Kd.C_below HLd.out HD.out) (fun _ _ h => h) (fun _ h => h.elim) (fun _ _ => trivial) HD.out HD.out.size (by have := LM.out; simp; omega) ?_
                    intro v54 w3 ho hb hg hat
                    rw [List.nil_append] at ho
                    obtain ⟨A58, c58, rfl, hc58, hC58⟩ := Kd.R_reads (Kd.R_step HO58.out (fun k hk hlt => hg.block k hlt hk))
                    have HO54 := Aside0.mk (ho)
                    have HC58 := Aside0.mk (hC58)
                    have nD_ := Aside0.mk hb
                    clear HD
                    have HD := nD_
                    clear nD_
                    refine hK.out _ _ ((hb.cell (World.block_lt_of_cell? _ _ HQ.out)).trans HQ.out) (fun hHeld => ?_)
                    clear hK K
                    clear ho hb hg hat HO52 HO58 hc58 hC58
                    refine norm_ (a' := ?_) ?_ ?_
                    rotate_left
                    · show Act.put _ (some 54) _ = _
                      simp only [Act.put, List.setIfInBounds_toArray, List.set_cons_zero, List.set_cons_succ, i64_w, i32_w]
                      rfl
                    refine one_ (i := 8) (N := some 59) #[true,true,true,true,true,true,true,true,true,false,false,false,false,false,false] rfl rfl zk (by decide) (fun K hK => ?_)
                    refine Kd.R_append_rows_step ckd (w0 := wd) wd.heap.size (by rfl) (.tmp 54) (.tmp 58) 35 63 (.agg #[.int .i64 0, .int .i64 0]) 16 rfl Try.underlying35 zk rfl (by decide) (by omega) v54 l [(r, g)] A58 _ c58 (fun _ => True) (fun _ => False) rfl rfl HO54.out HC58.out (fun _ _ h => h) (fun _ h => h.elim) (fun _ _ => trivial) HD.out HD.out.size (by have := LM.out; simp; omega) ?_
                    intro v59 w4 ho hb hg hat
                    have HO59 := Aside0.mk (ho)
                    have nD_ := Aside0.mk hb
                    clear HD
                    have HD := nD_
                    clear nD_
                    refine hK.out _ _ ((hb.cell (World.block_lt_of_cell? _ _ HQ.out)).trans HQ.out) (fun hHeld => ?_)
                    clear hK K
                    clear ho hb hg hat HO54 HC58
                    refine norm_ (a' := ?_) ?_ ?_
                    rotate_left
                    · show Act.put _ (some 59) _ = _
                      simp only [Act.put, List.setIfInBounds_toArray, List.set_cons_zero, List.set_cons_succ, i64_w, i32_w]
                      rfl
                    exact norm_ (by simp only [putAll, Act.put, List.setIfInBounds_toArray, List.set_cons_zero, List.set_cons_succ]) (hCont (v52, v54, .slice A58 [(r, g)].length c58, v59) _ ⟨HO59.out, HD.out⟩)
                · skip
                  refine Kd.R_lit_step ckd (w0 := wd) wd.heap.size 63 ?hg (N := 58) ?hd (xs := ([(r, g)] : List (Int × Int))) (inner := [.int .i64 r, .int .i64 g]) (ok := fun _ => True) (okp := fun _ => False) ?hr ?hp (fun _ hk => hk.elim) (trivial) HD.out (HD.out.size) (by simp) ?_
                  case hd => rfl
                  case hg => rfl
                  case hr => first | (go_simp; done) | (go_simp; rfl)
                  case hp => exact row_lit (r, g)
                  intro v58 w1 ho hb hg_ hnew_
                  have HO58 := Aside0.mk (ho)
                  have nD_ := Aside0.mk hb
                  clear HD
                  have HD := nD_
                  clear nD_
                  refine hK.out _ _ ((hb.cell (World.block_lt_of_cell? _ _ HQ.out)).trans HQ.out) (fun hHeld => ?_)
                  clear hK K
                  clear ho hb hg_ hnew_
                  refine norm_ (a' := ?_) ?_ ?_
                  rotate_left
                  · show Act.put _ (some 58) _ = _
                    simp only [Act.put, List.setIfInBounds_toArray, List.set_cons_zero, List.set_cons_succ, i64_w, i32_w]
                    rfl
                  refine one_ (i := 1) (N := some 52) #[true,true,true,false,true,true,true,true,false,false,false,false,false,false,false] rfl rfl zk (by decide) (fun K hK => ?_)
                  refine Kd.R_lit_step ckd (w0 := wd) wd.heap.size 63 ?hg (N := 52) ?hd (xs := ([] : List (Int × Int))) (inner := []) (ok := fun _ => True) (okp := fun _ => False) ?hr ?hp (fun _ hk => hk.elim) (trivial) HD.out (HD.out.size) (by simp) ?_
                  case hd => rfl
                  case hg => rfl
                  case hr => first | (go_simp; done) | (go_simp; rfl)
                  case hp => exact (Reps.none _ _)
                  intro v52 w2 ho hb hg_ hnew_
                  obtain ⟨b52, eb52, lb52⟩ := hnew_
                  have HO58b := Aside0.mk (show Kd.R ckd 63 w2 wd.heap.size (fun k_ => some k_ ≠ v52.ownBlock) v58 [(r, g)] from Kd.R_step (Kd.R_mono (Kd.R_bound HO58.out) (fun k hk => by rw [eb52]; intro he; injection he with he; have := hk.2.2.1; omega)) (fun k _ hk => hg_.block k hk (by simp)))
                  have HO52 := Aside0.mk (ho)
                  have nD_ := Aside0.mk hb
                  clear HD
                  have HD := nD_
                  clear nD_
                  refine hK.out _ _ ((hb.cell (World.block_lt_of_cell? _ _ HQ.out)).trans HQ.out) (fun hHeld => ?_)
                  clear hK K
                  clear ho hb hg_ HO58 eb52 lb52
                  have HO58 := HO58b
                  clear HO58b
                  refine norm_ (a' := ?_) ?_ ?_
                  rotate_left
                  · show Act.put _ (some 52) _ = _
                    simp only [Act.put, List.setIfInBounds_toArray, List.set_cons_zero, List.set_cons_succ, i64_w, i32_w]
                    rfl
                  refine one_ (i := 3) (N := some 54) #[true,true,true,true,true,true,true,true,false,false,false,false,false,false,false] rfl rfl zk (by decide) (fun K hK => ?_)
                  refine Kd.R_append_rows_step ckd (w0 := wd) wd.heap.size (by rfl) (.tmp 52) (.tmp 53) 35 63 (.agg #[.int .i64 0, .int .i64 0]) 16 rfl Try.underlying35 zk rfl (by decide) (by omega) v52 [] l A l.length c (fun _ => True) (fun _ => False) rfl rfl HO52.out (Kd.C_below HLd.out HD.out) (fun _ _ h => h) (fun _ h => h.elim) (fun _ _ => trivial) HD.out HD.out.size (by have := LM.out; simp; omega) ?_
                  intro v54 w3 ho hb hg hat
                  rw [List.nil_append] at ho
                  obtain ⟨A58, c58, rfl, hc58, hC58⟩ := Kd.R_reads (Kd.R_step HO58.out (fun k hk hlt => hg.block k hlt hk))
                  have HO54 := Aside0.mk (ho)
                  have HC58 := Aside0.mk (hC58)
                  have nD_ := Aside0.mk hb
                  clear HD
                  have HD := nD_
                  clear nD_
                  refine hK.out _ _ ((hb.cell (World.block_lt_of_cell? _ _ HQ.out)).trans HQ.out) (fun hHeld => ?_)
                  clear hK K
                  clear ho hb hg hat HO52 HO58 hc58 hC58
                  refine norm_ (a' := ?_) ?_ ?_
                  rotate_left
                  · show Act.put _ (some 54) _ = _
                    simp only [Act.put, List.setIfInBounds_toArray, List.set_cons_zero, List.set_cons_succ, i64_w, i32_w]
                    rfl
                  refine one_ (i := 8) (N := some 59) #[true,true,true,true,true,true,true,true,true,false,false,false,false,false,false] rfl rfl zk (by decide) (fun K hK => ?_)
                  refine Kd.R_append_rows_step ckd (w0 := wd) wd.heap.size (by rfl) (.tmp 54) (.tmp 58) 35 63 (.agg #[.int .i64 0, .int .i64 0]) 16 rfl Try.underlying35 zk rfl (by decide) (by omega) v54 l [(r, g)] A58 _ c58 (fun _ => True) (fun _ => False) rfl rfl HO54.out HC58.out (fun _ _ h => h) (fun _ h => h.elim) (fun _ _ => trivial) HD.out HD.out.size (by have := LM.out; simp; omega) ?_
                  intro v59 w4 ho hb hg hat
                  have HO59 := Aside0.mk (ho)
                  have nD_ := Aside0.mk hb
                  clear HD
                  have HD := nD_
                  clear nD_
                  refine hK.out _ _ ((hb.cell (World.block_lt_of_cell? _ _ HQ.out)).trans HQ.out) (fun hHeld => ?_)
                  clear hK K
                  clear ho hb hg hat HO54 HC58
                  refine norm_ (a' := ?_) ?_ ?_
                  rotate_left
                  · show Act.put _ (some 59) _ = _
                    simp only [Act.put, List.setIfInBounds_toArray, List.set_cons_zero, List.set_cons_succ, i64_w, i32_w]
                    rfl
                  exact norm_ (by simp only [putAll, Act.put, List.setIfInBounds_toArray, List.set_cons_zero, List.set_cons_succ]) (hCont (v52, v54, .slice A58 [(r, g)].length c58, v59) _ ⟨HO59.out, HD.out⟩)
              rintro ⟨v52, v54, v58, v59⟩ w5 ⟨h0_, h1_⟩
              have HO59 := Aside0.mk (show Kd.R ckd 63 w5 base (fun _ => True) v59 (l ++ [(r, g)]) from Kd.R_lower h0_ (Nat.le_trans HBASE.out HB.out.size))
              have HB5 := Aside0.mk (below_step HB.out h1_)
              have BK5 := Aside0.mk (blk_below HBK.out h1_)
              have HQ5 := Aside0.mk ((h1_.cell (World.block_lt_of_cell? _ _ HQ.out)).trans HQ.out)
              clear HB HQ h0_ h1_ HD HLd hHeld HBK
              have hHeld := HQ5.out
              refine norm_ (a' := ?_) ?_ ?_
              rotate_left
              · simp only [putAll, Act.put, List.setIfInBounds_toArray, List.set_cons_zero, List.set_cons_succ]
                rfl
              have HE := Aside0.mk (IH.out r v59 w5 H0.out HR.out HB5.out HO59.out)
              clear HO59 IH
              refine one_ (i := 9) (N := some 60) #[true,true,true,true,true,true,true,true,true,true,false,false,false,false,false] rfl rfl zk (by decide) (fun K hK => ?_)
              refine goes_ Try.func39 zk rfl #[.agg #[.slice (some ad) gaps.length c0], v59] (by rfl) rfl rfl (by (try simp only [List.map_toArray, List.map_cons, List.map_nil]); first | done | rfl) ?_
              refine (HE.out).mono ?_
              rintro e w6 ⟨v60, rfl, hR, hb⟩
              have HO60 := Aside0.mk hR
              have HB := Aside0.mk (below_step HB5.out hb)
              have HQ := Aside0.mk ((hb.cell (World.block_lt_of_cell? _ _ HQ5.out)).trans HQ5.out)
              have BK := Aside0.mk (blk_below BK5.out hb)
              clear hR hb HE HB5 HQ5 hHeld BK5
              refine ⟨_, rfl, ?_⟩
              refine hK.out _ _ HQ.out (fun hHeld => ?_)
              clear hK K
              refine norm_ (a' := ?_) ?_ ?_
              rotate_left
              · show Act.put _ (some 60) _ = _
                simp only [Act.put, List.setIfInBounds_toArray, List.set_cons_zero, List.set_cons_succ, i64_w, i32_w]
                rfl
              refine pure_ (i := 10) (N := some 50) (v := ?_) (a' := ?_) #[true,true,true,true,true,true,true,true,true,true,true,false,false,false,false] rfl rfl zk (fun _ _ _ h => h) (Or.inl ⟨by rfl, ?_⟩) ?_ ?_
              rotate_left; exact zp; rotate_left; exact zq
              refine pure_ (i := 11) (N := some 61) (v := ?_) (a' := ?_) #[true,true,true,true,true,true,true,true,true,true,true,true,false,false,false] rfl rfl zk (fun _ _ _ h => h) (Or.inl ⟨by rfl, ?_⟩) ?_ ?_
              rotate_left; exact zp; rotate_left; exact zq
              refine pure_ (i := 12) (N := some 62) (v := ?_) (a' := ?_) #[true,true,true,true,true,true,true,true,true,true,true,true,true,false,false] rfl rfl zk (fun _ _ _ h => h) (Or.inl ⟨by rfl, ?_⟩) ?_ ?_
              rotate_left; exact zp; rotate_left; exact zq
              refine pure_ (i := 13) (N := some 10) (v := ?_) (a' := ?_) #[true,true,true,true,true,true,true,true,true,true,true,true,true,true,false] rfl rfl zk (fun _ _ _ h => h) (Or.inl ⟨by rfl, ?_⟩) ?_ ?_
              rotate_left; exact zp; rotate_left; exact zq
              refine pure_ (i := 14) (N := some 11) (v := ?_) (a' := ?_) #[true,true,true,true,true,true,true,true,true,true,true,true,true,true,true] rfl rfl zk (fun _ _ _ h => h) (Or.inl ⟨by rfl, ?_⟩) ?_ ?_
              rotate_left; exact zp; rotate_left; exact zq
              refine done_ zk ?_
              have hv := HV.out
              clear HV HQ hHeld
              have hw1 : wrap64 (r + 1) = r + 1 := by have := H0.out; have := HR.out; have := HG.out; unfold wrap64; omega
              have HW := Aside0.mk hw1
              clear hw1
              generalize restsT mt gs (l ++ [(r, g)]) = q at hv HO60 ⊢
              cases q with
              | none =>
                have HV := Aside0.mk (show firstT (fun r => l.all fun c => !mt c (r, g)) (fun r => restsT mt gs (l ++ [(r, g)])) (g - (r + 1)).toNat (r + 1) = R from hv)
                clear hv
                simp only [Option.isSome_none]
                go_wp2
                go_roundg k1
                case measure => omega
                case rel => exact ⟨r + 1, by rw [HW.out], ⟨by have := H0.out; omega⟩, ⟨by have := HK.out; have := HR.out; omega⟩, HV, ⟨zG BK.out⟩, HB⟩
              | some q =>
                have hv : some q = R := hv
                subst hv
                simp only [Option.isSome_some]
                go_wp2
                go_ret2
                exact ⟨_, rfl, HO60.out, HB.out⟩
      · have hr1 : decide (r < g) = false := decide_eq_false hr
        have hv := HV.out
        rw [show (g - r).toNat = 0 by omega, firstT] at hv
        clear HV
        subst hv
        go_wp2
        go_ret2
        exact ⟨_, rfl, Kd.R_nil _ _ _ _ _, HB.out⟩
end Go.Proofs.Ytnmpjikiodnmnaa.P
end
section
namespace Go.Proofs.Ytnmpjikiodnmnaa.P
open Go.RowKit Go.Proofs.YtnmpjikiodnmnaaW.PrintWords Go.Proofs.YtnmpjikiodnmnaaW.PrintLast Go.Proofs.YtnmpjikiodnmnaaW.PrintMore
attribute [local go_sem] max2_int min2_int max_two min_two max_three min_three max_four min_four   -- for this text's walks alone
set_option linter.unusedVariables false
set_option linter.unusedSimpArgs false
def spec_l01K.f (l0_0 : List Int) : Option (Int) := some (l0_0.length : Int)
set_option maxHeartbeats 8000000 in
set_option maxRecDepth 100000 in
theorem spec_l01K.calls (A0_0 : Option Addr) (c0_0 : Nat) (l0_0 : List Int) (r : Int) (w : World) (hr0_0 : Kd.C (Kd.int .i64) w A0_0 l0_0.length l0_0) (hc0_0 : l0_0.length ≤ c0_0) (h : spec_l01K.f l0_0 = some r) :
    Calls Try.prog 37 #[.agg #[.slice A0_0 l0_0.length c0_0]] w fun e w' => e = .returned (.int .i64 r) ∧ Below w.heap.size w w' := by
 have hu38 := Try.underlying38
 have HR0_0 := Aside0.mk hr0_0
 have HC0_0 := Aside0.mk hc0_0
 clear hr0_0 hc0_0
 have HB := Aside0.mk (Below.refl w.heap.size w)
 have H : (some (l0_0.length : Int)) = some r := h
 clear h
 obtain rfl := Option.some.inj H
 go_enter Try.func37, Try.ntmps37
 go_wp2_with (first | ((with_reducible refine gate_dst (N := 1) rfl ?_); refine box_event zr (N := 1) zr (cs := #[.slice A0_0 l0_0.length c0_0]) (t := 38) zg ?_; intro gb101 hg w2 hbox hb; have n_ := y4 (below_step (zB) hb) (hbox) ((zS hg : w.heap.size ≤ gb101)) ((zS hg : w.heap.size ≤ gb101)); clear HB; obtain ⟨HB, BK101, GW101, GE101⟩ := n_; clear hb hbox hg; have hcz3_0 := zc BK101.out; have hfz3_0 := blk_frozen BK101.out 0))
 go_ret
 exact ⟨zE, zB⟩
end Go.Proofs.Ytnmpjikiodnmnaa.P
end
section
namespace Go.Proofs.Ytnmpjikiodnmnaa.P
open Go.RowKit Go.Proofs.YtnmpjikiodnmnaaW.PrintWords Go.Proofs.YtnmpjikiodnmnaaW.PrintLast Go.Proofs.YtnmpjikiodnmnaaW.PrintMore
attribute [local go_sem] max2_int min2_int max_two min_two max_three min_three max_four min_four   -- for this text's walks alone
set_option linter.unusedVariables false
set_option linter.unusedSimpArgs false
def spec_l01In.f (a0 : Int) (a1 : Int) (a2 : Int) : Option (Bool) := if a0 ≥ a1 then (some (decide (a0 ≤ a2))) else (some false)
set_option maxHeartbeats 8000000 in
set_option maxRecDepth 100000 in
theorem spec_l01In.calls (a0 : Int) (a1 : Int) (a2 : Int) (r : Bool) (w : World) (h : spec_l01In.f a0 a1 a2 = some r) :
    Calls Try.prog 22 #[.int .i64 a0, .int .i64 a1, .int .i64 a2] w fun e w' => e = .returned (.bool r) ∧ Drawn0 w w' := by
 have H : (if a0 ≥ a1 then (some (decide (a0 ≤ a2))) else (some false)) = some r := h
 clear h
 by_cases c4 : a0 ≥ a1
 ·
  rw [if_pos c4] at H
  have c4b0 : decide (a1 ≤ a0) = true := decide_eq_true c4
  clear c4
  obtain rfl := Option.some.inj H
  go_enter Try.func22, Try.ntmps22
  go_wp2
  go_ret
  exact ⟨by first | rfl | (simp; done) | (simp [*]; done), by repeat (first | exact Drawn0.refl _ | apply Drawn0.step)⟩
 rw [if_neg c4] at H
 have c4b0 : decide (a1 ≤ a0) = false := decide_eq_false c4
 clear c4
 obtain rfl := Option.some.inj H
 go_enter Try.func22, Try.ntmps22
 go_wp2
 go_ret
 exact ⟨by first | rfl | (simp; done) | (simp [*]; done), by repeat (first | exact Drawn0.refl _ | apply Drawn0.step)⟩
end Go.Proofs.Ytnmpjikiodnmnaa.P
end
section
namespace Go.Proofs.Ytnmpjikiodnmnaa.P
open Go.RowKit Go.Proofs.YtnmpjikiodnmnaaW.PrintWords Go.Proofs.YtnmpjikiodnmnaaW.PrintLast Go.Proofs.YtnmpjikiodnmnaaW.PrintMore
attribute [local go_sem] max2_int min2_int max_two min_two max_three min_three max_four min_four   -- for this text's walks alone
set_option linter.unusedVariables false
set_option linter.unusedSimpArgs false
def spec_l01Is.l0 : Nat → Int → List Int → Option (Bool)
  | 0, _, _ => none
  | k + 1, x3, x102000 => if x3 < (x102000.length : Int) then (if 0 ≤ x3 then ((spec_l01In.f (rd x102000 x3) 1 40).bind fun t103 => (if t103 = true then (spec_l01Is.l0 k (wrap64 (x3 + 1)) x102000) else (some false))) else (none)) else ((spec_l01K.f x102000).bind fun t104 => ((spec_l01In.f t104 1 8).bind fun t105 => (some t105)))
def spec_l01Is.f (k : Nat) (l0_0 : List Int) : Option (Bool) := spec_l01Is.l0 k 0 l0_0
theorem spec_l01Is.mono_l : ∀ k, (∀ y0 y1, LeO (spec_l01Is.l0 k y0 y1) (spec_l01Is.l0 (k + 1) y0 y1))
  | 0 => fun _ _ r h => by simp [spec_l01Is.l0] at h
  | k + 1 => by
    have ih0 := spec_l01Is.mono_l k
    · intro y0 y1
      unfold spec_l01Is.l0
      repeat' first | (with_reducible exact ih0 _ _) | (with_reducible exact LeO.refl _) | (with_reducible exact LeO.none _) | (with_reducible refine LeO.ite ?_ ?_) | (with_reducible refine LeO.bind ?_ (fun _ => ?_)) | exact ih0 _ _ | exact LeO.none _ | refine LeO.ite ?_ ?_ | refine LeO.bind ?_ (fun _ => ?_)
theorem spec_l01Is.mono : ∀ a0 k, LeO (spec_l01Is.f k a0) (spec_l01Is.f (k + 1) a0) := by
  intro a0 k
  have ih0 := spec_l01Is.mono_l k
  unfold spec_l01Is.f
  repeat' first | (with_reducible exact ih0 _ _) | (with_reducible exact LeO.refl _) | (with_reducible exact LeO.none _) | (with_reducible refine LeO.ite ?_ ?_) | (with_reducible refine LeO.bind ?_ (fun _ => ?_)) | exact ih0 _ _ | exact LeO.none _ | refine LeO.ite ?_ ?_ | refine LeO.bind ?_ (fun _ => ?_)
set_option maxHeartbeats 8000000 in
set_option maxRecDepth 100000 in
theorem spec_l01Is.calls (k : Nat) (A0_0 : Option Addr) (c0_0 : Nat) (l0_0 : List Int) (r : Bool) (w : World) (hr0_0 : Kd.C (Kd.int .i64) w A0_0 l0_0.length l0_0) (hc0_0 : l0_0.length ≤ c0_0) (h : spec_l01Is.f k l0_0 = some r) :
    Calls Try.prog 36 #[.agg #[.slice A0_0 l0_0.length c0_0]] w fun e w' => e = .returned (.bool r) ∧ Below w.heap.size w w' := by
 have hu38 := Try.underlying38
 have HR0_0 := Aside0.mk hr0_0
 have HC0_0 := Aside0.mk hc0_0
 clear hr0_0 hc0_0
 have HB := Aside0.mk (Below.refl w.heap.size w)
 have H : (spec_l01Is.l0 k 0 l0_0) = some r := h
 clear h
 have H' := Aside0.mk H
 clear H
 go_enter Try.func36, Try.ntmps36
 go_wp2_with (first | ((with_reducible refine gate_dst (N := 1) rfl ?_); refine box_event zr (N := 1) zr (cs := #[.slice A0_0 l0_0.length c0_0]) (t := 38) zg ?_; intro gb101 hg w2 hbox hb; have n_ := y4 (below_step (zB) hb) (hbox) ((zS hg : w.heap.size ≤ gb101)) ((zS hg : w.heap.size ≤ gb101)); clear HB; obtain ⟨HB, BK101, GW101, GE101⟩ := n_; clear hb hbox hg))
 go_loopg [3] k (fun kq v3 w' => ∃ (x3_1 : Int), v3 = .int .i64 x3_1 ∧ Aside0 (spec_l01Is.l0 kq x3_1 l0_0 = some r) ∧ Aside0 (kq ≤ k) ∧ Aside0 (w'.heap[gb101]? = some (.cells #[(.slice A0_0 l0_0.length c0_0)] 38 (0, 0))) ∧ Aside0 (Below w.heap.size w w'))
 case atStart => exact ⟨(0), zF, H', ⟨Nat.le_refl _⟩, ⟨zG BK101.out⟩, ⟨zB⟩⟩
 clear H'
 obtain ⟨x3_1, rfl, HA, HK1, BK101, HB⟩ := hrel
 cases gk with
 | zero => exact absurd HA.out (by simp [spec_l01Is.l0])
 | succ k1 =>
   have H := HA.out
   clear HA
   simp only [spec_l01Is.l0] at H
   by_cases c3 : x3_1 < (l0_0.length : Int)
   · rw [if_pos c3] at H
     have c3b0 : decide (x3_1 < (l0_0.length : Int)) = true := decide_eq_true c3
     clear c3
     by_cases c4 : 0 ≤ x3_1
     · rw [if_pos c4] at H
       have c4b0 : decide (0 ≤ x3_1) = true := decide_eq_true c4
       clear c4
       replace H := Option.bind_eq_some_iff.mp H
       obtain ⟨t103, A50, H⟩ := H
       replace H : (if t103 = true then (spec_l01Is.l0 k1 (wrap64 (x3_1 + 1)) l0_0) else (some false)) = some r := H
       have A5 := Aside0.mk A50
       clear A50
       by_cases c6 : t103 = true
       · subst c6
         have H1 : (spec_l01Is.l0 k1 (wrap64 (x3_1 + 1)) l0_0) = some r := by rw [if_pos rfl] at H; exact H
         clear H
         have H := H1
         clear H1
         have H' := Aside0.mk H
         clear H
         have hcz7_0 := zc BK101.out
         have hfz7_0 := blk_frozen BK101.out 0
         have p102 : 0 ≤ (x3_1 : Int) := zD
         have q102 : x3_1 < (l0_0.length : Int) := zD
         obtain ⟨ad102, e102, hx102_0⟩ := Kd.at_int HR0_0.out x3_1 p102 q102
         cases e102
         replace hx102_0 := (HB.out.cell (World.block_lt_of_cell? w _ hx102_0)).trans hx102_0
         replace p102 := eq_true p102
         replace q102 := eq_true q102
         go_wp2_with (first | ((with_reducible refine gate_callee (f := 22) rfl ?_); refine goesL_ (some 16) rfl rfl Try.func22 zk rfl #[.int .i64 (rd l0_0 x3_1), .int .i64 1, .int .i64 40] rfl zA ?_; (with_reducible refine (spec_l01In.calls (rd l0_0 x3_1) 1 40 true _ A5.out).mono ?_); rintro e w' ⟨rfl, ⟨nd, rfl⟩⟩; refine ⟨_, rfl, ?_⟩))
         go_roundg k1
         case measure => have := HK1.out; omega
         case rel => exact ⟨(wrap64 (x3_1 + 1)), zF, H', ⟨by have := HK1.out; omega⟩, ⟨zG BK101.out⟩, ⟨zB⟩⟩
       · replace c6 := Bool.eq_false_iff.mpr c6
         subst c6
         have H1 : (some false) = some r := by rw [if_neg (show ¬ (false = true) by decide)] at H; exact H
         clear H
         have H := H1
         clear H1
         obtain rfl := Option.some.inj H
         have hcz8_0 := zc BK101.out
         have hfz8_0 := blk_frozen BK101.out 0
         have p102 : 0 ≤ (x3_1 : Int) := zD
         have q102 : x3_1 < (l0_0.length : Int) := zD
         obtain ⟨ad102, e102, hx102_0⟩ := Kd.at_int HR0_0.out x3_1 p102 q102
         cases e102
         replace hx102_0 := (HB.out.cell (World.block_lt_of_cell? w _ hx102_0)).trans hx102_0
         replace p102 := eq_true p102
         replace q102 := eq_true q102
         go_wp2_with (first | ((with_reducible refine gate_callee (f := 22) rfl ?_); refine goesL_ (some 16) rfl rfl Try.func22 zk rfl #[.int .i64 (rd l0_0 x3_1), .int .i64 1, .int .i64 40] rfl zA ?_; (with_reducible refine (spec_l01In.calls (rd l0_0 x3_1) 1 40 false _ A5.out).mono ?_); rintro e w' ⟨rfl, ⟨nd, rfl⟩⟩; refine ⟨_, rfl, ?_⟩))
         go_ret
         exact ⟨zE, zB⟩
     · rw [if_neg c4] at H
       exact absurd H (by simp)
   · rw [if_neg c3] at H
     have c3b0 : decide (x3_1 < (l0_0.length : Int)) = false := decide_eq_false c3
     clear c3
     replace H := Option.bind_eq_some_iff.mp H
     obtain ⟨t104, A90, H⟩ := H
     replace H : ((spec_l01In.f t104 1 8).bind fun t105 => (some t105)) = some r := H
     have A9 := Aside0.mk A90
     clear A90
     replace H := Option.bind_eq_some_iff.mp H
     obtain ⟨t105, A100, H⟩ := H
     replace H : (some t105) = some r := H
     have A10 := Aside0.mk A100
     clear A100
     obtain rfl := Option.some.inj H
     have hcz11_0 := zc BK101.out
     have hfz11_0 := blk_frozen BK101.out 0
     go_wp2_with (first | ((with_reducible refine gate_callee (f := 37) rfl ?_); refine goesL_ (some 19) rfl rfl Try.func37 zk rfl #[.agg #[.slice A0_0 l0_0.length c0_0]] rfl zA ?_; (with_reducible refine (spec_l01K.calls _ _ l0_0 t104 _ ?side1 ?side2 A9.out).mono ?_); (case side1 => exact zC (Kd.C_below HR0_0.out HB.out)); (case side2 => exact HC0_0.out); rintro e w12 ⟨rfl, hb⟩; refine ⟨_, rfl, ?_⟩; have n_ := y2 (zb BK101.out hb) (below_step (zB) hb); clear BK101 HB; obtain ⟨BK101, HB⟩ := n_; (try clear hb); (try clear hb2); (try clear hk); (try clear hi)) | ((with_reducible refine gate_callee (f := 22) rfl ?_); refine goesL_ (some 20) rfl rfl Try.func22 zk rfl #[.int .i64 t104, .int .i64 1, .int .i64 8] rfl zA ?_; (with_reducible refine (spec_l01In.calls t104 1 8 t105 _ A10.out).mono ?_); rintro e w' ⟨rfl, ⟨nd, rfl⟩⟩; refine ⟨_, rfl, ?_⟩))
     go_ret
     exact ⟨zE, zB⟩
end Go.Proofs.Ytnmpjikiodnmnaa.P
end
section
namespace Go.Proofs.Ytnmpjikiodnmnaa.P
open Go.RowKit Go.Proofs.YtnmpjikiodnmnaaW.PrintWords Go.Proofs.YtnmpjikiodnmnaaW.PrintLast Go.Proofs.YtnmpjikiodnmnaaW.PrintMore
attribute [local go_sem] max2_int min2_int max_two min_two max_three min_three max_four min_four   -- for this text's walks alone
set_option linter.unusedVariables false
set_option linter.unusedSimpArgs false
def spec_l01Lcm.f (k : Nat) (a0 : Int) (a1 : Int) : Option (Int) := (spec_l01Gcd.f k a0 a1).bind fun t101 => (if t101 = 0 then (none) else (some (wrap64 ((wrap64 (Int.tdiv a0 t101)) * a1))))
theorem spec_l01Lcm.mono : ∀ a0 a1 k, LeO (spec_l01Lcm.f k a0 a1) (spec_l01Lcm.f (k + 1) a0 a1) := by
  intro a0 a1 k
  unfold spec_l01Lcm.f
  repeat' first | (with_reducible exact spec_l01Gcd.mono _ _ _) | (with_reducible exact LeO.refl _) | (with_reducible exact LeO.none _) | (with_reducible refine LeO.ite ?_ ?_) | (with_reducible refine LeO.bind ?_ (fun _ => ?_)) | exact spec_l01Gcd.mono _ _ _ | exact LeO.none _ | refine LeO.ite ?_ ?_ | refine LeO.bind ?_ (fun _ => ?_)
set_option maxHeartbeats 8000000 in
set_option maxRecDepth 100000 in
theorem spec_l01Lcm.calls (k : Nat) (a0 : Int) (a1 : Int) (r : Int) (w : World) (h : spec_l01Lcm.f k a0 a1 = some r) :
    Calls Try.prog 58 #[.int .i64 a0, .int .i64 a1] w fun e w' => e = .returned (.int .i64 r) ∧ Drawn0 w w' := by
 have H : ((spec_l01Gcd.f k a0 a1).bind fun t101 => (if t101 = 0 then (none) else (some (wrap64 ((wrap64 (Int.tdiv a0 t101)) * a1))))) = some r := h
 clear h
 replace H := Option.bind_eq_some_iff.mp H
 obtain ⟨t101, A30, H⟩ := H
 replace H : (if t101 = 0 then (none) else (some (wrap64 ((wrap64 (Int.tdiv a0 t101)) * a1)))) = some r := H
 have A3 := Aside0.mk A30
 clear A30
 by_cases c4 : t101 = 0
 ·
  rw [if_pos c4] at H
  exact absurd H (by simp)
 rw [if_neg c4] at H
 have c4b0 : (t101 == 0) = false := beq_eq_false_iff_ne.mpr c4
 have c4b1 : (t101 != 0) = true := bne_iff_ne.mpr c4
 obtain rfl := Option.some.inj H
 go_enter Try.func58, Try.ntmps58
 go_wp2_with (first | ((with_reducible refine gate_callee (f := 60) rfl ?_); refine goesL_ (some 8) rfl rfl Try.func60 zk rfl #[.int .i64 a0, .int .i64 a1] rfl zA ?_; (with_reducible refine (spec_l01Gcd.calls k a0 a1 t101 _ A3.out).mono ?_); rintro e w' ⟨rfl, ⟨nd, rfl⟩⟩; refine ⟨_, rfl, ?_⟩))
 go_ret
 exact ⟨by first | rfl | (simp; done) | (simp [*]; done), by repeat (first | exact Drawn0.refl _ | apply Drawn0.step)⟩
end Go.Proofs.Ytnmpjikiodnmnaa.P
end
section
namespace Go.Proofs.Ytnmpjikiodnmnaa.P
open Go.RowKit Go.Proofs.YtnmpjikiodnmnaaW.PrintWords Go.Proofs.YtnmpjikiodnmnaaW.PrintLast Go.Proofs.YtnmpjikiodnmnaaW.PrintMore
attribute [local go_sem] max2_int min2_int max_two min_two max_three min_three max_four min_four   -- for this text's walks alone
set_option linter.unusedVariables false
set_option linter.unusedSimpArgs false
def spec_l01Lowest.f (k : Nat) (a0 : Int) (a1 : Int) : Option (Int × Int) := (spec_l01Gcd.f k a0 a1).bind fun t101 => (if t101 = 0 then (none) else (some (wrap64 (Int.tdiv a0 t101), wrap64 (Int.tdiv a1 t101))))
theorem spec_l01Lowest.mono : ∀ a0 a1 k, LeO (spec_l01Lowest.f k a0 a1) (spec_l01Lowest.f (k + 1) a0 a1) := by
  intro a0 a1 k
  unfold spec_l01Lowest.f
  repeat' first | (with_reducible exact spec_l01Gcd.mono _ _ _) | (with_reducible exact LeO.refl _) | (with_reducible exact LeO.none _) | (with_reducible refine LeO.ite ?_ ?_) | (with_reducible refine LeO.bind ?_ (fun _ => ?_)) | exact spec_l01Gcd.mono _ _ _ | exact LeO.none _ | refine LeO.ite ?_ ?_ | refine LeO.bind ?_ (fun _ => ?_)
set_option maxHeartbeats 8000000 in
set_option maxRecDepth 100000 in
theorem spec_l01Lowest.calls (k : Nat) (a0 : Int) (a1 : Int) (r1 : Int) (r2 : Int) (w : World) (h : spec_l01Lowest.f k a0 a1 = some (r1, r2)) :
    Calls Try.prog 59 #[.int .i64 a0, .int .i64 a1] w fun e w' => e = .returned (.tuple #[.int .i64 r1, .int .i64 r2]) ∧ Drawn0 w w' := by
 have H : ((spec_l01Gcd.f k a0 a1).bind fun t101 => (if t101 = 0 then (none) else (some (wrap64 (Int.tdiv a0 t101), wrap64 (Int.tdiv a1 t101))))) = some (r1, r2) := h
 clear h
 replace H := Option.bind_eq_some_iff.mp H
 obtain ⟨t101, A30, H⟩ := H
 replace H : (if t101 = 0 then (none) else (some (wrap64 (Int.tdiv a0 t101), wrap64 (Int.tdiv a1 t101)))) = some (r1, r2) := H
 have A3 := Aside0.mk A30
 clear A30
 by_cases c4 : t101 = 0
 ·
  rw [if_pos c4] at H
  exact absurd H (by simp)
 rw [if_neg c4] at H
 have c4b0 : (t101 == 0) = false := beq_eq_false_iff_ne.mpr c4
 have c4b1 : (t101 != 0) = true := bne_iff_ne.mpr c4
 simp only [Option.some.injEq, Prod.mk.injEq] at H
 obtain ⟨rfl, rfl⟩ := H
 go_enter Try.func59, Try.ntmps59
 go_wp2_with (first | (go_at_call 60; (with_reducible refine (spec_l01Gcd.calls k a0 a1 t101 _ A3.out).mono ?_); rintro e w' ⟨rfl, ⟨nd, rfl⟩⟩; (try exact zd)))
 repeat (go_quiet (first | (go_at_call 60; (with_reducible refine (spec_l01Gcd.calls k a0 a1 t101 _ A3.out).mono ?_); rintro e w' ⟨rfl, ⟨nd, rfl⟩⟩; (try exact zd))); try go_wp2_with (first | (go_at_call 60; (with_reducible refine (spec_l01Gcd.calls k a0 a1 t101 _ A3.out).mono ?_); rintro e w' ⟨rfl, ⟨nd, rfl⟩⟩; (try exact zd))))
 go_ret2
 exact ⟨by first | rfl | (simp; done) | (simp [*]; done), by repeat (first | exact Drawn0.refl _ | apply Drawn0.step)⟩
end Go.Proofs.Ytnmpjikiodnmnaa.P
end
section
namespace Go.Proofs.Ytnmpjikiodnmnaa.P
open Go.RowKit Go.Proofs.YtnmpjikiodnmnaaW.PrintWords Go.Proofs.YtnmpjikiodnmnaaW.PrintLast Go.Proofs.YtnmpjikiodnmnaaW.PrintMore
attribute [local go_sem] max2_int min2_int max_two min_two max_three min_three max_four min_four   -- for this text's walks alone
set_option linter.unusedVariables false
set_option linter.unusedSimpArgs false
mutual
def spec_l01Density.l0 : Nat → Int → Int → Int → List Int → Option (Int × Int)
  | 0, _, _, _, _ => none
  | k + 1, x4, x5, x6, x102000 => if x6 < (x102000.length : Int) then (if 0 ≤ x6 then ((spec_l01Lcm.f k x4 (rd x102000 x6)).bind fun t103 => (spec_l01Density.l0 k t103 x5 (wrap64 (x6 + 1)) x102000)) else (none)) else (spec_l01Density.l1 k x4 x5 0 x102000)
def spec_l01Density.l1 : Nat → Int → Int → Int → List Int → Option (Int × Int)
  | 0, _, _, _, _ => none
  | k + 1, x4, x5, x7, x102000 => if x7 < (x102000.length : Int) then (if 0 ≤ x7 then (if (rd x102000 x7) = 0 then (none) else (spec_l01Density.l1 k x4 (wrap64 (x5 + (wrap64 (Int.tdiv x4 (rd x102000 x7))))) (wrap64 (x7 + 1)) x102000)) else (none)) else ((spec_l01Lowest.f k x5 x4).bind fun bt105 => (some (bt105.1, bt105.2)))
end
def spec_l01Density.f (k : Nat) (l0_0 : List Int) : Option (Int × Int) := spec_l01Density.l0 k 1 0 0 l0_0
theorem spec_l01Density.mono_l : ∀ k, (∀ y0 y1 y2 y3, LeO (spec_l01Density.l0 k y0 y1 y2 y3) (spec_l01Density.l0 (k + 1) y0 y1 y2 y3)) ∧ (∀ y0 y1 y2 y3, LeO (spec_l01Density.l1 k y0 y1 y2 y3) (spec_l01Density.l1 (k + 1) y0 y1 y2 y3))
  | 0 => ⟨fun _ _ _ _ r h => by simp [spec_l01Density.l0] at h, fun _ _ _ _ r h => by simp [spec_l01Density.l1] at h⟩
  | k + 1 => by
    obtain ⟨ih0, ih1⟩ := spec_l01Density.mono_l k
    refine ⟨?_, ?_⟩ <;> intros <;> (first | unfold spec_l01Density.l0 | unfold spec_l01Density.l1) <;> repeat' first | (with_reducible exact ih0 _ _ _ _) | (with_reducible exact ih1 _ _ _ _) | (with_reducible exact spec_l01Lcm.mono _ _ _) | (with_reducible exact spec_l01Lowest.mono _ _ _) | (with_reducible exact LeO.refl _) | (with_reducible exact LeO.none _) | (with_reducible refine LeO.ite ?_ ?_) | (with_reducible refine LeO.bind ?_ (fun _ => ?_)) | exact ih0 _ _ _ _ | exact ih1 _ _ _ _ | exact spec_l01Lcm.mono _ _ _ | exact spec_l01Lowest.mono _ _ _ | exact LeO.none _ | refine LeO.ite ?_ ?_ | refine LeO.bind ?_ (fun _ => ?_)
theorem spec_l01Density.mono : ∀ a0 k, LeO (spec_l01Density.f k a0) (spec_l01Density.f (k + 1) a0) := by
  intro a0 k
  obtain ⟨ih0, ih1⟩ := spec_l01Density.mono_l k
  unfold spec_l01Density.f
  repeat' first | (with_reducible exact ih0 _ _ _ _) | (with_reducible exact ih1 _ _ _ _) | (with_reducible exact spec_l01Lcm.mono _ _ _) | (with_reducible exact spec_l01Lowest.mono _ _ _) | (with_reducible exact LeO.refl _) | (with_reducible exact LeO.none _) | (with_reducible refine LeO.ite ?_ ?_) | (with_reducible refine LeO.bind ?_ (fun _ => ?_)) | exact ih0 _ _ _ _ | exact ih1 _ _ _ _ | exact spec_l01Lcm.mono _ _ _ | exact spec_l01Lowest.mono _ _ _ | exact LeO.none _ | refine LeO.ite ?_ ?_ | refine LeO.bind ?_ (fun _ => ?_)
set_option maxHeartbeats 8000000 in
set_option maxRecDepth 100000 in
theorem spec_l01Density.calls (k : Nat) (A0_0 : Option Addr) (c0_0 : Nat) (l0_0 : List Int) (r1 : Int) (r2 : Int) (w : World) (hr0_0 : Kd.C (Kd.int .i64) w A0_0 l0_0.length l0_0) (hc0_0 : l0_0.length ≤ c0_0) (h : spec_l01Density.f k l0_0 = some (r1, r2)) :
    Calls Try.prog 49 #[.agg #[.slice A0_0 l0_0.length c0_0]] w fun e w' => e = .returned (.tuple #[.int .i64 r1, .int .i64 r2]) ∧ Below w.heap.size w w' := by
 have hu38 := Try.underlying38
 have HR0_0 := Aside0.mk hr0_0
 have HC0_0 := Aside0.mk hc0_0
 clear hr0_0 hc0_0
 have HB := Aside0.mk (Below.refl w.heap.size w)
 have H : (spec_l01Density.l0 k 1 0 0 l0_0) = some (r1, r2) := h
 clear h
 have H' := Aside0.mk H
 clear H
 go_enter Try.func49, Try.ntmps49
 go_wp2_with (first | ((with_reducible refine gate_dst (N := 1) rfl ?_); refine box_event zr (N := 1) zr (cs := #[.slice A0_0 l0_0.length c0_0]) (t := 38) zg ?_; intro gb101 hg w2 hbox hb; have n_ := y4 (below_step (zB) hb) (hbox) ((zS hg : w.heap.size ≤ gb101)) ((zS hg : w.heap.size ≤ gb101)); clear HB; obtain ⟨HB, BK101, GW101, GE101⟩ := n_; clear hb hbox hg))
 go_loopg [4, 6] k (fun kq v4 v6 w' => ∃ (x4_1 : Int) (x6_1 : Int), v4 = .int .i64 x4_1 ∧ v6 = .int .i64 x6_1 ∧ Aside0 (spec_l01Density.l0 kq x4_1 0 x6_1 l0_0 = some (r1, r2)) ∧ Aside0 (kq ≤ k) ∧ Aside0 (w'.heap[gb101]? = some (.cells #[(.slice A0_0 l0_0.length c0_0)] 38 (0, 0))) ∧ Aside0 (Below w.heap.size w w'))
 case atStart => exact ⟨(1), (0), zF, zF, H', ⟨Nat.le_refl _⟩, ⟨zG BK101.out⟩, ⟨zB⟩⟩
 clear H'
 obtain ⟨x4_1, x6_1, rfl, rfl, HA, HK1, BK101, HB⟩ := hrel
 cases gk with
 | zero => exact absurd HA.out (by simp [spec_l01Density.l0])
 | succ k1 =>
   have H := HA.out
   clear HA
   simp only [spec_l01Density.l0] at H
   by_cases c3 : x6_1 < (l0_0.length : Int)
   · rw [if_pos c3] at H
     have c3b0 : decide (x6_1 < (l0_0.length : Int)) = true := decide_eq_true c3
     clear c3
     by_cases c4 : 0 ≤ x6_1
     · rw [if_pos c4] at H
       have c4b0 : decide (0 ≤ x6_1) = true := decide_eq_true c4
       clear c4
       replace H := Option.bind_eq_some_iff.mp H
       obtain ⟨t103, A50, H⟩ := H
       replace H : (spec_l01Density.l0 k1 t103 0 (wrap64 (x6_1 + 1)) l0_0) = some (r1, r2) := H
       have A5 := Aside0.mk A50
       clear A50
       have H' := Aside0.mk H
       clear H
       have hcz6_0 := zc BK101.out
       have hfz6_0 := blk_frozen BK101.out 0
       have p102 : 0 ≤ (x6_1 : Int) := zD
       have q102 : x6_1 < (l0_0.length : Int) := zD
       obtain ⟨ad102, e102, hx102_0⟩ := Kd.at_int HR0_0.out x6_1 p102 q102
       cases e102
       replace hx102_0 := (HB.out.cell (World.block_lt_of_cell? w _ hx102_0)).trans hx102_0
       replace p102 := eq_true p102
       replace q102 := eq_true q102
       go_wp2_with (first | ((with_reducible refine gate_callee (f := 58) rfl ?_); refine goesL_ (some 23) rfl rfl Try.func58 zk rfl #[.int .i64 x4_1, .int .i64 (rd l0_0 x6_1)] rfl zA ?_; (with_reducible refine (spec_l01Lcm.calls k1 x4_1 (rd l0_0 x6_1) t103 _ A5.out).mono ?_); rintro e w' ⟨rfl, ⟨nd, rfl⟩⟩; refine ⟨_, rfl, ?_⟩))
       go_roundg k1
       case measure => have := HK1.out; omega
       case rel => exact ⟨(t103), (wrap64 (x6_1 + 1)), zF, zF, H', ⟨by have := HK1.out; omega⟩, ⟨zG BK101.out⟩, ⟨zB⟩⟩
     · rw [if_neg c4] at H
       exact absurd H (by simp)
   · rw [if_neg c3] at H
     have c3b0 : decide (x6_1 < (l0_0.length : Int)) = false := decide_eq_false c3
     clear c3
     have H' := Aside0.mk H
     clear H
     have hcz7_0 := zc BK101.out
     have hfz7_0 := blk_frozen BK101.out 0
     go_wp2
     go_loopg [5, 7] k1 (fun kq v5 v7 w' => ∃ (x5_2 : Int) (x7_2 : Int), v5 = .int .i64 x5_2 ∧ v7 = .int .i64 x7_2 ∧ Aside0 (spec_l01Density.l1 kq x4_1 x5_2 x7_2 l0_0 = some (r1, r2)) ∧ Aside0 (kq ≤ k1) ∧ Aside0 (w'.heap[gb101]? = some (.cells #[(.slice A0_0 l0_0.length c0_0)] 38 (0, 0))) ∧ Aside0 (Below w.heap.size w w'))
     case atStart => exact ⟨(0), (0), zF, zF, H', ⟨Nat.le_refl _⟩, ⟨zG BK101.out⟩, ⟨zB⟩⟩
     case round =>
       clear H'
       try clear c3
       try clear c3b0
       try clear hcz7_0
       try clear hfz7_0
       obtain ⟨x5_2, x7_2, rfl, rfl, HA, HK2, BK101, HB⟩ := hrel
       cases gk with
       | zero => exact absurd HA.out (by simp [spec_l01Density.l1])
       | succ k2 =>
         have H := HA.out
         clear HA
         simp only [spec_l01Density.l1] at H
         by_cases c8 : x7_2 < (l0_0.length : Int)
         · rw [if_pos c8] at H
           have c8b0 : decide (x7_2 < (l0_0.length : Int)) = true := decide_eq_true c8
           clear c8
           by_cases c9 : 0 ≤ x7_2
           · rw [if_pos c9] at H
             have c9b0 : decide (0 ≤ x7_2) = true := decide_eq_true c9
             clear c9
             by_cases c10 : (rd l0_0 x7_2) = 0
             · rw [if_pos c10] at H
               exact absurd H (by simp)
             · rw [if_neg c10] at H
               have c10b0 : ((rd l0_0 x7_2) == 0) = false := beq_eq_false_iff_ne.mpr c10
               have c10b1 : ((rd l0_0 x7_2) != 0) = true := bne_iff_ne.mpr c10
               have H' := Aside0.mk H
               clear H
               have hcz11_0 := zc BK101.out
               have hfz11_0 := blk_frozen BK101.out 0
               have p104 : 0 ≤ (x7_2 : Int) := zD
               have q104 : x7_2 < (l0_0.length : Int) := zD
               obtain ⟨ad104, e104, hx104_0⟩ := Kd.at_int HR0_0.out x7_2 p104 q104
               cases e104
               replace hx104_0 := (HB.out.cell (World.block_lt_of_cell? w _ hx104_0)).trans hx104_0
               replace p104 := eq_true p104
               replace q104 := eq_true q104
               go_wp2
               go_roundg k2
               case measure => have := HK1.out; have := HK2.out; omega
               case rel => exact ⟨(wrap64 (x5_2 + (wrap64 (Int.tdiv x4_1 (rd l0_0 x7_2))))), (wrap64 (x7_2 + 1)), zF, zF, H', ⟨by have := HK1.out; have := HK2.out; omega⟩, ⟨zG BK101.out⟩, ⟨zB⟩⟩
           · rw [if_neg c9] at H
             exact absurd H (by simp)
         · rw [if_neg c8] at H
           have c8b0 : decide (x7_2 < (l0_0.length : Int)) = false := decide_eq_false c8
           clear c8
           replace H := Option.bind_eq_some_iff.mp H
           obtain ⟨⟨t105, t106⟩, A120, H⟩ := H
           replace H : (some (t105, t106)) = some (r1, r2) := H
           have A12 := Aside0.mk A120
           clear A120
           simp only [Option.some.injEq, Prod.mk.injEq] at H
           obtain ⟨rfl, rfl⟩ := H
           have hcz13_0 := zc BK101.out
           have hfz13_0 := blk_frozen BK101.out 0
           go_wp2_with (first | ((with_reducible refine gate_callee (f := 59) rfl ?_); refine goesL_ (some 43) rfl rfl Try.func59 zk rfl #[.int .i64 x5_2, .int .i64 x4_1] rfl zA ?_; (with_reducible refine (spec_l01Lowest.calls k2 x5_2 x4_1 t105 t106 _ A12.out).mono ?_); rintro e w' ⟨rfl, ⟨nd, rfl⟩⟩; refine ⟨_, rfl, ?_⟩))
           go_ret2
           exact ⟨zE, zB⟩
end Go.Proofs.Ytnmpjikiodnmnaa.P
end
section
namespace Go.Proofs.Ytnmpjikiodnmnaa.P
open Go.RowKit Go.Proofs.YtnmpjikiodnmnaaW.PrintWords Go.Proofs.YtnmpjikiodnmnaaW.PrintLast Go.Proofs.YtnmpjikiodnmnaaW.PrintMore
attribute [local go_sem] max2_int min2_int max_two min_two max_three min_three max_four min_four   -- for this text's walks alone
set_option linter.unusedVariables false
set_option linter.unusedSimpArgs false
mutual
def spec_l05Fit.l0 : Nat → Int → List Int → Option (Bool)
  | 0, _, _ => none
  | k + 1, x3, x102000 => if x3 < (x102000.length : Int) then (spec_l05Fit.l1 k x3 0 x102000) else (some true)
def spec_l05Fit.l1 : Nat → Int → Int → List Int → Option (Bool)
  | 0, _, _, _ => none
  | k + 1, x3, x4, x102000 => if x4 < x3 then (if 0 ≤ x3 then (if x3 < (x102000.length : Int) then (if 0 ≤ x4 then (if x4 < (x102000.length : Int) then ((spec_l01Gcd.f k (rd x102000 x3) (rd x102000 x4)).bind fun t104 => (if t104 = 1 then (some false) else (spec_l05Fit.l1 k x3 (wrap64 (x4 + 1)) x102000))) else (none)) else (none)) else (none)) else (none)) else (spec_l05Fit.l0 k (wrap64 (x3 + 1)) x102000)
end
def spec_l05Fit.f (k : Nat) (l0_0 : List Int) : Option (Bool) := spec_l05Fit.l0 k 0 l0_0
theorem spec_l05Fit.mono_l : ∀ k, (∀ y0 y1, LeO (spec_l05Fit.l0 k y0 y1) (spec_l05Fit.l0 (k + 1) y0 y1)) ∧ (∀ y0 y1 y2, LeO (spec_l05Fit.l1 k y0 y1 y2) (spec_l05Fit.l1 (k + 1) y0 y1 y2))
  | 0 => ⟨fun _ _ r h => by simp [spec_l05Fit.l0] at h, fun _ _ _ r h => by simp [spec_l05Fit.l1] at h⟩
  | k + 1 => by
    obtain ⟨ih0, ih1⟩ := spec_l05Fit.mono_l k
    refine ⟨?_, ?_⟩ <;> intros <;> (first | unfold spec_l05Fit.l0 | unfold spec_l05Fit.l1) <;> repeat' first | (with_reducible exact ih0 _ _) | (with_reducible exact ih1 _ _ _) | (with_reducible exact spec_l01Gcd.mono _ _ _) | (with_reducible exact LeO.refl _) | (with_reducible exact LeO.none _) | (with_reducible refine LeO.ite ?_ ?_) | (with_reducible refine LeO.bind ?_ (fun _ => ?_)) | exact ih0 _ _ | exact ih1 _ _ _ | exact spec_l01Gcd.mono _ _ _ | exact LeO.none _ | refine LeO.ite ?_ ?_ | refine LeO.bind ?_ (fun _ => ?_)
theorem spec_l05Fit.mono : ∀ a0 k, LeO (spec_l05Fit.f k a0) (spec_l05Fit.f (k + 1) a0) := by
  intro a0 k
  obtain ⟨ih0, ih1⟩ := spec_l05Fit.mono_l k
  unfold spec_l05Fit.f
  repeat' first | (with_reducible exact ih0 _ _) | (with_reducible exact ih1 _ _ _) | (with_reducible exact spec_l01Gcd.mono _ _ _) | (with_reducible exact LeO.refl _) | (with_reducible exact LeO.none _) | (with_reducible refine LeO.ite ?_ ?_) | (with_reducible refine LeO.bind ?_ (fun _ => ?_)) | exact ih0 _ _ | exact ih1 _ _ _ | exact spec_l01Gcd.mono _ _ _ | exact LeO.none _ | refine LeO.ite ?_ ?_ | refine LeO.bind ?_ (fun _ => ?_)
set_option maxHeartbeats 8000000 in
set_option maxRecDepth 100000 in
theorem spec_l05Fit.calls (k : Nat) (A0_0 : Option Addr) (c0_0 : Nat) (l0_0 : List Int) (r : Bool) (w : World) (hr0_0 : Kd.C (Kd.int .i64) w A0_0 l0_0.length l0_0) (hc0_0 : l0_0.length ≤ c0_0) (h : spec_l05Fit.f k l0_0 = some r) :
    Calls Try.prog 50 #[.agg #[.slice A0_0 l0_0.length c0_0]] w fun e w' => e = .returned (.bool r) ∧ Below w.heap.size w w' := by
 have hu38 := Try.underlying38
 have HR0_0 := Aside0.mk hr0_0
 have HC0_0 := Aside0.mk hc0_0
 clear hr0_0 hc0_0
 have HB := Aside0.mk (Below.refl w.heap.size w)
 have H : (spec_l05Fit.l0 k 0 l0_0) = some r := h
 clear h
 have H' := Aside0.mk H
 clear H
 go_enter Try.func50, Try.ntmps50
 go_wp2_with (first | ((with_reducible refine gate_dst (N := 1) rfl ?_); refine box_event zr (N := 1) zr (cs := #[.slice A0_0 l0_0.length c0_0]) (t := 38) zg ?_; intro gb101 hg w2 hbox hb; have n_ := y4 (below_step (zB) hb) (hbox) ((zS hg : w.heap.size ≤ gb101)) ((zS hg : w.heap.size ≤ gb101)); clear HB; obtain ⟨HB, BK101, GW101, GE101⟩ := n_; clear hb hbox hg))
 repeat (go_quiet (first | ((with_reducible refine gate_dst (N := 1) rfl ?_); refine box_event zr (N := 1) zr (cs := #[.slice A0_0 l0_0.length c0_0]) (t := 38) zg ?_; intro gb101 hg w2 hbox hb; have n_ := y4 (below_step (zB) hb) (hbox) ((zS hg : w.heap.size ≤ gb101)) ((zS hg : w.heap.size ≤ gb101)); clear HB; obtain ⟨HB, BK101, GW101, GE101⟩ := n_; clear hb hbox hg)); try go_wp2_with (first | ((with_reducible refine gate_dst (N := 1) rfl ?_); refine box_event zr (N := 1) zr (cs := #[.slice A0_0 l0_0.length c0_0]) (t := 38) zg ?_; intro gb101 hg w2 hbox hb; have n_ := y4 (below_step (zB) hb) (hbox) ((zS hg : w.heap.size ≤ gb101)) ((zS hg : w.heap.size ≤ gb101)); clear HB; obtain ⟨HB, BK101, GW101, GE101⟩ := n_; clear hb hbox hg)))
 go_loopg [3] k (fun kq v3 w' => ∃ (x3_1 : Int), v3 = .int .i64 x3_1 ∧ Aside0 (spec_l05Fit.l0 kq x3_1 l0_0 = some r) ∧ Aside0 (kq ≤ k) ∧ Aside0 (w'.heap[gb101]? = some (.cells #[(.slice A0_0 l0_0.length c0_0)] 38 (0, 0))) ∧ Aside0 (Below w.heap.size w w'))
 case atStart => exact ⟨(0), zF, H', ⟨Nat.le_refl _⟩, ⟨zG BK101.out⟩, ⟨zB⟩⟩
 clear H'
 obtain ⟨x3_1, rfl, HA, HK1, BK101, HB⟩ := hrel
 cases gk with
 | zero => exact absurd HA.out (by simp [spec_l05Fit.l0])
 | succ k1 =>
   have H := HA.out
   clear HA
   simp only [spec_l05Fit.l0] at H
   by_cases c3 : x3_1 < (l0_0.length : Int)
   · rw [if_pos c3] at H
     have c3b0 : decide (x3_1 < (l0_0.length : Int)) = true := decide_eq_true c3
     clear c3
     have H' := Aside0.mk H
     clear H
     have hcz4_0 := zc BK101.out
     have hfz4_0 := blk_frozen BK101.out 0
     go_wp2
     repeat (go_quiet (fail); try go_wp2)
     go_loopg [4] k1 (fun kq v4 w' => ∃ (x4_2 : Int), v4 = .int .i64 x4_2 ∧ Aside0 (spec_l05Fit.l1 kq x3_1 x4_2 l0_0 = some r) ∧ Aside0 (kq ≤ k1) ∧ Aside0 (w'.heap[gb101]? = some (.cells #[(.slice A0_0 l0_0.length c0_0)] 38 (0, 0))) ∧ Aside0 (Below w.heap.size w w'))
     case atStart => exact ⟨(0), zF, H', ⟨Nat.le_refl _⟩, ⟨zG BK101.out⟩, ⟨zB⟩⟩
     case round =>
       clear H'
       try clear c3
       try clear c3b0
       try clear hcz4_0
       try clear hfz4_0
       obtain ⟨x4_2, rfl, HA, HK2, BK101, HB⟩ := hrel
       cases gk with
       | zero => exact absurd HA.out (by simp [spec_l05Fit.l1])
       | succ k2 =>
         have H := HA.out
         clear HA
         simp only [spec_l05Fit.l1] at H
         by_cases c5 : x4_2 < x3_1
         · rw [if_pos c5] at H
           have c5b0 : decide (x4_2 < x3_1) = true := decide_eq_true c5
           clear c5
           by_cases c6 : 0 ≤ x3_1
           · rw [if_pos c6] at H
             have c6b0 : decide (0 ≤ x3_1) = true := decide_eq_true c6
             clear c6
             by_cases c7 : x3_1 < (l0_0.length : Int)
             · rw [if_pos c7] at H
               have c7b0 : decide (x3_1 < (l0_0.length : Int)) = true := decide_eq_true c7
               clear c7
               by_cases c8 : 0 ≤ x4_2
               · rw [if_pos c8] at H
                 have c8b0 : decide (0 ≤ x4_2) = true := decide_eq_true c8
                 clear c8
                 by_cases c9 : x4_2 < (l0_0.length : Int)
                 · rw [if_pos c9] at H
                   have c9b0 : decide (x4_2 < (l0_0.length : Int)) = true := decide_eq_true c9
                   clear c9
                   replace H := Option.bind_eq_some_iff.mp H
                   obtain ⟨t104, A100, H⟩ := H
                   replace H : (if t104 = 1 then (some false) else (spec_l05Fit.l1 k2 x3_1 (wrap64 (x4_2 + 1)) l0_0)) = some r := H
                   have A10 := Aside0.mk A100
                   clear A100
                   by_cases c11 : t104 = 1
                   · rw [if_pos c11] at H
                     have c11b0 : (t104 == 1) = true := beq_iff_eq.mpr c11
                     have c11b1 : (t104 != 1) = false := bne_eq_false_iff_eq.mpr c11
                     clear c11
                     obtain rfl := Option.some.inj H
                     have hcz12_0 := zc BK101.out
                     have hfz12_0 := blk_frozen BK101.out 0
                     have p102 : 0 ≤ (x3_1 : Int) := zD
                     have q102 : x3_1 < (l0_0.length : Int) := zD
                     obtain ⟨ad102, e102, hx102_0⟩ := Kd.at_int HR0_0.out x3_1 p102 q102
                     cases e102
                     replace hx102_0 := (HB.out.cell (World.block_lt_of_cell? w _ hx102_0)).trans hx102_0
                     replace p102 := eq_true p102
                     replace q102 := eq_true q102
                     have p103 : 0 ≤ (x4_2 : Int) := zD
                     have q103 : x4_2 < (l0_0.length : Int) := zD
                     obtain ⟨ad103, e103, hx103_0⟩ := Kd.at_int HR0_0.out x4_2 p103 q103
                     obtain rfl : ad102 = ad103 := (by injection e103)
                     replace hx103_0 := (HB.out.cell (World.block_lt_of_cell? w _ hx103_0)).trans hx103_0
                     replace p103 := eq_true p103
                     replace q103 := eq_true q103
                     go_wp2_with (first | (go_at_call 60; (with_reducible refine (spec_l01Gcd.calls k2 (rd l0_0 x3_1) (rd l0_0 x4_2) t104 _ A10.out).mono ?_); rintro e w' ⟨rfl, ⟨nd, rfl⟩⟩; (try exact zd)))
                     repeat (go_quiet (first | (go_at_call 60; (with_reducible refine (spec_l01Gcd.calls k2 (rd l0_0 x3_1) (rd l0_0 x4_2) t104 _ A10.out).mono ?_); rintro e w' ⟨rfl, ⟨nd, rfl⟩⟩; (try exact zd))); try go_wp2_with (first | (go_at_call 60; (with_reducible refine (spec_l01Gcd.calls k2 (rd l0_0 x3_1) (rd l0_0 x4_2) t104 _ A10.out).mono ?_); rintro e w' ⟨rfl, ⟨nd, rfl⟩⟩; (try exact zd))))
                     go_ret
                     exact ⟨zE, zB⟩
                   · rw [if_neg c11] at H
                     have c11b0 : (t104 == 1) = false := beq_eq_false_iff_ne.mpr c11
                     have c11b1 : (t104 != 1) = true := bne_iff_ne.mpr c11
                     have H' := Aside0.mk H
                     clear H
                     have hcz13_0 := zc BK101.out
                     have hfz13_0 := blk_frozen BK101.out 0
                     have p102 : 0 ≤ (x3_1 : Int) := zD
                     have q102 : x3_1 < (l0_0.length : Int) := zD
                     obtain ⟨ad102, e102, hx102_0⟩ := Kd.at_int HR0_0.out x3_1 p102 q102
                     cases e102
                     replace hx102_0 := (HB.out.cell (World.block_lt_of_cell? w _ hx102_0)).trans hx102_0
                     replace p102 := eq_true p102
                     replace q102 := eq_true q102
                     have p103 : 0 ≤ (x4_2 : Int) := zD
                     have q103 : x4_2 < (l0_0.length : Int) := zD
                     obtain ⟨ad103, e103, hx103_0⟩ := Kd.at_int HR0_0.out x4_2 p103 q103
                     obtain rfl : ad102 = ad103 := (by injection e103)
                     replace hx103_0 := (HB.out.cell (World.block_lt_of_cell? w _ hx103_0)).trans hx103_0
                     replace p103 := eq_true p103
                     replace q103 := eq_true q103
                     go_wp2_with (first | (go_at_call 60; (with_reducible refine (spec_l01Gcd.calls k2 (rd l0_0 x3_1) (rd l0_0 x4_2) t104 _ A10.out).mono ?_); rintro e w' ⟨rfl, ⟨nd, rfl⟩⟩; (try exact zd)))
                     repeat (go_quiet (first | (go_at_call 60; (with_reducible refine (spec_l01Gcd.calls k2 (rd l0_0 x3_1) (rd l0_0 x4_2) t104 _ A10.out).mono ?_); rintro e w' ⟨rfl, ⟨nd, rfl⟩⟩; (try exact zd))); try go_wp2_with (first | (go_at_call 60; (with_reducible refine (spec_l01Gcd.calls k2 (rd l0_0 x3_1) (rd l0_0 x4_2) t104 _ A10.out).mono ?_); rintro e w' ⟨rfl, ⟨nd, rfl⟩⟩; (try exact zd))))
                     go_roundg k2
                     case measure => have := HK1.out; have := HK2.out; omega
                     case rel => exact ⟨(wrap64 (x4_2 + 1)), zF, H', ⟨by have := HK1.out; have := HK2.out; omega⟩, ⟨zG BK101.out⟩, ⟨zB⟩⟩
                 · rw [if_neg c9] at H
                   exact absurd H (by simp)
               · rw [if_neg c8] at H
                 exact absurd H (by simp)
             · rw [if_neg c7] at H
               exact absurd H (by simp)
           · rw [if_neg c6] at H
             exact absurd H (by simp)
         · rw [if_neg c5] at H
           have c5b0 : decide (x4_2 < x3_1) = false := decide_eq_false c5
           clear c5
           have H' := Aside0.mk H
           clear H
           go_wp2
           repeat (go_quiet (fail); try go_wp2)
           go_roundg k2
           case measure => have := HK1.out; have := HK2.out; omega
           case rel => exact ⟨(wrap64 (x3_1 + 1)), zF, H', ⟨by have := HK1.out; have := HK2.out; omega⟩, ⟨zG BK101.out⟩, ⟨zB⟩⟩
   · rw [if_neg c3] at H
     have c3b0 : decide (x3_1 < (l0_0.length : Int)) = false := decide_eq_false c3
     clear c3
     obtain rfl := Option.some.inj H
     have hcz14_0 := zc BK101.out
     have hfz14_0 := blk_frozen BK101.out 0
     go_wp2
     repeat (go_quiet (fail); try go_wp2)
     go_ret
     exact ⟨zE, zB⟩
end Go.Proofs.Ytnmpjikiodnmnaa.P
end
section
namespace Go.Proofs.Ytnmpjikiodnmnaa.P
open Go.RowKit Go.Proofs.YtnmpjikiodnmnaaW.PrintWords Go.Proofs.YtnmpjikiodnmnaaW.PrintLast Go.Proofs.YtnmpjikiodnmnaaW.PrintMore
attribute [local go_sem] max2_int min2_int max_two min_two max_three min_three max_four min_four   -- for this text's walks alone
set_option linter.unusedVariables false
set_option linter.unusedSimpArgs false
def spec_l05Possible.f (k : Nat) (l0_0 : List Int) : Option (Bool) := (spec_l01Density.f k l0_0).bind fun bt102 => (if bt102.1 ≤ bt102.2 then ((spec_l01K.f l0_0).bind fun t104 => (if t104 = 1 then (some true) else ((spec_l05Fit.f k l0_0).bind fun t105 => (some t105)))) else (some false))
theorem spec_l05Possible.mono : ∀ a0 k, LeO (spec_l05Possible.f k a0) (spec_l05Possible.f (k + 1) a0) := by
  intro a0 k
  unfold spec_l05Possible.f
  repeat' first | (with_reducible exact spec_l01Density.mono _ _) | (with_reducible exact spec_l05Fit.mono _ _) | (with_reducible exact LeO.refl _) | (with_reducible exact LeO.none _) | (with_reducible refine LeO.ite ?_ ?_) | (with_reducible refine LeO.bind ?_ (fun _ => ?_)) | exact spec_l01Density.mono _ _ | exact spec_l05Fit.mono _ _ | exact LeO.none _ | refine LeO.ite ?_ ?_ | refine LeO.bind ?_ (fun _ => ?_)
set_option maxHeartbeats 8000000 in
set_option maxRecDepth 100000 in
theorem spec_l05Possible.calls (k : Nat) (A0_0 : Option Addr) (c0_0 : Nat) (l0_0 : List Int) (r : Bool) (w : World) (hr0_0 : Kd.C (Kd.int .i64) w A0_0 l0_0.length l0_0) (hc0_0 : l0_0.length ≤ c0_0) (h : spec_l05Possible.f k l0_0 = some r) :
    Calls Try.prog 38 #[.agg #[.slice A0_0 l0_0.length c0_0]] w fun e w' => e = .returned (.bool r) ∧ Below w.heap.size w w' := by
 have hu38 := Try.underlying38
 have HR0_0 := Aside0.mk hr0_0
 have HC0_0 := Aside0.mk hc0_0
 clear hr0_0 hc0_0
 have HB := Aside0.mk (Below.refl w.heap.size w)
 have H : ((spec_l01Density.f k l0_0).bind fun bt102 => (if bt102.1 ≤ bt102.2 then ((spec_l01K.f l0_0).bind fun t104 => (if t104 = 1 then (some true) else ((spec_l05Fit.f k l0_0).bind fun t105 => (some t105)))) else (some false))) = some r := h
 clear h
 replace H := Option.bind_eq_some_iff.mp H
 obtain ⟨⟨t102, t103⟩, A20, H⟩ := H
 replace H : (if t102 ≤ t103 then ((spec_l01K.f l0_0).bind fun t104 => (if t104 = 1 then (some true) else ((spec_l05Fit.f k l0_0).bind fun t105 => (some t105)))) else (some false)) = some r := H
 have A2 := Aside0.mk A20
 clear A20
 by_cases c3 : t102 ≤ t103
 ·
  rw [if_pos c3] at H
  have c3b0 : decide (t102 ≤ t103) = true := decide_eq_true c3
  clear c3
  replace H := Option.bind_eq_some_iff.mp H
  obtain ⟨t104, A40, H⟩ := H
  replace H : (if t104 = 1 then (some true) else ((spec_l05Fit.f k l0_0).bind fun t105 => (some t105))) = some r := H
  have A4 := Aside0.mk A40
  clear A40
  by_cases c5 : t104 = 1
  ·
   rw [if_pos c5] at H
   have c5b0 : (t104 == 1) = true := beq_iff_eq.mpr c5
   have c5b1 : (t104 != 1) = false := bne_eq_false_iff_eq.mpr c5
   clear c5
   obtain rfl := Option.some.inj H
   go_enter Try.func38, Try.ntmps38
   go_wp2_with (first | ((with_reducible refine gate_dst (N := 1) rfl ?_); refine box_event zr (N := 1) zr (cs := #[.slice A0_0 l0_0.length c0_0]) (t := 38) zg ?_; intro gb101 hg w6 hbox hb; have n_ := y4 (below_step (zB) hb) (hbox) ((zS hg : w.heap.size ≤ gb101)) ((zS hg : w.heap.size ≤ gb101)); clear HB; obtain ⟨HB, BK101, GW101, GE101⟩ := n_; clear hb hbox hg; have hcz7_0 := zc BK101.out; have hfz7_0 := blk_frozen BK101.out 0) | ((with_reducible refine gate_callee (f := 49) rfl ?_); refine goesL_ (some 7) rfl rfl Try.func49 zk rfl #[.agg #[.slice A0_0 l0_0.length c0_0]] rfl zA ?_; (with_reducible refine (spec_l01Density.calls k _ _ l0_0 t102 t103 _ ?side1 ?side2 A2.out).mono ?_); (case side1 => exact zC (Kd.C_below HR0_0.out HB.out)); (case side2 => exact HC0_0.out); rintro e w8 ⟨rfl, hb⟩; refine ⟨_, rfl, ?_⟩; have n_ := y2 (zb BK101.out hb) (below_step (zB) hb); clear BK101 HB; obtain ⟨BK101, HB⟩ := n_; (try clear hb); (try clear hb2); (try clear hk); (try clear hi); have hcz9_0 := zc BK101.out; have hfz9_0 := blk_frozen BK101.out 0) | (go_at_call 37; (with_reducible refine (spec_l01K.calls _ _ l0_0 t104 _ ?side1 ?side2 A4.out).mono ?_); (case side1 => exact zC (Kd.C_below HR0_0.out HB.out)); (case side2 => exact HC0_0.out); rintro e w10 ⟨rfl, hb⟩; have n_ := y2 (zb BK101.out hb) (below_step (zB) hb); clear BK101 HB; obtain ⟨BK101, HB⟩ := n_; (try clear hb); (try clear hb2); (try clear hk); (try clear hi)))
   go_ret
   exact ⟨zE, zB⟩
  rw [if_neg c5] at H
  have c5b0 : (t104 == 1) = false := beq_eq_false_iff_ne.mpr c5
  have c5b1 : (t104 != 1) = true := bne_iff_ne.mpr c5
  replace H := Option.bind_eq_some_iff.mp H
  obtain ⟨t105, A110, H⟩ := H
  replace H : (some t105) = some r := H
  have A11 := Aside0.mk A110
  clear A110
  obtain rfl := Option.some.inj H
  go_enter Try.func38, Try.ntmps38
  go_wp2_with (first | ((with_reducible refine gate_dst (N := 1) rfl ?_); refine box_event zr (N := 1) zr (cs := #[.slice A0_0 l0_0.length c0_0]) (t := 38) zg ?_; intro gb101 hg w12 hbox hb; have n_ := y4 (below_step (zB) hb) (hbox) ((zS hg : w.heap.size ≤ gb101)) ((zS hg : w.heap.size ≤ gb101)); clear HB; obtain ⟨HB, BK101, GW101, GE101⟩ := n_; clear hb hbox hg; have hcz13_0 := zc BK101.out; have hfz13_0 := blk_frozen BK101.out 0) | ((with_reducible refine gate_callee (f := 49) rfl ?_); refine goesL_ (some 7) rfl rfl Try.func49 zk rfl #[.agg #[.slice A0_0 l0_0.length c0_0]] rfl zA ?_; (with_reducible refine (spec_l01Density.calls k _ _ l0_0 t102 t103 _ ?side1 ?side2 A2.out).mono ?_); (case side1 => exact zC (Kd.C_below HR0_0.out HB.out)); (case side2 => exact HC0_0.out); rintro e w14 ⟨rfl, hb⟩; refine ⟨_, rfl, ?_⟩; have n_ := y2 (zb BK101.out hb) (below_step (zB) hb); clear BK101 HB; obtain ⟨BK101, HB⟩ := n_; (try clear hb); (try clear hb2); (try clear hk); (try clear hi); have hcz15_0 := zc BK101.out; have hfz15_0 := blk_frozen BK101.out 0) | (go_at_call 37; (with_reducible refine (spec_l01K.calls _ _ l0_0 t104 _ ?side1 ?side2 A4.out).mono ?_); (case side1 => exact zC (Kd.C_below HR0_0.out HB.out)); (case side2 => exact HC0_0.out); rintro e w16 ⟨rfl, hb⟩; have n_ := y2 (zb BK101.out hb) (below_step (zB) hb); clear BK101 HB; obtain ⟨BK101, HB⟩ := n_; (try clear hb); (try clear hb2); (try clear hk); (try clear hi); have hcz17_0 := zc BK101.out; have hfz17_0 := blk_frozen BK101.out 0) | (go_at_call 50; (with_reducible refine (spec_l05Fit.calls k _ _ l0_0 t105 _ ?side1 ?side2 A11.out).mono ?_); (case side1 => exact zC (Kd.C_below HR0_0.out HB.out)); (case side2 => exact HC0_0.out); rintro e w18 ⟨rfl, hb⟩; have n_ := y2 (zb BK101.out hb) (below_step (zB) hb); clear BK101 HB; obtain ⟨BK101, HB⟩ := n_; (try clear hb); (try clear hb2); (try clear hk); (try clear hi)))
  go_ret
  exact ⟨zE, zB⟩
 rw [if_neg c3] at H
 have c3b0 : decide (t102 ≤ t103) = false := decide_eq_false c3
 clear c3
 obtain rfl := Option.some.inj H
 go_enter Try.func38, Try.ntmps38
 go_wp2_with (first | ((with_reducible refine gate_dst (N := 1) rfl ?_); refine box_event zr (N := 1) zr (cs := #[.slice A0_0 l0_0.length c0_0]) (t := 38) zg ?_; intro gb101 hg w19 hbox hb; have n_ := y4 (below_step (zB) hb) (hbox) ((zS hg : w.heap.size ≤ gb101)) ((zS hg : w.heap.size ≤ gb101)); clear HB; obtain ⟨HB, BK101, GW101, GE101⟩ := n_; clear hb hbox hg; have hcz20_0 := zc BK101.out; have hfz20_0 := blk_frozen BK101.out 0) | ((with_reducible refine gate_callee (f := 49) rfl ?_); refine goesL_ (some 7) rfl rfl Try.func49 zk rfl #[.agg #[.slice A0_0 l0_0.length c0_0]] rfl zA ?_; (with_reducible refine (spec_l01Density.calls k _ _ l0_0 t102 t103 _ ?side1 ?side2 A2.out).mono ?_); (case side1 => exact zC (Kd.C_below HR0_0.out HB.out)); (case side2 => exact HC0_0.out); rintro e w21 ⟨rfl, hb⟩; refine ⟨_, rfl, ?_⟩; have n_ := y2 (zb BK101.out hb) (below_step (zB) hb); clear BK101 HB; obtain ⟨BK101, HB⟩ := n_; (try clear hb); (try clear hb2); (try clear hk); (try clear hi)))
 go_ret
 exact ⟨zE, zB⟩
end Go.Proofs.Ytnmpjikiodnmnaa.P
end
section
namespace Go.Proofs.Ytnmpjikiodnmnaa.P
open Go.RowKit Go.Proofs.YtnmpjikiodnmnaaW.PrintWords Go.Proofs.YtnmpjikiodnmnaaW.PrintLast Go.Proofs.YtnmpjikiodnmnaaW.PrintMore
attribute [local go_sem] max2_int min2_int max_two min_two max_three min_three max_four min_four   -- for this text's walks alone
set_option linter.unusedVariables false
set_option linter.unusedSimpArgs false
def spec_FirstRests.f (mt : Int × Int → Int × Int → Bool) (k : Nat) (l0 : List Int) : Option (List (Int × Int) × Int) :=
  (spec_l01Is.f k l0).bind fun t => if t = true then (spec_l01K.f l0).bind fun n => (if n > 5 then some ([], 3) else (spec_l05Possible.f k l0).bind fun p => if p = true then some (((restsT mt l0 []).getD []), if (restsT mt l0 []).isSome then 0 else 4) else some ([], 4)) else some ([], 1)
set_option maxHeartbeats 8000000 in
set_option maxRecDepth 100000 in
theorem spec_FirstRests.calls (ok : Int × Int → Prop) (mt : Int × Int → Int × Int → Bool) (hm : ∀ c d, ok c → ok d → ∃ k, spec_l05Meet.f k c d = some (mt c d)) (k : Nat) (A0 : Option Addr) (c0 : Nat) (l0 : List Int) (r1 : List (Int × Int)) (r2 : Int) (w : World) (hr0 : Kd.C (Kd.int .i64) w A0 l0.length l0) (hc0 : l0.length ≤ c0) (hok : spec_l01Is.f k l0 = some true → (∀ g ∈ l0, ∀ r, 0 ≤ r → r < g → ok (r, g)) ∧ (∀ g ∈ l0, g ≤ 9223372036854775807) ∧ l0.length ≤ 1000) (h : spec_FirstRests.f mt k l0 = some (r1, r2)) :
    Calls Try.prog 14 #[.agg #[.slice A0 l0.length c0]] w fun e w' => ∃ v, e = .returned (.tuple #[v, .int .i64 r2]) ∧ Kd.R ckd 63 w' w.heap.size (fun _ => True) v r1 ∧ Below w.heap.size w w' := by
  have hu38 := Try.underlying38
  have HB := Aside0.mk (Below.refl w.heap.size w)
  unfold spec_FirstRests.f at h
  obtain ⟨t, e1, h⟩ := Option.bind_eq_some_iff.mp h
  have E1 := Aside0.mk (fun W (hb : Below w.heap.size w W) => spec_l01Is.calls k A0 c0 l0 t W (Kd.C_below hr0 hb) hc0 e1)
  cases t with
  | false =>
    rw [if_neg (by decide)] at h
    simp only [Option.some.injEq, Prod.mk.injEq] at h
    obtain ⟨rfl, rfl⟩ := h
    clear hr0 hc0 hok e1 hm
    go_enter Try.func14, Try.ntmps14
    go_wp2_with (first | ((with_reducible refine gate_dst (N := 1) rfl ?_); refine box_event zr (N := 1) zr (cs := #[.slice A0 l0.length c0]) (t := 38) zg ?_; intro gb hg w1 hbox hb; have hq : w1.cell? ⟨gb, 0, none⟩ = some (.slice A0 l0.length c0) := zc hbox; have n_ := y2 (below_step HB.out hb) hbox; clear HB; obtain ⟨HB, BK⟩ := n_; clear hb hbox hg) | (go_at_call 36; refine (E1.out _ HB.out).mono ?_; rintro e w' ⟨rfl, hb⟩; have n_ := y2 (below_step HB.out hb) (blk_below BK.out hb); clear HB BK hb; obtain ⟨HB, BK⟩ := n_; have hq_ := zc BK.out))
    go_ret2
    exact ⟨_, rfl, Kd.R_nil _ _ _ _ _, HB.out⟩
  | true =>
    rw [if_pos rfl] at h
    obtain ⟨hok1, hok2, hok3⟩ := hok e1
    obtain ⟨n, e2, h⟩ := Option.bind_eq_some_iff.mp h
    have E2 := Aside0.mk (fun W (hb : Below w.heap.size w W) => spec_l01K.calls A0 c0 l0 n W (Kd.C_below hr0 hb) hc0 e2)
    by_cases hn : n > 5
    · rw [if_pos hn] at h
      simp only [Option.some.injEq, Prod.mk.injEq] at h
      obtain ⟨rfl, rfl⟩ := h
      have hn1 : decide (n > 5) = true := decide_eq_true hn
      have hn2 : decide (5 < n) = true := decide_eq_true hn
      clear hr0 hc0 hok hok1 hok2 hok3 e1 e2 hm hn
      go_enter Try.func14, Try.ntmps14
      go_wp2_with (first | ((with_reducible refine gate_dst (N := 1) rfl ?_); refine box_event zr (N := 1) zr (cs := #[.slice A0 l0.length c0]) (t := 38) zg ?_; intro gb hg w1 hbox hb; have hq : w1.cell? ⟨gb, 0, none⟩ = some (.slice A0 l0.length c0) := zc hbox; have n_ := y2 (below_step HB.out hb) hbox; clear HB; obtain ⟨HB, BK⟩ := n_; clear hb hbox hg) | (go_at_call 36; refine (E1.out _ HB.out).mono ?_; rintro e w' ⟨rfl, hb⟩; have n_ := y2 (below_step HB.out hb) (blk_below BK.out hb); clear HB BK hb; obtain ⟨HB, BK⟩ := n_; have hq_ := zc BK.out) | (go_at_call 37; refine (E2.out _ HB.out).mono ?_; rintro e w' ⟨rfl, hb⟩; have n_ := y2 (below_step HB.out hb) (blk_below BK.out hb); clear HB BK hb; obtain ⟨HB, BK⟩ := n_; have hq_ := zc BK.out))
      go_ret2
      exact ⟨_, rfl, Kd.R_nil _ _ _ _ _, HB.out⟩
    · rw [if_neg hn] at h
      have hn1 : decide (n > 5) = false := decide_eq_false hn
      have hn2 : decide (5 < n) = false := decide_eq_false hn
      obtain ⟨p, e3, h⟩ := Option.bind_eq_some_iff.mp h
      have E3 := Aside0.mk (fun W (hb : Below w.heap.size w W) => spec_l05Possible.calls k A0 c0 l0 p W (Kd.C_below hr0 hb) hc0 e3)
      cases p with
      | false =>
        rw [if_neg (by decide)] at h
        simp only [Option.some.injEq, Prod.mk.injEq] at h
        obtain ⟨rfl, rfl⟩ := h
        clear hr0 hc0 hok hok1 hok2 hok3 e1 e2 e3 hm hn
        go_enter Try.func14, Try.ntmps14
        go_wp2_with (first | ((with_reducible refine gate_dst (N := 1) rfl ?_); refine box_event zr (N := 1) zr (cs := #[.slice A0 l0.length c0]) (t := 38) zg ?_; intro gb hg w1 hbox hb; have hq : w1.cell? ⟨gb, 0, none⟩ = some (.slice A0 l0.length c0) := zc hbox; have n_ := y2 (below_step HB.out hb) hbox; clear HB; obtain ⟨HB, BK⟩ := n_; clear hb hbox hg) | (go_at_call 36; refine (E1.out _ HB.out).mono ?_; rintro e w' ⟨rfl, hb⟩; have n_ := y2 (below_step HB.out hb) (blk_below BK.out hb); clear HB BK hb; obtain ⟨HB, BK⟩ := n_; have hq_ := zc BK.out) | (go_at_call 37; refine (E2.out _ HB.out).mono ?_; rintro e w' ⟨rfl, hb⟩; have n_ := y2 (below_step HB.out hb) (blk_below BK.out hb); clear HB BK hb; obtain ⟨HB, BK⟩ := n_; have hq_ := zc BK.out) | (go_at_call 38; refine (E3.out _ HB.out).mono ?_; rintro e w' ⟨rfl, hb⟩; have n_ := y2 (below_step HB.out hb) (blk_below BK.out hb); clear HB BK hb; obtain ⟨HB, BK⟩ := n_; have hq_ := zc BK.out))
        go_ret2
        exact ⟨_, rfl, Kd.R_nil _ _ _ _ _, HB.out⟩
      | true =>
        rw [if_pos rfl] at h
        simp only [Option.some.injEq, Prod.mk.injEq] at h
        obtain ⟨rfl, rfl⟩ := h
        have E4 := Aside0.mk (fun (W : World) (v : Value) (hb : Below w.heap.size w W) (hv : Kd.R ckd 63 W w.heap.size (fun _ => True) v []) => spec_l05Rests.calls ok mt hm l0 A0 c0 w.heap.size hok1 hok2 hok3 l0.length [] v W (by simp) (fun c hc => by cases hc) hb.size (Kd.C_below hr0 hb) hc0 hv)
        simp only [List.length_nil, List.drop_zero] at E4
        clear hr0 hc0 hok hok1 hok2 hok3 e1 e2 e3 hm hn
        generalize restsT mt l0 [] = q at E4 ⊢
        cases q with
        | none =>
          simp only [Option.isSome_none, Option.getD_none] at E4 ⊢
          go_enter Try.func14, Try.ntmps14
          go_wp2_with (first | ((with_reducible refine gate_dst (N := 1) rfl ?_); refine box_event zr (N := 1) zr (cs := #[.slice A0 l0.length c0]) (t := 38) zg ?_; intro gb hg w1 hbox hb; have hq : w1.cell? ⟨gb, 0, none⟩ = some (.slice A0 l0.length c0) := zc hbox; have n_ := y2 (below_step HB.out hb) hbox; clear HB; obtain ⟨HB, BK⟩ := n_; clear hb hbox hg) | (go_at_call 36; refine (E1.out _ HB.out).mono ?_; rintro e w' ⟨rfl, hb⟩; have n_ := y2 (below_step HB.out hb) (blk_below BK.out hb); clear HB BK hb; obtain ⟨HB, BK⟩ := n_; have hq_ := zc BK.out) | (go_at_call 37; refine (E2.out _ HB.out).mono ?_; rintro e w' ⟨rfl, hb⟩; have n_ := y2 (below_step HB.out hb) (blk_below BK.out hb); clear HB BK hb; obtain ⟨HB, BK⟩ := n_; have hq_ := zc BK.out) | (go_at_call 38; refine (E3.out _ HB.out).mono ?_; rintro e w' ⟨rfl, hb⟩; have n_ := y2 (below_step HB.out hb) (blk_below BK.out hb); clear HB BK hb; obtain ⟨HB, BK⟩ := n_; have hq_ := zc BK.out) | ((with_reducible refine gate_dst (N := 20) rfl ?_); refine Kd.R_lit ckd _ 63 ?hg (N := 20) ?hd (xs := ([] : List (Int × Int))) (inner := []) (ok := fun _ => True) (okp := fun _ => True) ?hr ?hp (fun _ hk => hk) trivial (Below.refl _ _) (Nat.le_refl _) (by simp) ?_; (case hd => rfl); (case hg => rfl); (case hr => first | (go_simp; done) | (go_simp; rfl)); (case hp => exact (Reps.none _ _)); intro v20 w3 ho hb hg_ hnew_; have n_ := y3 (Kd.R_lower ho (below_size HB.out)) (below_step HB.out hb) (blk_below BK.out hb); clear HB BK; obtain ⟨HO, HB, BK⟩ := n_; clear ho hb hg_ hnew_) | (go_at_call 39; refine (E4.out _ v20 HB.out HO.out).mono ?_; rintro e w' ⟨v21, rfl, hR, hb⟩; have n_ := y3 (below_step HB.out hb) (blk_below BK.out hb) hR; clear HB BK hb HO hR; obtain ⟨HB, BK, HO⟩ := n_))
          go_ret2
          exact ⟨_, rfl, Kd.R_nil _ _ _ _ _, HB.out⟩
        | some q =>
          simp only [Option.isSome_some, Option.getD_some] at E4 ⊢
          go_enter Try.func14, Try.ntmps14
          go_wp2_with (first | ((with_reducible refine gate_dst (N := 1) rfl ?_); refine box_event zr (N := 1) zr (cs := #[.slice A0 l0.length c0]) (t := 38) zg ?_; intro gb hg w1 hbox hb; have hq : w1.cell? ⟨gb, 0, none⟩ = some (.slice A0 l0.length c0) := zc hbox; have n_ := y2 (below_step HB.out hb) hbox; clear HB; obtain ⟨HB, BK⟩ := n_; clear hb hbox hg) | (go_at_call 36; refine (E1.out _ HB.out).mono ?_; rintro e w' ⟨rfl, hb⟩; have n_ := y2 (below_step HB.out hb) (blk_below BK.out hb); clear HB BK hb; obtain ⟨HB, BK⟩ := n_; have hq_ := zc BK.out) | (go_at_call 37; refine (E2.out _ HB.out).mono ?_; rintro e w' ⟨rfl, hb⟩; have n_ := y2 (below_step HB.out hb) (blk_below BK.out hb); clear HB BK hb; obtain ⟨HB, BK⟩ := n_; have hq_ := zc BK.out) | (go_at_call 38; refine (E3.out _ HB.out).mono ?_; rintro e w' ⟨rfl, hb⟩; have n_ := y2 (below_step HB.out hb) (blk_below BK.out hb); clear HB BK hb; obtain ⟨HB, BK⟩ := n_; have hq_ := zc BK.out) | ((with_reducible refine gate_dst (N := 20) rfl ?_); refine Kd.R_lit ckd _ 63 ?hg (N := 20) ?hd (xs := ([] : List (Int × Int))) (inner := []) (ok := fun _ => True) (okp := fun _ => True) ?hr ?hp (fun _ hk => hk) trivial (Below.refl _ _) (Nat.le_refl _) (by simp) ?_; (case hd => rfl); (case hg => rfl); (case hr => first | (go_simp; done) | (go_simp; rfl)); (case hp => exact (Reps.none _ _)); intro v20 w3 ho hb hg_ hnew_; have n_ := y3 (Kd.R_lower ho (below_size HB.out)) (below_step HB.out hb) (blk_below BK.out hb); clear HB BK; obtain ⟨HO, HB, BK⟩ := n_; clear ho hb hg_ hnew_) | (go_at_call 39; refine (E4.out _ v20 HB.out HO.out).mono ?_; rintro e w' ⟨v21, rfl, hR, hb⟩; have n_ := y3 (below_step HB.out hb) (blk_below BK.out hb) hR; clear HB BK hb HO hR; obtain ⟨HB, BK, HO⟩ := n_))
          go_ret2
          exact ⟨_, rfl, HO.out, HB.out⟩
end Go.Proofs.Ytnmpjikiodnmnaa.P
end
section
namespace Go.Proofs.Ytnmpjikiodnmnaa.P
open Go.RowKit Go.Proofs.YtnmpjikiodnmnaaW.PrintWords Go.Proofs.YtnmpjikiodnmnaaW.PrintLast Go.Proofs.YtnmpjikiodnmnaaW.PrintMore
attribute [local go_sem] max2_int min2_int max_two min_two max_three min_three max_four min_four   -- for this text's walks alone
set_option linter.unusedVariables false
set_option linter.unusedSimpArgs false
def slices_Clone_Class.f (l0 : List (Int × Int)) : Option (List (Int × Int)) := if l0.length < 8000000000000 then some l0 else none
set_option maxHeartbeats 8000000 in
set_option maxRecDepth 100000 in
theorem slices_Clone_Class.calls (A0 : Option Addr) (c0 : Nat) (l0 : List (Int × Int)) (r : List (Int × Int)) (w : World) (hr0 : Kd.C ckd w A0 l0.length l0) (hc0 : l0.length ≤ c0) (h : slices_Clone_Class.f l0 = some r) :
    Calls Try.prog 54 #[.slice A0 l0.length c0] w fun e w' => ∃ v0_ : Value, e = .returned (v0_) ∧ Kd.R ckd 63 w' w.heap.size (fun _ => True) v0_ r ∧ Below w.heap.size w w' := by
  have hnil := fun (W : World) (a : Option Addr) (n c : Nat) => Lib.run_eql_slice_nil (P := Try.prog) W 35 63 a n c 0 0 Try.underlying35
  unfold slices_Clone_Class.f at h
  by_cases c1 : l0.length < 8000000000000
  · rw [if_pos c1] at h
    obtain rfl := Option.some.inj h
    clear h
    have HR0 := Aside0.mk hr0
    have HC0 := Aside0.mk hc0
    have LM := Aside0.mk c1
    have HB := Aside0.mk (Below.refl w.heap.size w)
    cases A0 with
    | none =>
      have h0 : l0 = [] := by
        rcases Nat.eq_zero_or_pos l0.length with h | h
        · exact List.eq_nil_of_length_eq_zero h
        · obtain ⟨ad, e, _⟩ := hr0.2.2 h
          cases e
      subst h0
      clear hr0 hc0 c1
      go_enter Try.func54, Try.ntmps54
      go_wp2
      go_ret
      exact ⟨_, rfl, Kd.R_nil _ _ _ _ _, HB.out⟩
    | some ad =>
      clear hr0 hc0 c1
      go_enter Try.func54, Try.ntmps54
      go_wp2_with (first | ((with_reducible refine gate_dst (N := 5) rfl ?_); refine Kd.R_lit ckd _ 63 ?hg (N := 5) ?hd (xs := ([] : List (Int × Int))) (inner := []) (ok := fun _ => True) (okp := fun _ => True) ?hr ?hp (fun _ hk => hk) trivial (Below.refl _ _) (Nat.le_refl _) (by simp) ?_; (case hd => rfl); (case hg => rfl); (case hr => first | (go_simp; done) | (go_simp; rfl)); (case hp => exact (Reps.none _ _)); intro v109 w3 ho4 hb hg_ hnew_; clear hg_ hnew_; have n_ := y2 (Kd.R_lower ho4 (below_size (zB))) (below_step (zB) hb); clear HB; obtain ⟨HO110, HB⟩ := n_; clear hb ho4) | ((with_reducible refine gate_builtin (b := .append) (xs := #[.tmp 5, .tmp 6]) rfl ?_); at_builtin; refine Kd.R_append_rows ckd (w0 := w) w.heap.size rfl (.tmp 5) (.tmp 6) 35 63 (.agg #[.int .i64 0, .int .i64 0]) 16 rfl Try.underlying35 zk rfl (by decide) (by omega) v109 [] l0 _ _ _ (fun _ => True) (fun _ => False) rfl rfl ?aO ?aR (fun _ _ h => h) (fun _ h => h.elim) ?aF ?aB ?aS ?aL ?_; (case aR => repeat (first | exact (Kd.C_below HR0.out HB.out) | (with_reducible refine Kd.C_alloc ?_ _) | (with_reducible refine Kd.C_drewN ?_ _) | (with_reducible refine Kd.C_drew ?_))); (case aB => exact (zB)); (case aF => exact (fun _ _ => trivial)); (case aO => exact (zR HO110.out)); (case aS => exact (below_size (zB))); (case aL => have := LM.out; simp only [List.length_nil]; omega); intro v112 w5 ho hb hg hat; rw [List.nil_append] at ho; have n_ := y2 (hb) (ho); clear HB HO110; obtain ⟨HB, HO113⟩ := n_; clear ho hb hg hat))
      go_ret
      exact ⟨_, rfl, zR HO113.out, zB⟩
  · rw [if_neg c1] at h
    exact absurd h (by simp)
end Go.Proofs.Ytnmpjikiodnmnaa.P
end
section
namespace Go.Proofs.Ytnmpjikiodnmnaa.P
open Go.RowKit Go.Proofs.YtnmpjikiodnmnaaW.PrintWords Go.Proofs.YtnmpjikiodnmnaaW.PrintLast Go.Proofs.YtnmpjikiodnmnaaW.PrintMore
attribute [local go_sem] max2_int min2_int max_two min_two max_three min_three max_four min_four   -- for this text's walks alone
set_option linter.unusedVariables false
set_option linter.unusedSimpArgs false
set_option maxHeartbeats 4000000 in
set_option maxRecDepth 100000 in
theorem impl_FirstRests_1.calls (gb : Nat) (A : Option Addr) (n c : Nat) (u : Value) (w : World) (hb : w.heap[gb]? = some (.cells #[u] 35 (0, 0))) :
    Calls Try.prog 43 #[.slice A n c, .pointer (some ⟨gb, 0, none⟩)] w fun e w' => e = .returned (.bool true) ∧ w' = w.setCell ⟨gb, 0, none⟩ (.slice A n c) := by
  have hc := zc hb
  have hf := blk_frozen hb 0
  clear hb
  go_enter Try.func43, Try.ntmps43
  go_wp2
  go_ret
  exact ⟨rfl, rfl⟩
end Go.Proofs.Ytnmpjikiodnmnaa.P
end
section
namespace Go.Proofs.Ytnmpjikiodnmnaa.P
open Go.RowKit Go.Proofs.YtnmpjikiodnmnaaW.PrintWords Go.Proofs.YtnmpjikiodnmnaaW.PrintLast Go.Proofs.YtnmpjikiodnmnaaW.PrintMore
attribute [local go_sem] max2_int min2_int max_two min_two max_three min_three max_four min_four   -- for this text's walks alone
set_option linter.unusedVariables false
set_option linter.unusedSimpArgs false
end Go.Proofs.Ytnmpjikiodnmnaa.P
end
