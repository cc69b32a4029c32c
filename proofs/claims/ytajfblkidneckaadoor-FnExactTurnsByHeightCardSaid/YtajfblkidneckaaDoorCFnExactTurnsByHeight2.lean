/- The program's TurnsByHeight returns what the reference's returns, for all gardens. -/
import Derived.Test.YtajfblkidneckaaDoorCFnExactTurnsByHeight1
import Derived.ArgAppend
import Derived.Below
import Derived.BigQuiet
import Derived.Carry
import Derived.ChangeArms
import Derived.ChangeOld
import Derived.ChangeSame
import Derived.Deep.AppendLies
import Derived.Deep.CutBlock
import Derived.Deep.DeepCutAuto
import Derived.Deep.Draws
import Derived.Deep.Fields
import Derived.Deep.LoopGhost
import Derived.Deep.OwnRows
import Derived.Deep.QuietTactic
import Derived.Deep.RegionHeld3
import Derived.Deep.Slices
import Derived.KernelRfl
import Derived.LaidMore
import Derived.LaidSub
import Derived.Laws.BitsLemmas
import Derived.Laws.BytesArg
import Derived.Laws.IdiomCopy
import Derived.Laws.MakeOwn
import Derived.Laws.OwnMore
import Derived.Laws.Rows
import Derived.Laws.Slices
import Derived.Lib.AppendIntMem
import Derived.Lib.AppendStr
import Derived.Lib.ConvBytes
import Derived.Lib.ItoaLen
import Derived.Lib.Join
import Derived.Lib.LaidTab
import Derived.Lib.SliceRun
import Derived.Lib.SmallJoins
import Derived.MakeChecks
import Derived.Maps.AppendAt
import Derived.Maps.OwnSet
import Derived.OpenShut
import Derived.OrdersHeld
import Derived.OwnWalk
import Derived.ProofKit
import Derived.RowKit
import Derived.RowKit3
import Derived.SevenTiedAt
import Derived.Shelf.Abstract
import Derived.Shelf.LaysM
import Derived.Shelf.Strconv.Itoa4
import Derived.Shelf.Strings.OnBuilder
import Derived.ShutString
import Derived.SizedLaws
import Derived.Stop.Joined
import Derived.Tactics
import Derived.Test.YtajfblkidneckaaDoorProg
import Derived.WalkKit
import Derived.WideLaws
import Derived.WideShapes
section
namespace Go.Proofs.YtajfblkidneckaaDoor.P
open Go.ChangeShapes Go.WideShapes Go.RowKit Go.Deep Go.Proofs.YtajfblkidneckaaDoorW.PrintWords Go.Proofs.YtajfblkidneckaaDoorW.PrintLast Go.Proofs.YtajfblkidneckaaDoorW.PrintMore
set_option linter.unusedVariables false
def okInt (k : IntKind) (n : Int) : Prop := (Lit.int k n).wf = true
def okRow {α : Type} (S : α → Prop) (l : List α) : Prop := l.length ≤ maxLen ∧ ∀ x ∈ l, S x
/-- Whatever reads as data of type T is a value of kind d, as S says. -/
def Opens (P : Program) {α : Type} (d : Kd α) (S : α → Prop) (T : TypeId) : Prop :=
  ∀ (H : Type) (enc : TypeId × Value → H) (w : World) (base : Nat) (spare : Nat → Bool) (held : Bool) (fuel : Nat) (cs : List Value) (x : DataW H × List MemPlace),
    DataW.trod enc P w base spare held fuel T cs = some x → ∃ a : α, d.K w a cs ∧ S a
theorem opens_int {P : Program} {k : IntKind} {T : TypeId} (h : P.underlying T = some (.int k)) : Opens P (Kd.int k) (okInt k) T := by
  intro H enc w base spare held fuel cs x hx
  obtain ⟨n, rfl, _, hw⟩ := DataW.trod_int h hx
  exact ⟨n, rfl, hw⟩
theorem opens_slice {P : Program} {α : Type} {d : Kd α} {S : α → Prop} {T E : TypeId} (hd : Opens P d S E) (ht : P.underlying T = some (.slice E)) (hc : P.cellsOf E = 1) (hs : d.sz = 1) : Opens P (Kd.slice E d) (okRow S) T := by
  intro H enc w base spare held fuel cs x hx
  rcases open_slice1 ht hc hx with ⟨rfl, _⟩ | ⟨a, len, cap, m, n, V, D, Pl, rfl, hb, hl, hm, hmm, _, hV⟩
  · exact ⟨[], ⟨none, 0, rfl, by simp, rfl, by simp, fun h => absurd h (by simp)⟩, by simp [okRow]⟩
  · have hlm : len ≤ m := by rw [hmm]; split <;> omega
    have each : ∀ i, i < len → ∃ y : α, d.K w y [V i] ∧ S y := fun i hi => hd H enc w base spare held n [V i] _ (hV i (by omega)).2
    have : ∀ n, n ≤ len → ∃ l : List α, l.length = n ∧ (∀ j p, l[j]? = some p → d.K w p [V j] ∧ S p) := by
      intro n
      induction n with
      | zero => intro _; exact ⟨[], rfl, fun j p h => by simp at h⟩
      | succ n ih =>
        intro hn
        obtain ⟨l, hl1, hl2⟩ := ih (by omega)
        obtain ⟨y, hy⟩ := each n (by omega)
        refine ⟨l ++ [y], by simp [hl1], fun j p hj => ?_⟩
        rcases Nat.lt_or_ge j l.length with h | h
        · rw [List.getElem?_append_left h] at hj
          exact hl2 j p hj
        · have hj2 := (List.getElem?_eq_some_iff.1 hj).1
          simp at hj2
          have : j = l.length := by omega
          subst this
          have hp : y = p := by simpa using hj
          subst hp
          rw [hl1]
          exact hy
    obtain ⟨l, hl1, hl2⟩ := this len (Nat.le_refl _)
    have hmax : len ≤ 9223372036854775807 := by unfold maxLen at hm; omega
    refine ⟨l, ⟨some a, cap, by rw [hl1], by omega, rfl, by omega, fun _ => ⟨a, rfl, fun j p hj => ⟨[V j], by rw [hs]; rfl, (hl2 j p hj).1, fun i u hu => ?_⟩⟩⟩, by omega, fun y hy => ?_⟩
    · have hj2 := (List.getElem?_eq_some_iff.1 hj).1
      have hi : i = 0 := by
        have := (List.getElem?_eq_some_iff.1 hu).1
        simpa using this
      subst hi
      have : V j = u := by simpa using hu
      rw [hs, Nat.mul_one, Nat.add_zero, ← this]
      exact (hV j (by omega)).1
    · obtain ⟨j, hj⟩ := List.getElem?_of_mem hy
      exact (hl2 j y hj).2
section
variable {H : Type} {enc : TypeId × Value → H} {P : Program} {w : World} {base : Nat} {spare : Nat → Bool} {held : Bool}
/-- A field that is a slice. -/
theorem open_cell {α : Type} {d : Kd α} {S : α → Prop} {T : TypeId} {fuel : Nat} {c : Value} {x : DataW H × List MemPlace} (hd : Opens P d S T) (h : DataW.trod enc P w base spare held fuel T [c] = some x) : ∃ a : α, d.K w a [c] ∧ S a :=
  hd H enc w base spare held fuel [c] x h
theorem row_cell {α : Type} {d : Kd α} {e : Nat} {w : World} {l : List α} {c : Value} (h : (Kd.slice e d).K w l [c]) : ∃ (A : Option Addr) (n : Nat), c = .slice A l.length n ∧ l.length ≤ n ∧ d.C w A l.length l := by
  obtain ⟨A, n, he, hl, hr⟩ := h
  exact ⟨A, n, by simpa using he, hl, hr⟩
theorem agg1 {r : Reach} {b0 : Nat} {t : TypeId} {f0 : Field} {v : Value} {d : DataW H} {p : List MemPlace} (hs : P.underlying t = some (.struct #[f0])) (hone : oneCellFields P #[f0] = true) (hC : P.cellsOf t = 1)
    (hv : Value.okWide P w r b0 t v) (h : DataW.Trod enc P w base spare held t v d p) :
    ∃ (v0 : Value) (y0 : DataW H × List MemPlace) (n : Nat), v = .agg #[v0] ∧ DataW.trod enc P w base spare held n f0.type [v0] = some y0 := by
  obtain ⟨cs, rfl, hsz⟩ := okWide_struct hs hv
  obtain ⟨c0, rfl⟩ : ∃ c0, cs = #[c0] := by
    have h1 : cs.size = 1 := hsz.trans hC
    obtain ⟨l⟩ := cs
    match l, h1 with
    | [c], _ => exact ⟨c, rfl⟩
  obtain ⟨fuel, hf⟩ := h
  obtain ⟨xs, n, _, hx, hl, hlen, hfld⟩ := DataW.trod_struct hs hf
  match xs, hlen with
  | [y0], _ =>
    obtain ⟨o0, k0⟩ := hone_of hone 0 f0 rfl
    have h0 := hfld 0 f0 rfl
    rw [o0, k0] at h0
    exact ⟨c0, y0, n, rfl, by simpa [Value.cells] using h0⟩
end
end Go.Proofs.YtajfblkidneckaaDoor.P
end
section
namespace Go.Proofs.YtajfblkidneckaaDoor.P
open Go.RowKit Go.Proofs.YtajfblkidneckaaDoorW.PrintWords Go.Proofs.YtajfblkidneckaaDoorW.PrintLast Go.Proofs.YtajfblkidneckaaDoorW.PrintMore
attribute [local go_sem] max2_int min2_int max_two min_two max_three min_three max_four min_four   -- for this text's walks alone
set_option linter.unusedVariables false
set_option linter.unusedSimpArgs false
def errW : Option Int → Value
  | none => .nilIface
  | some c => .iface 0 (.int .i64 c)
theorem errW_none : errW none = .nilIface := rfl
theorem errW_some (c : Int) : errW (some c) = .iface 0 (.int .i64 c) := rfl
theorem info2 : (Tryd.prog.info? 2).map (fun i => (i.zero, i.size, i.bytes)) = some (some (.int .i64 0), 1, 8) := by kernel_rfl
theorem info22 : (Tryd.prog.info? 22).map (fun i => (i.zero, i.size, i.bytes)) = some (some (.slice none 0 0), 1, 24) := by kernel_rfl
def rd_L1 (xs : List (List Int)) (i : Int) : (List Int) := xs.getD i.toNat ([] : List Int)
theorem at_L1 {w : World} {A : Option Addr} {n : Nat} {xs : List (List Int)} (h : Kd.C (Kd.slice 2 (Kd.int .i64)) w A n xs) (i : Int) (h0 : 0 ≤ i) (h1 : i < n) : ∃ ad A0 c0, A = some ad ∧ w.cell? (ad.add i.toNat) = some (.slice A0 (rd_L1 xs i).length c0) ∧ (rd_L1 xs i).length ≤ c0 ∧ (Kd.int .i64).C w A0 (rd_L1 xs i).length (rd_L1 xs i) := by
  obtain ⟨ad, c, e, _, hK, hc0⟩ := Kd.C_get h ([] : List Int) i h0 h1
  have hc : ∀ j u, c[j]? = some u → w.cell? (ad.add (i.toNat * 1 + j)) = some u := hc0
  obtain ⟨A0, c0, rfl, l0, g0⟩ := hK
  exact ⟨ad, A0, c0, e, by have hq := hc 0 _ rfl; rwa [Nat.mul_one, Nat.add_zero] at hq, l0, g0⟩
end Go.Proofs.YtajfblkidneckaaDoor.P
end
section
namespace Go.Proofs.YtajfblkidneckaaDoor.P
open Go.RowKit Go.Proofs.YtajfblkidneckaaDoorW.PrintWords Go.Proofs.YtajfblkidneckaaDoorW.PrintLast Go.Proofs.YtajfblkidneckaaDoorW.PrintMore
theorem zA {p : Prop} (h : p := by (try simp only [List.map_toArray, List.map_cons, List.map_nil]); first | done | rfl | (simp only [List.length_drop, List.length_take]; rfl)) : p := h
theorem zB {p : Prop} (h : p := by repeat (first | (with_reducible first | exact HB.out | apply below_alloc | apply pw_below_drewN | apply below_drew1 | refine below_set ?_ (IsS0.ge HI0.out) | refine below_set ?_ (Aside0.out (by assumption : Aside0 (w0.heap.size ≤ _))) | refine below_set ?_ (Aside0.out (by assumption : Aside0 (w.heap.size ≤ _)))) | exact HB.out)) : p := h
theorem zJ {p : Prop} (h : p := by repeat (first | (with_reducible first | exact HK.out | apply Kept.alloc | apply Kept.drewN | apply Kept.drew | refine Kept.setCell ?_ (.inl (.inr rfl)) _ | refine Kept.setCell ?_ (.inr (Aside0.out (by assumption : Aside0 (w.heap.size ≤ _)))) _) | exact HK.out)) : p := h
theorem zG {p q : Prop} (b : p) (h : p → q := by intro b_; (with_reducible repeat (first | refine blk_drewN ?_ _ | refine blk_drew ?_ | refine blk_alloc ?_ _)); exact b_) : q := h b
theorem zR {p q : Prop} (b : p) (h : p → q := by intro b_; (with_reducible repeat (first | apply Kd.R_alloc | apply Kd.R_drewN | apply Kd.R_drew)); exact b_) : q := h b
theorem zC {p q : Prop} (b : p) (h : p → q := by intro b_; repeat (first | exact b_ | (with_reducible refine Kd.C_alloc ?_ _) | (with_reducible refine Kd.C_drewN ?_ _) | (with_reducible refine Kd.C_drew ?_))) : q := h b
theorem zD {p : Prop} [Decidable p] (h : decide p = true := by first | (with_reducible assumption) | assumption) : p := of_decide_eq_true h
theorem zH {α : Type} {a b : α} {q : Prop} (e : a = b) (h : a = b → q := by intro e_; first | (rw [e_]; with_reducible exact H) | (have H2_ := (Option.bind_some _ _).symm.trans H; rw [e_]; with_reducible exact H2_) | (have H2_ := (Option.bind_some _ _).symm.trans H; with_reducible exact H2_) | with_reducible exact H | (rw [e_]; exact H) | exact H) : q := h e
theorem zE {p : Prop} (h : p := by first | rfl | (simp [errW_none, errW_some] <;> rfl) | (simp [*, errW_none, errW_some] <;> rfl)) : p := h
theorem zF {p : Prop} (h : p := by first | rfl | (simp; done) | (simp [*]; done)) : p := h
theorem zN {p : Prop} (h : p := by first | exact Kd.R_nil _ _ _ _ _ | exact Kd.N_nil _ _ _ _ _ | exact Kd.V_nil _ _ _ _ _ | exact Kd.Q_nil _ _ _ _ _ | exact Kd.S_nil _ _ _ _ _) : p := h
theorem zS {a b c : Nat} (e : b = c) (h : a ≤ c := by exact (below_size zB)) : a ≤ b := e.symm ▸ h
theorem zL {p : Prop} {a b c : Nat} (e : b = c) (k : p) (h : p → a < c := by intro k_; exact blk_lt (zG k_)) : a ≠ b := by have := h k; omega
theorem zM {p : Prop} {a b c : Nat} (e : b = c) (k : p) (h : p → a < c := by intro k_; exact blk_lt (zG k_)) : b ≠ a := by have := h k; omega
theorem zr {p : Prop} (h : p := by rfl) : p := h
theorem zk {p : Prop} (h : p := by kernel_rfl) : p := h
theorem zg {p : Prop} (h : p := by first | (go_simp; done) | (go_simp; rfl)) : p := h
theorem zc {w : World} {g : Nat} {v : Value} {t : TypeId} (h : w.heap[g]? = some (.cells #[v] t (0, 0))) : w.cell? ⟨g, 0, none⟩ = some v := (blk_cell h 0).trans rfl
theorem zb {p : Prop} {w w' : World} {g : Nat} {o : Obj} (b : p) (hb : Below w.heap.size w w') (h : p → w.heap[g]? = some o := by intro b_; exact zG b_) : w'.heap[g]? = some o := blk_below (h b) hb
theorem zp {p : Prop} (h : p := by (intro w'; go_simp; with_reducible rfl)) : p := h
theorem zq {p : Prop} (h : p := by (simp only [Act.put, List.setIfInBounds_toArray, List.set_cons_zero, List.set_cons_succ, i64_w, i32_w]; rfl)) : p := h
theorem y2 {a b : Prop} (xa : a) (xb : b) : Aside0 a ∧ Aside0 b := ⟨⟨xa⟩, ⟨xb⟩⟩
theorem y3 {a b c : Prop} (xa : a) (xb : b) (xc : c) : Aside0 a ∧ Aside0 b ∧ Aside0 c := ⟨⟨xa⟩, ⟨xb⟩, ⟨xc⟩⟩
theorem y4 {a b c d : Prop} (xa : a) (xb : b) (xc : c) (xd : d) : Aside0 a ∧ Aside0 b ∧ Aside0 c ∧ Aside0 d := ⟨⟨xa⟩, ⟨xb⟩, ⟨xc⟩, ⟨xd⟩⟩
theorem y5 {a b c d e : Prop} (xa : a) (xb : b) (xc : c) (xd : d) (xe : e) : Aside0 a ∧ Aside0 b ∧ Aside0 c ∧ Aside0 d ∧ Aside0 e := ⟨⟨xa⟩, ⟨xb⟩, ⟨xc⟩, ⟨xd⟩, ⟨xe⟩⟩
theorem y6 {a b c d e f : Prop} (xa : a) (xb : b) (xc : c) (xd : d) (xe : e) (xf : f) : Aside0 a ∧ Aside0 b ∧ Aside0 c ∧ Aside0 d ∧ Aside0 e ∧ Aside0 f := ⟨⟨xa⟩, ⟨xb⟩, ⟨xc⟩, ⟨xd⟩, ⟨xe⟩, ⟨xf⟩⟩
theorem y7 {a b c d e f g : Prop} (xa : a) (xb : b) (xc : c) (xd : d) (xe : e) (xf : f) (xg : g) : Aside0 a ∧ Aside0 b ∧ Aside0 c ∧ Aside0 d ∧ Aside0 e ∧ Aside0 f ∧ Aside0 g := ⟨⟨xa⟩, ⟨xb⟩, ⟨xc⟩, ⟨xd⟩, ⟨xe⟩, ⟨xf⟩, ⟨xg⟩⟩
theorem y8 {a b c d e f g h : Prop} (xa : a) (xb : b) (xc : c) (xd : d) (xe : e) (xf : f) (xg : g) (xh : h) : Aside0 a ∧ Aside0 b ∧ Aside0 c ∧ Aside0 d ∧ Aside0 e ∧ Aside0 f ∧ Aside0 g ∧ Aside0 h := ⟨⟨xa⟩, ⟨xb⟩, ⟨xc⟩, ⟨xd⟩, ⟨xe⟩, ⟨xf⟩, ⟨xg⟩, ⟨xh⟩⟩
theorem y9 {a b c d e f g h i : Prop} (xa : a) (xb : b) (xc : c) (xd : d) (xe : e) (xf : f) (xg : g) (xh : h) (xi : i) : Aside0 a ∧ Aside0 b ∧ Aside0 c ∧ Aside0 d ∧ Aside0 e ∧ Aside0 f ∧ Aside0 g ∧ Aside0 h ∧ Aside0 i := ⟨⟨xa⟩, ⟨xb⟩, ⟨xc⟩, ⟨xd⟩, ⟨xe⟩, ⟨xf⟩, ⟨xg⟩, ⟨xh⟩, ⟨xi⟩⟩
theorem y10 {a b c d e f g h i j : Prop} (xa : a) (xb : b) (xc : c) (xd : d) (xe : e) (xf : f) (xg : g) (xh : h) (xi : i) (xj : j) : Aside0 a ∧ Aside0 b ∧ Aside0 c ∧ Aside0 d ∧ Aside0 e ∧ Aside0 f ∧ Aside0 g ∧ Aside0 h ∧ Aside0 i ∧ Aside0 j := ⟨⟨xa⟩, ⟨xb⟩, ⟨xc⟩, ⟨xd⟩, ⟨xe⟩, ⟨xf⟩, ⟨xg⟩, ⟨xh⟩, ⟨xi⟩, ⟨xj⟩⟩
end Go.Proofs.YtajfblkidneckaaDoor.P
end
section
namespace Go.Proofs.YtajfblkidneckaaDoor.P
open Go.RowKit Go.Proofs.YtajfblkidneckaaDoorW.PrintWords Go.Proofs.YtajfblkidneckaaDoorW.PrintLast Go.Proofs.YtajfblkidneckaaDoorW.PrintMore
attribute [local go_sem] max2_int min2_int max_two min_two max_three min_three max_four min_four   -- for this text's walks alone
set_option linter.unusedVariables false
set_option linter.unusedSimpArgs false
def slices_Clone_Sint64_int64.f (l0 : List Int) : Option (List Int) := if l0.length < 17592186044416 then some l0 else none
set_option maxHeartbeats 8000000 in
set_option maxRecDepth 100000 in
theorem slices_Clone_Sint64_int64.calls (A0 : Option Addr) (c0 : Nat) (l0 : List Int) (r : List Int) (w : World) (hr0 : Kd.C (Kd.int .i64) w A0 l0.length l0) (hc0 : l0.length ≤ c0) (h : slices_Clone_Sint64_int64.f l0 = some r) :
    Calls Tryd.prog 35 #[.slice A0 l0.length c0] w fun e w' => ∃ v0_ : Value, e = .returned (v0_) ∧ Kd.R (Kd.int .i64) 2 w' w.heap.size (fun _ => True) v0_ r ∧ Below w.heap.size w w' := by
  have hnil := fun (W : World) (a : Option Addr) (n c : Nat) => Lib.run_eql_slice_nil (P := Tryd.prog) W 22 2 a n c 0 0 Tryd.underlying22
  unfold slices_Clone_Sint64_int64.f at h
  by_cases c1 : l0.length < 17592186044416
  · rw [if_pos c1] at h
    obtain rfl := Option.some.inj h
    clear h
    have HR0 := Aside0.mk hr0
    have HC0 := Aside0.mk hc0
    have LM := Aside0.mk c1
    have HB := Aside0.mk (Below.refl w.heap.size w)
    cases A0 with
    | none =>
      have h0 : l0 = [] := by
        rcases Nat.eq_zero_or_pos l0.length with h | h
        · exact List.eq_nil_of_length_eq_zero h
        · obtain ⟨ad, e, _⟩ := hr0.2.2 h
          cases e
      subst h0
      clear hr0 hc0 c1
      go_enter Tryd.func35, Tryd.ntmps35
      go_wp2
      go_ret
      exact ⟨_, rfl, Kd.R_nil _ _ _ _ _, HB.out⟩
    | some ad =>
      clear hr0 hc0 c1
      go_enter Tryd.func35, Tryd.ntmps35
      go_wp2_with (first | ((with_reducible refine gate_dst (N := 5) rfl ?_); refine Kd.R_lit (Kd.int .i64) _ 2 ?hg (N := 5) ?hd (xs := ([] : List Int)) (inner := []) (ok := fun _ => True) (okp := fun _ => True) ?hr ?hp (fun _ hk => hk) trivial (Below.refl _ _) (Nat.le_refl _) (by simp) ?_; (case hd => rfl); (case hg => rfl); (case hr => first | (go_simp; done) | (go_simp; rfl)); (case hp => exact (Reps.none _ _)); intro v109 w3 ho4 hb hg_ hnew_; clear hg_ hnew_; have n_ := y2 (Kd.R_lower ho4 (below_size (zB))) (below_step (zB) hb); clear HB; obtain ⟨HO110, HB⟩ := n_; clear hb ho4) | ((with_reducible refine gate_builtin (b := .append) (xs := #[.tmp 5, .tmp 6]) rfl ?_); at_builtin; refine Kd.R_append_rows (Kd.int .i64) (w0 := w) w.heap.size rfl (.tmp 5) (.tmp 6) 22 2 (.int .i64 0) 8 rfl Tryd.underlying22 zk rfl (by decide) (by omega) v109 [] l0 _ _ _ (fun _ => True) (fun _ => False) rfl rfl ?aO ?aR (fun _ _ h => h) (fun _ h => h.elim) ?aF ?aB ?aS ?aL ?_; (case aR => repeat (first | exact (Kd.C_below HR0.out HB.out) | (with_reducible refine Kd.C_alloc ?_ _) | (with_reducible refine Kd.C_drewN ?_ _) | (with_reducible refine Kd.C_drew ?_))); (case aB => exact (zB)); (case aF => exact (fun _ _ => trivial)); (case aO => exact (zR HO110.out)); (case aS => exact (below_size (zB))); (case aL => have := LM.out; simp only [List.length_nil]; omega); intro v112 w5 ho hb hg hat; rw [List.nil_append] at ho; have n_ := y2 (hb) (ho); clear HB HO110; obtain ⟨HB, HO113⟩ := n_; clear ho hb hg hat))
      go_ret
      exact ⟨_, rfl, zR HO113.out, zB⟩
  · rw [if_neg c1] at h
    exact absurd h (by simp)
end Go.Proofs.YtajfblkidneckaaDoor.P
end
section
namespace Go.Proofs.YtajfblkidneckaaDoor.P
open Go.RowKit Go.Proofs.YtajfblkidneckaaDoorW.PrintWords Go.Proofs.YtajfblkidneckaaDoorW.PrintLast Go.Proofs.YtajfblkidneckaaDoorW.PrintMore
attribute [local go_sem] max2_int min2_int max_two min_two max_three min_three max_four min_four   -- for this text's walks alone
set_option linter.unusedVariables false
set_option linter.unusedSimpArgs false
def impl_Garden_grown.l0 : Nat → Int → List Int → List Int → Int → Int → Option (List Int)
  | 0, _, _, _, _, _ => none
  | k + 1, x2, x7, x13, x14, x15 => if x15 < x14 then (if 0 ≤ x15 then (if x15 < (x13.length : Int) then (if x15 < (x7.length : Int) then (impl_Garden_grown.l0 k x2 (x7.set (x15 : Int).toNat (wrap64 ((rd x7 x15) + (wrap64 ((rd x13 x15) * x2))))) x13 x14 (wrap64 (x15 + 1))) else (none)) else (none)) else (none)) else (some x7)
def impl_Garden_grown.f (k : Nat) (l0_0 : List Int) (l1 : List Int) (a2 : Int) : Option (List Int) := (slices_Clone_Sint64_int64.f l1).bind fun t102 => (impl_Garden_grown.l0 k a2 t102 l0_0 (l0_0.length : Int) 0)
theorem impl_Garden_grown.mono_l : ∀ k, (∀ y0 y1 y2 y3 y4, LeO (impl_Garden_grown.l0 k y0 y1 y2 y3 y4) (impl_Garden_grown.l0 (k + 1) y0 y1 y2 y3 y4))
  | 0 => fun _ _ _ _ _ r h => by simp [impl_Garden_grown.l0] at h
  | k + 1 => by
    have ih0 := impl_Garden_grown.mono_l k
    · intro y0 y1 y2 y3 y4
      unfold impl_Garden_grown.l0
      repeat' first | (with_reducible exact ih0 _ _ _ _ _) | (with_reducible exact LeO.refl _) | (with_reducible exact LeO.none _) | (with_reducible refine LeO.ite ?_ ?_) | (with_reducible refine LeO.bind ?_ (fun _ => ?_)) | exact ih0 _ _ _ _ _ | exact LeO.none _ | refine LeO.ite ?_ ?_ | refine LeO.bind ?_ (fun _ => ?_)
theorem impl_Garden_grown.mono : ∀ a0 a1 a2 k, LeO (impl_Garden_grown.f k a0 a1 a2) (impl_Garden_grown.f (k + 1) a0 a1 a2) := by
  intro a0 a1 a2 k
  have ih0 := impl_Garden_grown.mono_l k
  unfold impl_Garden_grown.f
  repeat' first | (with_reducible exact ih0 _ _ _ _ _) | (with_reducible exact LeO.refl _) | (with_reducible exact LeO.none _) | (with_reducible refine LeO.ite ?_ ?_) | (with_reducible refine LeO.bind ?_ (fun _ => ?_)) | exact ih0 _ _ _ _ _ | exact LeO.none _ | refine LeO.ite ?_ ?_ | refine LeO.bind ?_ (fun _ => ?_)
set_option maxHeartbeats 8000000 in
set_option maxRecDepth 100000 in
theorem impl_Garden_grown.calls (k : Nat) (A0_0 : Option Addr) (c0_0 : Nat) (l0_0 : List Int) (A1 : Option Addr) (c1 : Nat) (l1 : List Int) (a2 : Int) (r : List Int) (w : World) (hr0_0 : Kd.C (Kd.int .i64) w A0_0 l0_0.length l0_0) (hc0_0 : l0_0.length ≤ c0_0) (hr1 : Kd.C (Kd.int .i64) w A1 l1.length l1) (hc1 : l1.length ≤ c1) (h : impl_Garden_grown.f k l0_0 l1 a2 = some r) :
    Calls Tryd.prog 45 #[.agg #[.slice A0_0 l0_0.length c0_0], .slice A1 l1.length c1, .int .i64 a2] w fun e w' => ∃ v0_ : Value, e = .returned (v0_) ∧ Kd.R (Kd.int .i64) 2 w' w.heap.size (fun _ => True) v0_ r ∧ Below w.heap.size w w' := by
 have hu28 := Tryd.underlying28
 have HR0_0 := Aside0.mk hr0_0
 have HC0_0 := Aside0.mk hc0_0
 clear hr0_0 hc0_0
 have HR1 := Aside0.mk hr1
 have HC1 := Aside0.mk hc1
 clear hr1 hc1
 have HB := Aside0.mk (Below.refl w.heap.size w)
 have H : ((slices_Clone_Sint64_int64.f l1).bind fun t102 => (impl_Garden_grown.l0 k a2 t102 l0_0 (l0_0.length : Int) 0)) = some r := h
 clear h
 replace H := Option.bind_eq_some_iff.mp H
 obtain ⟨t102, A40, H⟩ := H
 replace H : (impl_Garden_grown.l0 k a2 t102 l0_0 (l0_0.length : Int) 0) = some r := H
 have A4 := Aside0.mk A40
 clear A40
 have H' := Aside0.mk H
 clear H
 go_enter Tryd.func45, Tryd.ntmps45
 go_wp2_with (first | ((with_reducible refine gate_dst (N := 3) rfl ?_); refine box_event zr (N := 3) zr (cs := #[.slice A0_0 l0_0.length c0_0]) (t := 28) zg ?_; intro gb101 hg w5 hbox hb; have n_ := y4 (below_step (zB) hb) (hbox) ((zS hg : w.heap.size ≤ gb101)) ((zS hg : w.heap.size ≤ gb101)); clear HB; obtain ⟨HB, BK101, GW101, GE101⟩ := n_; clear hb hbox hg) | ((with_reducible refine gate_callee (f := 35) rfl ?_); refine goesL_ (some 11) rfl rfl Tryd.func35 zk rfl #[.slice A1 l1.length c1] rfl zA ?_; (with_reducible refine (slices_Clone_Sint64_int64.calls _ _ l1 t102 _ ?side1 ?side2 A4.out).mono ?_); (case side1 => exact zC (Kd.C_below HR1.out HB.out)); (case side2 => exact HC1.out); rintro e w6 ⟨v103, rfl, ho0, hb⟩; refine ⟨_, rfl, ?_⟩; have n_ := y3 (Kd.R_lower ho0 (below_size (zB))) (zb BK101.out hb) (below_step (zB) hb); clear BK101 HB; obtain ⟨HO104, BK101, HB⟩ := n_; (try clear hb); (try clear hb2); (try clear hk); (try clear hi); (try clear ho0); have hcz7_0 := zc BK101.out; have hfz7_0 := blk_frozen BK101.out 0))
 go_loopg [15] k (fun kq v15 w' => ∃ (x7_1 : List Int) (x15_1 : Int), v15 = .int .i64 x15_1 ∧ Aside0 (impl_Garden_grown.l0 kq a2 x7_1 l0_0 (l0_0.length : Int) x15_1 = some r) ∧ Aside0 (kq ≤ k) ∧ Aside0 (Kd.R (Kd.int .i64) 2 w' w.heap.size (fun _ => True) v103 x7_1) ∧ Aside0 (w'.heap[gb101]? = some (.cells #[(.slice A0_0 l0_0.length c0_0)] 28 (0, 0))) ∧ Aside0 (Below w.heap.size w w'))
 case atStart => exact ⟨(t102), (0), zF, H', ⟨Nat.le_refl _⟩, ⟨zR HO104.out⟩, ⟨zG BK101.out⟩, ⟨zB⟩⟩
 clear H'
 try clear c1
 try clear hcz7_0
 try clear hfz7_0
 obtain ⟨x7_1, x15_1, rfl, HA, HK1, HO_7, BK101, HB⟩ := hrel
 cases gk with
 | zero => exact absurd HA.out (by simp [impl_Garden_grown.l0])
 | succ k1 =>
   have H := HA.out
   clear HA
   simp only [impl_Garden_grown.l0] at H
   by_cases c8 : x15_1 < (l0_0.length : Int)
   · rw [if_pos c8] at H
     have c8b0 : decide (x15_1 < (l0_0.length : Int)) = true := decide_eq_true c8
     clear c8
     by_cases c9 : 0 ≤ x15_1
     · rw [if_pos c9] at H
       have c9b0 : decide (0 ≤ x15_1) = true := decide_eq_true c9
       clear c9
       by_cases c10 : x15_1 < (l0_0.length : Int)
       · rw [if_pos c10] at H
         have c10b0 : decide (x15_1 < (l0_0.length : Int)) = true := decide_eq_true c10
         clear c10
         by_cases c11 : x15_1 < (x7_1.length : Int)
         · rw [if_pos c11] at H
           have c11b0 : decide (x15_1 < (x7_1.length : Int)) = true := decide_eq_true c11
           clear c11
           obtain ⟨y107, hy107⟩ : ∃ y_ : List Int, y_ = (x7_1.set (x15_1 : Int).toNat (wrap64 ((rd x7_1 x15_1) + (wrap64 ((rd l0_0 x15_1) * a2))))) := ⟨_, rfl⟩
           replace H : (impl_Garden_grown.l0 k1 a2 y107 l0_0 (l0_0.length : Int) (wrap64 (x15_1 + 1))) = some r := zH hy107
           have Ny107 := Aside0.mk hy107
           clear hy107
           have H' := Aside0.mk H
           clear H
           have p105 : 0 ≤ (x15_1 : Int) := zD
           have q105 : x15_1 < (l0_0.length : Int) := zD
           obtain ⟨ad105, e105, hx105_0⟩ := Kd.at_int HR0_0.out x15_1 p105 q105
           cases e105
           replace hx105_0 := (HB.out.cell (World.block_lt_of_cell? w _ hx105_0)).trans hx105_0
           replace p105 := eq_true p105
           replace q105 := eq_true q105
           obtain ⟨Ao13, co13, eo13⟩ := Kd.R_slice HO_7.out
           subst eo13
           have p106 : 0 ≤ (x15_1 : Int) := zD
           have q106 : x15_1 < (x7_1.length : Int) := zD
           obtain ⟨ad106, e106, hx106_0⟩ := Kd.at_int (Kd.R_reads' HO_7.out).2.2 x15_1 p106 q106
           cases e106
           replace p106 := eq_true p106
           replace q106 := eq_true q106
           have p12 : 0 ≤ (x15_1 : Int) := zD
           have q12 : (x15_1 : Int) < ((x7_1.length : Int) : Int) := zD
           obtain ⟨go12, co12, eo12, gb12, gl12, cl12, HG12⟩ := Kd.R_form HO_7.out (by omega)
           (first | cases eo12 | (injection eo12 with ea_ en_ ec_; (first | subst ea_ | (injection ea_ with ea_; subst ea_)); subst ec_; clear en_))
           have GB12 := Aside0.mk gb12
           have GG12 := Aside0.mk HG12
           clear gb12 gl12 HG12
           (first | simp only [add_plain] at hx106_0 | skip)
           obtain ⟨hx12_0, hf12_0⟩ := Kd.R_celln 0 HO_7.out (x15_1 : Int) p12 q12
           replace p12 := eq_true p12
           replace q12 := eq_true q12
           have HP14 := Kd.R_putg HO_7.out (x15_1 : Int) (wrap64 ((rd x7_1 x15_1) + (wrap64 ((rd l0_0 x15_1) * a2))))
           go_wp2_with (first | ((with_reducible refine gate_store (t := 2) (p := 28) rfl ?_); refine store_event (t := 2) (p := 28) (v := ?vo_w15) (w1 := (wr.setCell ⟨go12, (x15_1 : Int).toNat, none⟩ (.int .i64 (wrap64 ((rd x7_1 x15_1) + (wrap64 ((rd l0_0 x15_1) * a2))))))) ?hg ?ho ?hn ?hr ?_; (case ho => rfl); (case hg => rfl); (case hn => rfl); (case hr => first | (go_simp; done) | (go_simp; rfl)); intro w15 hw; have hg : wr.grownBy w15 (some go12) := (by rw [hw]; exact HP14.2); have hp_ : Kd.R (Kd.int .i64) 2 w15 w.heap.size (fun _ => True) (.slice (some ⟨go12, 0, none⟩) x7_1.length co13) y107 := (by rw [hw, Ny107.out]; exact HP14.1); clear HP14; have n_ := y3 (hp_) (blk_grown (g := gb101) (o := .cells #[.slice (some ad105) l0_0.length c0_0] 28 (0, 0)) (zG BK101.out) hg (Kd.R_ne HO_7.out BK101.out (by decide))) ((by rw [hw]; exact below_set (HB.out) GB12.out : Below w.heap.size w w15)); clear HO_7 BK101 HB; obtain ⟨HO_7, BK101, HB⟩ := n_; clear hg hw hp_))
           go_roundg k1
           case measure => have := HK1.out; omega
           case rel => exact ⟨(y107), (wrap64 (x15_1 + 1)), zF, H', ⟨by have := HK1.out; omega⟩, ⟨zR HO_7.out⟩, ⟨zG BK101.out⟩, ⟨zB⟩⟩
         · rw [if_neg c11] at H
           exact absurd H (by simp)
       · rw [if_neg c10] at H
         exact absurd H (by simp)
     · rw [if_neg c9] at H
       exact absurd H (by simp)
   · rw [if_neg c8] at H
     have c8b0 : decide (x15_1 < (l0_0.length : Int)) = false := decide_eq_false c8
     clear c8
     obtain rfl := Option.some.inj H
     go_wp2
     go_ret
     exact ⟨_, zE, zR HO_7.out, zB⟩
end Go.Proofs.YtajfblkidneckaaDoor.P
end
section
namespace Go.Proofs.YtajfblkidneckaaDoor.P
open Go.RowKit Go.Proofs.YtajfblkidneckaaDoorW.PrintWords Go.Proofs.YtajfblkidneckaaDoorW.PrintLast Go.Proofs.YtajfblkidneckaaDoorW.PrintMore
attribute [local go_sem] max2_int min2_int max_two min_two max_three min_three max_four min_four   -- for this text's walks alone
set_option linter.unusedVariables false
set_option linter.unusedSimpArgs false
def speedT (R : List Int) (x : Int) : List Int → Int → Int → Int
  | [], _, b => b
  | h :: l, i, b => speedT R x l (i + 1) (if x ≤ h ∧ (b = -1 ∨ rd R b < rd R i) then i else b)
def grT (R H : List Int) (a : Int) : List Int := List.zipWith (fun h r => wrap64 (h + wrap64 (r * a))) H R
theorem grT_length {R H : List Int} (a : Int) (h : H.length = R.length) : (grT R H a).length = R.length := by simp [grT, h]
theorem grown_l0 (R : List Int) (a : Int) (hR : R.length ≤ 9223372036854775807) : ∀ (d n : Nat) (X : List Int), n + d = R.length → X.length = R.length →
    impl_Garden_grown.l0 (d + 1) a X R (R.length : Int) (n : Int) = some (X.take n ++ grT (R.drop n) (X.drop n) a) := by
  intro d
  induction d with
  | zero =>
    intro n X hn hX
    rw [impl_Garden_grown.l0, if_neg (by omega), List.take_of_length_le (by omega), List.drop_of_length_le (by omega), List.drop_of_length_le (by omega)]
    simp [grT]
  | succ d ih =>
    intro n X hn hX
    have h1 : n < R.length := by omega
    have h2 : n < X.length := by omega
    have e1 : rd X (n : Int) = X[n] := by simp [rd, h2]
    have e2 : rd R (n : Int) = R[n] := by simp [rd, h1]
    rw [impl_Garden_grown.l0, if_pos (by omega), if_pos (by omega), if_pos (by omega), if_pos (by omega), e1, e2, Int.toNat_natCast, show wrap64 ((n : Int) + 1) = ((n + 1 : Nat) : Int) by unfold wrap64; omega]
    rw [ih (n + 1) _ (by omega) (by simpa using hX)]
    congr 1
    rw [List.drop_eq_getElem_cons h1, List.drop_eq_getElem_cons h2, List.take_succ_eq_append_getElem (by simpa using h2), List.take_set_of_le (by omega), List.drop_set_of_lt (by omega), List.getElem_set_self, List.append_assoc]
    rfl
theorem grown_f (R H : List Int) (a : Int) (hl : H.length = R.length) (hs : H.length < 17592186044416) : impl_Garden_grown.f (R.length + 1) R H a = some (grT R H a) := by
  unfold impl_Garden_grown.f slices_Clone_Sint64_int64.f
  rw [if_pos hs, Option.bind_some]
  have := grown_l0 R a (by omega) R.length 0 H (by omega) hl
  rw [List.take_zero, List.drop_zero, List.drop_zero, List.nil_append] at this
  exact this
theorem drop_rdG {l : List Int} {i : Nat} (h : i < l.length) : l.drop i = rd l (i : Int) :: l.drop (i + 1) := by
  rw [List.drop_eq_getElem_cons h]
  simp [rd, h]
end Go.Proofs.YtajfblkidneckaaDoor.P
end
section
namespace Go.Proofs
open Go.Shelf
def Tryd.lays156_ren : Go.Shelf.Ren := ⟨fun | 156 => 44 | 165 => 49 | 166 => 50 | 169 => 51 | 240 => 54 | 241 => 55 | 276 => 60 | 277 => 61 | n => n, fun | 31 => 59 | 9 => 9 | 3 => 3 | 4 => 4 | 0 => 0 | 20 => 20 | 72 => 67 | 76 => 71 | 70 => 64 | 37 => 65 | 75 => 70 | 127 => 75 | 164 => 83 | 5 => 5 | 80 => 73 | n => n, fun | n => n⟩
theorem Tryd.lays156 : Go.Proofs.Lays.n156 Tryd.prog Tryd.lays156_ren := {
  mixed := by kernel_rfl
  f156 := Tryd.func44.trans (congrArg some (by kernel_rfl))
  f165 := Tryd.func49.trans (congrArg some (by kernel_rfl))
  f166 := Tryd.func50.trans (congrArg some (by kernel_rfl))
  f169 := Tryd.func51.trans (congrArg some (by kernel_rfl))
  f240 := Tryd.func54.trans (congrArg some (by kernel_rfl))
  f241 := Tryd.func55.trans (congrArg some (by kernel_rfl))
  f276 := Tryd.func60.trans (congrArg some (by kernel_rfl))
  f277 := Tryd.func61.trans (congrArg some (by kernel_rfl))
  t0 := Tryd.underlying0
  a0 := Tryd.isAgg0
  z0 := Tryd.sizeOf0
  v0 := Tryd.zeroValue0
  t3 := Tryd.underlying3
  a3 := Tryd.isAgg3
  z3 := Tryd.sizeOf3
  v3 := Tryd.zeroValue3
  t4 := Tryd.underlying4
  a4 := Tryd.isAgg4
  z4 := Tryd.sizeOf4
  v4 := Tryd.zeroValue4
  t9 := Tryd.underlying9
  a9 := Tryd.isAgg9
  z9 := Tryd.sizeOf9
  v9 := Tryd.zeroValue9
  t20 := Tryd.underlying20
  a20 := Tryd.isAgg20
  z20 := Tryd.sizeOf20
  v20 := Tryd.zeroValue20
  t31 := Tryd.underlying59
  a31 := Tryd.isAgg59
  z31 := Tryd.sizeOf59
  v31 := Tryd.zeroValue59
  t37 := Tryd.underlying65
  a37 := Tryd.isAgg65
  z37 := Tryd.sizeOf65
  v37 := Tryd.zeroValue65
  t70 := Tryd.underlying64
  a70 := Tryd.isAgg64
  z70 := Tryd.sizeOf64
  v70 := Tryd.zeroValue64
  t72 := Tryd.underlying67
  a72 := Tryd.isAgg67
  z72 := Tryd.sizeOf67
  v72 := Tryd.zeroValue67
  t75 := Tryd.underlying70
  a75 := Tryd.isAgg70
  z75 := Tryd.sizeOf70
  v75 := Tryd.zeroValue70
  t76 := Tryd.underlying71
  a76 := Tryd.isAgg71
  z76 := Tryd.sizeOf71
  v76 := Tryd.zeroValue71
  t127 := Tryd.underlying75
  a127 := Tryd.isAgg75
  z127 := Tryd.sizeOf75
  v127 := Tryd.zeroValue75
  t164 := Tryd.underlying83
  a164 := Tryd.isAgg83
  z164 := Tryd.sizeOf83
  v164 := Tryd.zeroValue83 }
theorem Tryd.Builder_Extra_156 : Builder.Extra Tryd.prog Tryd.lays156_ren := {
  sizeBuilder := by kernel_rfl
  liesBuilder := by kernel_rfl
  t5 := Tryd.underlying5
  a5 := Tryd.isAgg5
  z5 := Tryd.sizeOf5
  v5 := Tryd.zeroValue5
  infoByte := by kernel_rfl
  cellsByte := by kernel_rfl
  sizeByte := by kernel_rfl
  neB5 := by decide }
open Go.RowKit in
/-- strings.Join: "Join concatenates the elements of its first argument to create a single string. The separator string sep is placed between elements in the resulting string.": HOWEVER MANY ELEMENTS. Below the heap's end the world is as it was. (LAID: no walk: one application.) -/
theorem Tryd.strings_Join (bk o c : Nat) (xs : List ByteArray) (sep : ByteArray) (w : World) (hcells : ∀ (j : Nat) x, xs[j]? = some x → w.cell? ⟨bk, o + j, none⟩ = some (.string x)) (hbk : bk < w.heap.size) (hN : xs.length ≤ 140737488355328) (hcap : xs.length ≤ c) (hlen : (Lib.join (xs.map (·.data.toList)) sep.data.toList).length ≤ 140737488355328) :
    Calls Tryd.prog 44 #[.slice (some ⟨bk, o, none⟩) xs.length c, .string sep] w fun e w' => e = .returned (.string ⟨(Lib.join (xs.map (·.data.toList)) sep.data.toList).toArray⟩) ∧ Below w.heap.size w w' := Any.strings_Join Tryd.lays156 Tryd.Builder_Extra_156 bk o c xs sep w hcells hbk hN hcap hlen
def Tryd.laysM173_ren : Go.Shelf.Ren := ⟨fun | 173 => 48 | 246 => 53 | 283 => 56 | 284 => 57 | 285 => 58 | 286 => 59 | 129 => 63 | 317 => 62 | 318 => 64 | 319 => 65 | 320 => 66 | 337 => 67 | 338 => 68 | n => n, fun | 2 => 2 | 3 => 3 | 9 => 9 | 4 => 4 | 171 => 77 | 0 => 0 | 53 => 78 | 37 => 65 | 5 => 5 | 173 => 81 | 212 => 88 | 51 => 89 | 20 => 20 | 213 => 90 | 46 => 92 | 232 => 95 | 233 => 96 | n => n, fun | 17 => 0 | 18 => 2 | 19 => 3 | n => n⟩
theorem Tryd.laysM173 : Go.Proofs.LaysM.n173 Tryd.prog Tryd.laysM173_ren := {
  mixed := by kernel_rfl
  f129 := Tryd.func63.trans (congrArg some (by kernel_rfl))
  f173 := Tryd.func48.trans (congrArg some (by kernel_rfl))
  f246 := Tryd.func53.trans (congrArg some (by kernel_rfl))
  f283 := Tryd.func56.trans (congrArg some (by kernel_rfl))
  f284 := Tryd.func57.trans (congrArg some (by kernel_rfl))
  f285 := Tryd.func58.trans (congrArg some (by kernel_rfl))
  f286 := Tryd.func59.trans (congrArg some (by kernel_rfl))
  f317 := Tryd.func62.trans (congrArg some (by kernel_rfl))
  f318 := Tryd.func64.trans (congrArg some (by kernel_rfl))
  f319 := Tryd.func65.trans (congrArg some (by kernel_rfl))
  f320 := Tryd.func66.trans (congrArg some (by kernel_rfl))
  f337 := Tryd.func67.trans (congrArg some (by kernel_rfl))
  f338 := Tryd.func68.trans (congrArg some (by kernel_rfl))
  t0 := Tryd.underlying0
  a0 := Tryd.isAgg0
  z0 := Tryd.sizeOf0
  v0 := Tryd.zeroValue0
  t2 := Tryd.underlying2
  a2 := Tryd.isAgg2
  z2 := Tryd.sizeOf2
  v2 := Tryd.zeroValue2
  t3 := Tryd.underlying3
  a3 := Tryd.isAgg3
  z3 := Tryd.sizeOf3
  v3 := Tryd.zeroValue3
  t4 := Tryd.underlying4
  a4 := Tryd.isAgg4
  z4 := Tryd.sizeOf4
  v4 := Tryd.zeroValue4
  t5 := Tryd.underlying5
  a5 := Tryd.isAgg5
  z5 := Tryd.sizeOf5
  v5 := Tryd.zeroValue5
  t9 := Tryd.underlying9
  a9 := Tryd.isAgg9
  z9 := Tryd.sizeOf9
  v9 := Tryd.zeroValue9
  t20 := Tryd.underlying20
  a20 := Tryd.isAgg20
  z20 := Tryd.sizeOf20
  v20 := Tryd.zeroValue20
  t37 := Tryd.underlying65
  a37 := Tryd.isAgg65
  z37 := Tryd.sizeOf65
  v37 := Tryd.zeroValue65
  t46 := Tryd.underlying92
  a46 := Tryd.isAgg92
  z46 := Tryd.sizeOf92
  v46 := Tryd.zeroValue92
  t51 := Tryd.underlying89
  a51 := Tryd.isAgg89
  z51 := Tryd.sizeOf89
  v51 := Tryd.zeroValue89
  t53 := Tryd.underlying78
  a53 := Tryd.isAgg78
  z53 := Tryd.sizeOf78
  v53 := Tryd.zeroValue78
  t171 := Tryd.underlying77
  a171 := Tryd.isAgg77
  z171 := Tryd.sizeOf77
  v171 := Tryd.zeroValue77
  t173 := Tryd.underlying81
  a173 := Tryd.isAgg81
  z173 := Tryd.sizeOf81
  v173 := Tryd.zeroValue81
  t212 := Tryd.underlying88
  a212 := Tryd.isAgg88
  z212 := Tryd.sizeOf88
  v212 := Tryd.zeroValue88
  t213 := Tryd.underlying90
  a213 := Tryd.isAgg90
  z213 := Tryd.sizeOf90
  t232 := Tryd.underlying95
  a232 := Tryd.isAgg95
  z232 := Tryd.sizeOf95
  v232 := Tryd.zeroValue95
  t233 := Tryd.underlying96
  a233 := Tryd.isAgg96
  z233 := Tryd.sizeOf96
  v233 := Tryd.zeroValue96
  g17 := by kernel_rfl
  g18 := by kernel_rfl
  g19 := by kernel_rfl
  i0 := by kernel_rfl
  i2 := by kernel_rfl
  i3 := by kernel_rfl
  i4 := by kernel_rfl
  i5 := by kernel_rfl
  i9 := by kernel_rfl
  i20 := by kernel_rfl
  i37 := by kernel_rfl
  i46 := by kernel_rfl
  i51 := by kernel_rfl
  i53 := by kernel_rfl
  i171 := by kernel_rfl
  i173 := by kernel_rfl
  i212 := by kernel_rfl
  i232 := by kernel_rfl
  i233 := by kernel_rfl
  m17 := by kernel_rfl
  m18 := by kernel_rfl
  m19 := by kernel_rfl }
open Go.RowKit Go.Sort Go.Lib in
/-- strconv.FormatInt: "FormatInt returns the string representation of i in the given base": AT BASE 10: i's decimal numeral, for every int64. (LAID: no walk: one application.) -/
theorem Tryd.strconv_FormatInt_10 (n : Int) (h0 : -9223372036854775808 ≤ n) (h1 : n ≤ 9223372036854775807) (w : World) (htab : Lib.TabIs Tryd.prog w "internal/strconv.uint64pow10" .u64 Lib.pow10Tab) :
    Calls Tryd.prog 48 #[.int .i64 n, .int .i64 10] w fun e w' => e = .returned (.string ⟨(Lib.itoa n).toArray⟩) ∧ ∃ k os, w' = grow (w.drewN k) os := Any.strconv_FormatInt_10 Tryd.laysM173 n h0 h1 w htab
end Go.Proofs
end
section
namespace Go.Proofs.YtajfblkidneckaaDoor.P
open Go.RowKit Go.Proofs.YtajfblkidneckaaDoorW.PrintWords Go.Proofs.YtajfblkidneckaaDoorW.PrintLast Go.Proofs.YtajfblkidneckaaDoorW.PrintMore
attribute [local go_sem] max2_int min2_int max_two min_two max_three min_three max_four min_four   -- for this text's walks alone
set_option linter.unusedVariables false
set_option linter.unusedSimpArgs false
def tabW (W : World) : Prop := Lib.TabIs Tryd.prog W "internal/strconv.uint64pow10" .u64 Lib.pow10Tab
theorem tabW_below {w W : World} (h : tabW w) (hb : Below w.heap.size w W) : tabW W := by
  have hs : (Tryd.prog.globalNamed "internal/strconv.uint64pow10").isSome = true := by kernel_rfl
  obtain ⟨g, hg⟩ := Option.isSome_iff_exists.1 hs
  unfold tabW Lib.TabIs World.var? at h ⊢
  rw [hg] at h ⊢
  simp only [Option.bind_some] at h ⊢
  have hlt : g < w.heap.size := by
    rcases Nat.lt_or_ge g w.heap.size with h' | h'
    · exact h'
    · rw [Array.getElem?_eq_none h'] at h; cases h
  rw [hb.block g hlt]
  exact h
def strI (n : Int) : ByteArray := ⟨(Lib.itoa n).toArray⟩
def joinedT (l : List Int) (sep : ByteArray) : ByteArray := ⟨(Lib.join (l.map Lib.itoa) sep.data.toList).toArray⟩
theorem strI_list (l : List Int) : (l.map strI).map (fun x => x.data.toList) = l.map Lib.itoa := by
  rw [List.map_map]
  congr 1
set_option maxHeartbeats 4000000 in
set_option maxRecDepth 100000 in
theorem impl_decimal.calls (n : Int) (w : World) (h0 : -9223372036854775808 ≤ n) (h1 : n ≤ 9223372036854775807) (ht : tabW w) :
    Calls Tryd.prog 43 #[.int .i64 n] w fun e w' => e = .returned (.string (strI n)) ∧ Below w.heap.size w w' := by
  have HQ := Aside0.mk (fun W (hb : Below w.heap.size w W) => (show Calls Tryd.prog 48 #[.int .i64 n, .int .i64 10] W fun e w' => e = .returned (.string ⟨(Lib.itoa n).toArray⟩) ∧ Below W.heap.size W w' from (Tryd.strconv_FormatInt_10 n h0 h1 W (tabW_below ht hb)).mono (fun e w' h => ⟨h.1, by obtain ⟨k_, os_, rfl⟩ := h.2; exact Lib.below_grow W.heap.size W (Nat.le_refl _) k_ os_⟩)))
  have HB := Aside0.mk (Below.refl w.heap.size w)
  clear h0 h1 ht
  show Calls Tryd.prog 43 #[.int .i64 n] w fun e w' => e = .returned (.string ⟨(Lib.itoa n).toArray⟩) ∧ Below w.heap.size w w'
  generalize Lib.itoa n = ds at HQ ⊢
  go_enter Tryd.func43, Tryd.ntmps43
  go_wp2_with (go_at_call 48; refine (HQ.out _ HB.out).mono ?_; rintro e w2 ⟨rfl, hb⟩; have n_ := Aside0.mk (below_step HB.out hb); clear HB; have HB := n_; clear n_; clear hb)
  refine bodyPost_ret (results_tmp (fn := Tryd.f43) (t := 2) rfl _ _ _) ?_ ?_
  · rfl
  · exact ⟨rfl, HB.out⟩
set_option maxHeartbeats 1000000 in
set_option maxRecDepth 100000 in
theorem impl_joined.calls (A : Option Addr) (c : Nat) (l : List Int) (sep : ByteArray) (w : World) (hr : Kd.C (Kd.int .i64) w A l.length l) (hl : 0 < l.length) (hN : l.length ≤ 1000) (hx : ∀ x ∈ l, -9223372036854775808 ≤ x ∧ x ≤ 9223372036854775807) (hj : (Lib.join (l.map Lib.itoa) sep.data.toList).length ≤ 140737488355328) (ht : tabW w) :
    Calls Tryd.prog 34 #[.slice A l.length c, .string sep] w fun e w' => e = .returned (.string (joinedT l sep)) ∧ Below w.heap.size w w' := by
  have HR := Aside0.mk hr
  have LM := Aside0.mk hN
  have LP := Aside0.mk hl
  have HT := Aside0.mk ht
  have HX := Aside0.mk hx
  have HB := Aside0.mk (Below.refl w.heap.size w)
  have HJ := Aside0.mk (fun (bk c : Nat) (W : World) (hc : ∀ (j : Nat) x, (l.map strI)[j]? = some x → W.cell? ⟨bk, 0 + j, none⟩ = some (.string x)) (hbk : bk < W.heap.size) (hcap : (l.map strI).length ≤ c) => Tryd.strings_Join bk 0 c (l.map strI) sep W hc hbk (by rw [List.length_map]; omega) hcap (by rw [strI_list]; exact hj))
  simp only [strI_list, List.length_map] at HJ
  clear hr hN hl ht hx hj
  show Calls Tryd.prog 34 #[.slice A l.length c, .string sep] w fun e w' => e = .returned (.string ⟨(Lib.join (l.map Lib.itoa) sep.data.toList).toArray⟩) ∧ Below w.heap.size w w'
  generalize (Lib.join (l.map Lib.itoa) sep.data.toList).toArray = J at HJ ⊢
  go_enter Tryd.func34, Tryd.ntmps34
  go_wp2
  go_loopg [5, 10] (l.length + 1) (fun kq v5 v10 w' => ∃ i : Nat, v10 = .int .i64 (i : Int) ∧ Aside0 (i + kq = l.length + 1 ∧ i ≤ l.length) ∧ Aside0 (Kd.R Kd.string 9 w' w.heap.size (fun _ => True) v5 ((l.take i).map strI)) ∧ Aside0 (Below w.heap.size w w'))
  case atStart => exact ⟨0, rfl, ⟨by omega, by omega⟩, ⟨by exact Kd.R_nil _ _ _ _ _⟩, HB⟩
  case round =>
    clear HB
    obtain ⟨i, rfl, HI, HO, HB⟩ := hrel
    by_cases hi : (i : Int) < (l.length : Int)
    · have hi1 : decide ((i : Int) < (l.length : Int)) = true := decide_eq_true hi
      have hlt : i < l.length := by omega
      obtain ⟨k1, rfl⟩ : ∃ k1, gk = k1 + 1 := ⟨gk - 1, by have := HI.out; omega⟩
      obtain ⟨ad, e1, hh⟩ := Kd.at_int HR.out (i : Int) (by omega) hi
      cases e1
      have hh := pw_cell_below HB.out hh
      have e2 : rd l (i : Int) = l[i] := by simp [rd, hlt]
      simp only [Int.toNat_natCast] at hh
      have hxr := HX.out l[i] (List.getElem_mem hlt)
      have HD := Aside0.mk (fun W (hb : Below w.heap.size w W) => impl_decimal.calls l[i] W hxr.1 hxr.2 (tabW_below HT.out hb))
      have HTK := Aside0.mk (show (l.take (i + 1)).map strI = (l.take i).map strI ++ [strI l[i]] by rw [List.take_succ_eq_append_getElem hlt, List.map_append]; rfl)
      have HLN := Aside0.mk (show ((l.take i).map strI).length ≤ 1000 by rw [List.length_map, List.length_take]; have := LM.out; omega)
      rw [← e2] at HD HTK
      have HW := Aside0.mk (show wrap64 ((i : Int) + 1) = ((i + 1 : Nat) : Int) by have := LM.out; unfold wrap64; omega)
      have c1_ := eq_true hi
      have c2_ := eq_true (show (0 : Int) ≤ (i : Int) by omega)
      clear e2 hxr hi
      generalize rd l (i : Int) = x at hh HD HTK
      generalize strI x = sx at HD HTK
      generalize (l.take i).map strI = ws at HO HTK HLN
      go_wp2_with (first | (go_at_call 43; refine (HD.out _ HB.out).mono ?_; rintro e w2 ⟨rfl, hb⟩; have n_ := y2 (below_step HB.out hb) (Kd.R_below HO.out hb); clear HB HO; obtain ⟨HB, HO⟩ := n_; clear hb) | ((with_reducible refine gate_builtin (b := .append) (xs := #[.tmp 14, .tmp 17]) rfl ?_); at_builtin; refine Kd.R_append Kd.string (w0 := w) w.heap.size rfl (.tmp 14) (.tmp 17) 59 9 (.string ByteArray.empty) 16 rfl Tryd.underlying59 zk rfl (by decide) (by omega) u5 ws sx [.string sx] (fun _ => True) (fun _ => False) rfl rfl ?aP (fun _ hk => hk.elim) ?aF ?aO ?aB ?aS ?aL ?_; (case aP => exact rfl); (case aB => exact HB.out); (case aF => exact (fun _ _ => trivial)); (case aO => exact HO.out); (case aS => exact (below_size HB.out)); (case aL => have := HLN.out; omega); intro v18 w3 ho hb hg hat; rw [← HTK.out] at ho; have n_ := y2 hb ho; clear HB HO ho hb hg hat; obtain ⟨HB, HO⟩ := n_))
      go_roundg k1
      case measure => omega
      case rel => exact ⟨i + 1, by rw [HW.out], ⟨by have := HI.out; omega, by omega⟩, ⟨HO.out⟩, ⟨HB.out⟩⟩
    · have hi1 : decide ((i : Int) < (l.length : Int)) = false := decide_eq_false hi
      have e : i = l.length := by have := HI.out; omega
      have HO1 := Aside0.mk (show Kd.R Kd.string 9 wr w.heap.size (fun _ => True) u5 (l.map strI) by have := HO.out; rwa [List.take_of_length_le (by omega)] at this)
      obtain ⟨g, cap, eo, gb_, gl_, cl_, HG_⟩ := Kd.R_form HO1.out (by have := LP.out; rw [List.length_map]; omega)
      have hlm : (l.map strI).length = l.length := List.length_map _
      rw [hlm] at eo
      clear HO gb_ gl_ HG_ HI
      subst eo
      subst e
      have HLT := Aside0.mk (Kd.R_lt HO1.out g rfl)
      have HCP := Aside0.mk (show l.length ≤ cap by have := (Kd.R_reads' HO1.out).2.1; omega)
      have HCL := Aside0.mk (show ∀ (j : Nat) x, (l.map strI)[j]? = some x → wr.cell? ⟨g, 0 + j, none⟩ = some (.string x) by
        intro j x hjx
        have hjl : j < (l.map strI).length := (List.getElem?_eq_some_iff.1 hjx).1
        have h_ := (Kd.R_celln ByteArray.empty HO1.out (j : Int) (Int.natCast_nonneg j) (by rw [hlm] at hjl; omega)).1
        rw [Int.toNat_natCast] at h_
        rw [Nat.zero_add, h_]
        simp [rdOf, hjx])
      clear hlm hi hi1 HX HT
      have c1_ := eq_false (Nat.lt_irrefl l.length)
      have c2_ := eq_false (Int.lt_irrefl (l.length : Int))
      go_wp2_with (go_at_call 44; refine (HJ.out g cap _ HCL.out HLT.out HCP.out).mono ?_; rintro e w4 ⟨rfl, hb⟩; have n_ := Aside0.mk (below_step HB.out hb); clear HB; have HB := n_; clear n_; clear hb)
      refine bodyPost_ret (results_tmp (fn := Tryd.f34) (t := 4) rfl _ _ _) rfl ?_
      exact ⟨rfl, HB.out⟩
end Go.Proofs.YtajfblkidneckaaDoor.P
end
section
namespace Go.Proofs.YtajfblkidneckaaDoor.P
open Go.RowKit Go.Proofs.YtajfblkidneckaaDoorW.PrintWords Go.Proofs.YtajfblkidneckaaDoorW.PrintLast Go.Proofs.YtajfblkidneckaaDoorW.PrintMore
attribute [local go_sem] max2_int min2_int max_two min_two max_three min_three max_four min_four   -- for this text's walks alone
set_option linter.unusedVariables false
set_option linter.unusedSimpArgs false
set_option maxHeartbeats 8000000 in
set_option maxRecDepth 100000 in
theorem impl_Garden_day.calls (A0 : Option Addr) (c0 : Nat) (R : List Int) (A1 : Option Addr) (c1 : Nat) (H : List Int) (f : Nat) (lb : Array Value) (eg : ∀ args w, (callFunc f args).run Tryd.prog w = .ok (.enter f args) w) (i : Int) (w : World) (hr0 : Kd.C (Kd.int .i64) w A0 R.length R) (hc0 : R.length ≤ c0) (hr1 : Kd.C (Kd.int .i64) w A1 H.length H) (hc1 : H.length ≤ c1) (hl : H.length = R.length) (hs : H.length < 17592186044416) (hi : i = -1 ∨ (0 ≤ i ∧ i < (R.length : Int)))
    (hcut : ∀ (W : World) (A : Option Addr) (c : Nat), Below w.heap.size w W → Kd.C (Kd.int .i64) W A (grT R H 1).length (grT R H 1) → (grT R H 1).length ≤ c → Calls Tryd.prog f (#[.slice A (grT R H 1).length c] ++ lb) W fun e w' => e = .returned (.int .i64 i) ∧ Below W.heap.size W w') :
    Calls Tryd.prog 37 #[.agg #[.slice A0 R.length c0], .slice A1 H.length c1, .func (.func f) #[] lb] w fun e w' => ∃ v0 v1, e = .returned (.tuple #[v0, v1, .int .i64 i]) ∧ Kd.R (Kd.int .i64) 2 w' w.heap.size (fun _ => True) v0 (if i = -1 then grT R H 1 else (grT R H 1).set i.toNat 0) ∧ Below w.heap.size w w' := by
  have hu26 := Tryd.underlying28
  have HB := Aside0.mk (Below.refl w.heap.size w)
  have G := Aside0.mk (fun W (hb : Below w.heap.size w W) => impl_Garden_grown.calls (R.length + 1) A0 c0 R A1 c1 H 1 (grT R H 1) W (Kd.C_below hr0 hb) hc0 (Kd.C_below hr1 hb) hc1 (grown_f R H 1 hl hs))
  have CUT := Aside0.mk hcut
  have hlen := grT_length (R := R) (H := H) 1 hl
  have HCL := Aside0.mk (show slices_Clone_Sint64_int64.f (grT R H 1) = some (grT R H 1) by unfold slices_Clone_Sint64_int64.f; rw [if_pos (by omega)])
  have HLEN := Aside0.mk hlen
  clear hr0 hc0 hr1 hc1 hcut hs hl
  by_cases h : i = -1
  · subst h
    rw [if_pos rfl]
    clear hi hlen
    generalize grT R H 1 = ah at G CUT HCL HLEN ⊢
    go_enter Tryd.func37, Tryd.ntmps37
    go_wp2_with (first | ((with_reducible refine gate_dst (N := 3) rfl ?_); refine box_event zr (N := 3) zr (cs := #[.slice A0 R.length c0]) (t := 28) zg ?_; intro gb hg w1 hbox hb; have hq : w1.cell? ⟨gb, 0, none⟩ = some (.slice A0 R.length c0) := zc hbox; have n_ := Aside0.mk (below_step HB.out hb); clear HB; have HB := n_; clear n_; clear hb hbox hg) | (go_at_call 45; refine (G.out _ HB.out).mono ?_; rintro e w2 ⟨va, rfl, hS, hb⟩; obtain ⟨Aa, ca, rfl, hla, hCa⟩ := Kd.R_reads hS; have n_ := y3 (below_step HB.out hb) (hCa) (hla); clear HB; obtain ⟨HB, HCA, HLA⟩ := n_; clear hb hS hCa hla) | (go_at_call 35; refine (slices_Clone_Sint64_int64.calls Aa ca _ _ _ HCA.out HLA.out HCL.out).mono ?_; rintro e w3 ⟨vo, rfl, hS, hb⟩; have n_ := y3 (Kd.R_lower hS (below_size HB.out)) (below_step HB.out hb) (Kd.C_below HCA.out hb); clear HB HCA; obtain ⟨HO, HB, HCA⟩ := n_; clear hb hS) | (go_at_fn f; refine (CUT.out _ Aa ca HB.out HCA.out HLA.out).mono ?_; rintro e w4 ⟨rfl, hb⟩; have n_ := y2 (below_step HB.out hb) (Kd.R_below HO.out hb); clear HB HO; obtain ⟨HB, HO⟩ := n_; clear hb HCA HLA))
    go_ret3
    exact ⟨_, _, rfl, HO.out, HB.out⟩
  · rw [if_neg h]
    have h0 : 0 ≤ i := by omega
    have h1 : i < ((grT R H 1).length : Int) := by omega
    have b1 : (i != -1) = true := bne_iff_ne.mpr h
    have b2 : (i == -1) = false := beq_eq_false_iff_ne.mpr h
    have H0 := Aside0.mk h0
    have H1 := Aside0.mk h1
    have c1_ := eq_true h0
    have c2_ := eq_true h1
    clear hi hlen h h0 h1
    generalize grT R H 1 = ah at G CUT HCL HLEN H1 c2_ ⊢
    go_enter Tryd.func37, Tryd.ntmps37
    go_wp2_with (first | ((with_reducible refine gate_dst (N := 3) rfl ?_); refine box_event zr (N := 3) zr (cs := #[.slice A0 R.length c0]) (t := 28) zg ?_; intro gb hg w1 hbox hb; have hq : w1.cell? ⟨gb, 0, none⟩ = some (.slice A0 R.length c0) := zc hbox; have n_ := Aside0.mk (below_step HB.out hb); clear HB; have HB := n_; clear n_; clear hb hbox hg) | (go_at_call 45; refine (G.out _ HB.out).mono ?_; rintro e w2 ⟨va, rfl, hS, hb⟩; obtain ⟨Aa, ca, rfl, hla, hCa⟩ := Kd.R_reads hS; have n_ := y3 (below_step HB.out hb) (hCa) (hla); clear HB; obtain ⟨HB, HCA, HLA⟩ := n_; clear hb hS hCa hla) | (go_at_call 35; refine (slices_Clone_Sint64_int64.calls Aa ca _ _ _ HCA.out HLA.out HCL.out).mono ?_; rintro e w3 ⟨vo, rfl, hS, hb⟩; obtain ⟨go, co, eo, gb_, gl_, cl_, HG_⟩ := Kd.R_form hS (by have := H0.out; have := H1.out; omega); have eo : vo = .slice (some ⟨go, 0, none⟩) ah.length co := eo; subst eo; clear gb_ gl_ HG_; have n_ := y3 (Kd.R_lower hS (below_size HB.out)) (below_step HB.out hb) (Kd.C_below HCA.out hb); clear HB HCA; obtain ⟨HO, HB, HCA⟩ := n_; clear hb hS) | (go_at_fn f; refine (CUT.out _ Aa ca HB.out HCA.out HLA.out).mono ?_; rintro e w4 ⟨rfl, hb⟩; have n_ := y2 (below_step HB.out hb) (Kd.R_below HO.out hb); clear HB HO; obtain ⟨HB, HO⟩ := n_; clear hb HCA HLA; obtain ⟨hx, hf⟩ := Kd.R_celln 0 HO.out i H0.out H1.out))
    go_ret3
    exact ⟨_, _, rfl, Kd.R_putn HO.out i 0, below_set HB.out (Kd.R_base HO.out go rfl)⟩
end Go.Proofs.YtajfblkidneckaaDoor.P
end
section
namespace Go.Proofs.YtajfblkidneckaaDoor.P
open Go.RowKit Go.Proofs.YtajfblkidneckaaDoorW.PrintWords Go.Proofs.YtajfblkidneckaaDoorW.PrintLast Go.Proofs.YtajfblkidneckaaDoorW.PrintMore
attribute [local go_sem] max2_int min2_int max_two min_two max_three min_three max_four min_four   -- for this text's walks alone
set_option linter.unusedVariables false
set_option linter.unusedSimpArgs false
def impl_length_int64.f (l0 : List Int) : Option (Int) := some (l0.length : Int)
set_option maxHeartbeats 8000000 in
set_option maxRecDepth 100000 in
theorem impl_length_int64.calls (A0 : Option Addr) (c0 : Nat) (l0 : List Int) (r : Int) (w : World) (hr0 : Kd.C (Kd.int .i64) w A0 l0.length l0) (hc0 : l0.length ≤ c0) (h : impl_length_int64.f l0 = some r) :
    Calls Tryd.prog 36 #[.slice A0 l0.length c0] w fun e w' => e = .returned (.int .i64 r) ∧ Drawn0 w w' := by
 have HR0 := Aside0.mk hr0
 have HC0 := Aside0.mk hc0
 clear hr0 hc0
 have H : (some (l0.length : Int)) = some r := h
 clear h
 obtain rfl := Option.some.inj H
 go_enter Tryd.func36, Tryd.ntmps36
 go_wp2
 go_ret
 exact ⟨by first | rfl | (simp; done) | (simp [*]; done), by repeat (first | exact Drawn0.refl _ | apply Drawn0.step)⟩
end Go.Proofs.YtajfblkidneckaaDoor.P
end
section
namespace Go.Proofs.YtajfblkidneckaaDoor.P
open Go.RowKit Go.Proofs.YtajfblkidneckaaDoorW.PrintWords Go.Proofs.YtajfblkidneckaaDoorW.PrintLast Go.Proofs.YtajfblkidneckaaDoorW.PrintMore
attribute [local go_sem] max2_int min2_int max_two min_two max_three min_three max_four min_four   -- for this text's walks alone
set_option linter.unusedVariables false
set_option linter.unusedSimpArgs false
def impl_Garden_many.f (l0_0 : List Int) : Option (Int) := (impl_length_int64.f l0_0).bind fun t102 => (some t102)
set_option maxHeartbeats 8000000 in
set_option maxRecDepth 100000 in
theorem impl_Garden_many.calls (A0_0 : Option Addr) (c0_0 : Nat) (l0_0 : List Int) (r : Int) (w : World) (hr0_0 : Kd.C (Kd.int .i64) w A0_0 l0_0.length l0_0) (hc0_0 : l0_0.length ≤ c0_0) (h : impl_Garden_many.f l0_0 = some r) :
    Calls Tryd.prog 33 #[.agg #[.slice A0_0 l0_0.length c0_0]] w fun e w' => e = .returned (.int .i64 r) ∧ Below w.heap.size w w' := by
 have hu28 := Tryd.underlying28
 have HR0_0 := Aside0.mk hr0_0
 have HC0_0 := Aside0.mk hc0_0
 clear hr0_0 hc0_0
 have HB := Aside0.mk (Below.refl w.heap.size w)
 have H : ((impl_length_int64.f l0_0).bind fun t102 => (some t102)) = some r := h
 clear h
 replace H := Option.bind_eq_some_iff.mp H
 obtain ⟨t102, A20, H⟩ := H
 replace H : (some t102) = some r := H
 have A2 := Aside0.mk A20
 clear A20
 obtain rfl := Option.some.inj H
 go_enter Tryd.func33, Tryd.ntmps33
 go_wp2_with (first | ((with_reducible refine gate_dst (N := 1) rfl ?_); refine box_event zr (N := 1) zr (cs := #[.slice A0_0 l0_0.length c0_0]) (t := 28) zg ?_; intro gb101 hg w3 hbox hb; have n_ := y4 (below_step (zB) hb) (hbox) ((zS hg : w.heap.size ≤ gb101)) ((zS hg : w.heap.size ≤ gb101)); clear HB; obtain ⟨HB, BK101, GW101, GE101⟩ := n_; clear hb hbox hg; have hcz4_0 := zc BK101.out; have hfz4_0 := blk_frozen BK101.out 0) | ((with_reducible refine gate_callee (f := 36) rfl ?_); refine goesL_ (some 5) rfl rfl Tryd.func36 zk rfl #[.slice A0_0 l0_0.length c0_0] rfl zA ?_; (with_reducible refine (impl_length_int64.calls _ _ l0_0 t102 _ ?side1 ?side2 A2.out).mono ?_); (case side1 => exact zC (Kd.C_below HR0_0.out HB.out)); (case side2 => exact HC0_0.out); rintro e w' ⟨rfl, ⟨nd, rfl⟩⟩; refine ⟨_, rfl, ?_⟩))
 go_ret
 exact ⟨zE, zB⟩
end Go.Proofs.YtajfblkidneckaaDoor.P
end
section
namespace Go.Proofs.YtajfblkidneckaaDoor.P
open Go.RowKit Go.Proofs.YtajfblkidneckaaDoorW.PrintWords Go.Proofs.YtajfblkidneckaaDoorW.PrintLast Go.Proofs.YtajfblkidneckaaDoorW.PrintMore
attribute [local go_sem] max2_int min2_int max_two min_two max_three min_three max_four min_four   -- for this text's walks alone
set_option linter.unusedVariables false
set_option linter.unusedSimpArgs false
def gstepT (R : List Int) (C : List Int → Int) (H : List Int) : List Int := if C (grT R H 1) = -1 then grT R H 1 else (grT R H 1).set (C (grT R H 1)).toNat 0
def hAt (R : List Int) (C : List Int → Int) : Nat → List Int
  | 0 => List.replicate R.length 0
  | n + 1 => gstepT R C (hAt R C n)
def cAt (R : List Int) (C : List Int → Int) (n : Nat) : Int := C (grT R (hAt R C n) 1)
def seenT (R : List Int) (C : List Int → Int) : Nat → List Int → Option Nat
  | 0, _ => none
  | n + 1, H => if hAt R C n = H then some n else seenT R C n H
def roundL (R : List Int) (C : List Int → Int) : Nat → Nat → List Int × Int × Int
  | 0, n => match seenT R C n (hAt R C n) with
    | some i => (((List.range n).map (cAt R C)).drop i, (i : Int), 0)
    | none => ([], 0, 3)
  | k + 1, n => match seenT R C n (hAt R C n) with
    | some i => (((List.range n).map (cAt R C)).drop i, (i : Int), 0)
    | none => roundL R C k (n + 1)
def comma : ByteArray := ⟨#[44]⟩
def keyT (H : List Int) : Lit := .string (joinedT H comma).data.toList
def mapT (R : List Int) (C : List Int → Int) : Nat → DataW Unit
  | 0 => .map []
  | n + 1 => (mapT R C n).put (keyT (hAt R C n)) (.lit (.int .i64 (n : Int)))
theorem gstepT_length {R H : List Int} (C : List Int → Int) (h : H.length = R.length) : (gstepT R C H).length = R.length := by
  unfold gstepT
  split <;> simp [grT_length 1 h]
theorem hAt_length (R : List Int) (C : List Int → Int) : ∀ n, (hAt R C n).length = R.length
  | 0 => by simp [hAt]
  | n + 1 => by rw [hAt]; exact gstepT_length C (hAt_length R C n)
theorem wrap64_in (x : Int) : -9223372036854775808 ≤ wrap64 x ∧ wrap64 x ≤ 9223372036854775807 := by unfold wrap64; omega
theorem grT_in (R H : List Int) (a : Int) : ∀ x ∈ grT R H a, -9223372036854775808 ≤ x ∧ x ≤ 9223372036854775807 := by
  intro x hx
  unfold grT at hx
  obtain ⟨i, hi, rfl⟩ := List.getElem_of_mem hx
  rw [List.getElem_zipWith]
  exact wrap64_in _
theorem hAt_in (R : List Int) (C : List Int → Int) : ∀ n, ∀ x ∈ hAt R C n, -9223372036854775808 ≤ x ∧ x ≤ 9223372036854775807
  | 0 => by intro x hx; rw [hAt] at hx; have := List.eq_of_mem_replicate hx; omega
  | n + 1 => by
    intro x hx
    rw [hAt, gstepT] at hx
    split at hx
    · exact grT_in _ _ _ x hx
    · rcases List.mem_or_eq_of_mem_set hx with h | h
      · exact grT_in _ _ _ x h
      · omega
theorem lens_itoa (l : List Int) (hx : ∀ x ∈ l, -9223372036854775808 ≤ x ∧ x ≤ 9223372036854775807) : Lib.lens (l.map Lib.itoa) ≤ 21 * l.length := by
  induction l with
  | nil => simp [Lib.lens]
  | cons a l ih =>
    have h1 := Lib.itoa_length_le a (hx a (by simp)).1 (hx a (by simp)).2
    have h2 := ih (fun x h => hx x (by simp [h]))
    simp only [Lib.lens, List.map_cons, List.sum_cons, List.length_cons] at h2 ⊢
    omega
theorem join_le (l : List Int) (hx : ∀ x ∈ l, -9223372036854775808 ≤ x ∧ x ≤ 9223372036854775807) : (Lib.join (l.map Lib.itoa) comma.data.toList).length ≤ 22 * l.length := by
  cases l with
  | nil => simp [Lib.join_nil]
  | cons a l =>
    have h1 := lens_itoa (a :: l) hx
    rw [List.map_cons] at h1 ⊢
    rw [Lib.join_length, show comma.data.toList.length = 1 from rfl, List.length_map]
    simp only [List.length_cons] at h1 ⊢
    omega
theorem decDigits_in : ∀ (u : Nat), ∀ c ∈ Lib.decDigits u, 48 ≤ c.toNat ∧ c.toNat ≤ 57 := by
  intro u
  induction u using Nat.strongRecOn with
  | _ u ih =>
    intro c hc
    rw [Lib.decDigits] at hc
    split at hc
    · next h =>
      rw [List.mem_singleton] at hc
      subst hc
      rw [UInt8.toNat_ofNat']
      omega
    · next h =>
      rcases List.mem_append.1 hc with h1 | h1
      · exact ih (u / 10) (by omega) c h1
      · rw [List.mem_singleton] at h1
        subst h1
        rw [UInt8.toNat_ofNat']
        omega
theorem decDigits_inj : ∀ (u v : Nat), Lib.decDigits u = Lib.decDigits v → u = v := by
  intro u
  induction u using Nat.strongRecOn with
  | _ u ih =>
    intro v h
    have hl : (Lib.decDigits u).length = (Lib.decDigits v).length := by rw [h]
    have hd : ∀ a b : Nat, a < 10 → b < 10 → UInt8.ofNat (48 + a) = UInt8.ofNat (48 + b) → a = b := by
      intro a b ha hb e
      have := congrArg UInt8.toNat e
      rw [UInt8.toNat_ofNat', UInt8.toNat_ofNat'] at this
      omega
    by_cases hu : u < 10
    · by_cases hv : v < 10
      · rw [Lib.decDigits_one hu, Lib.decDigits_one hv] at h
        exact hd u v hu hv (by simpa using h)
      · rw [Lib.decDigits_length, Lib.decDigits_length, Lib.nDigits_small hu, Lib.nDigits_big hv] at hl
        have := Lib.nDigits_pos (v / 10)
        omega
    · by_cases hv : v < 10
      · rw [Lib.decDigits_length, Lib.decDigits_length, Lib.nDigits_small hv, Lib.nDigits_big hu] at hl
        have := Lib.nDigits_pos (u / 10)
        omega
      · rw [Lib.decDigits, dif_neg hu] at h
        conv at h => rhs; rw [Lib.decDigits, dif_neg hv]
        obtain ⟨h1, h2⟩ := List.append_inj' h rfl
        have e1 := ih (u / 10) (by omega) _ h1
        have e2 := hd (u % 10) (v % 10) (by omega) (by omega) (by simpa using h2)
        omega
theorem itoa_in (n : Int) : ∀ c ∈ Lib.itoa n, c ≠ 44 := by
  intro c hc
  unfold Lib.itoa at hc
  split at hc
  · rcases List.mem_cons.1 hc with rfl | h
    · decide
    · have := decDigits_in _ c h
      rintro rfl
      simp at this
  · have := decDigits_in _ c hc
    rintro rfl
    simp at this
theorem itoa_inj (n m : Int) (h : Lib.itoa n = Lib.itoa m) : n = m := by
  have hh : ∀ u v : Nat, Lib.decDigits u ≠ 45 :: Lib.decDigits v := by
    intro u v e
    have := decDigits_in u 45 (by rw [e]; simp)
    simp at this
  unfold Lib.itoa at h
  split at h <;> split at h
  · have := decDigits_inj _ _ (List.cons.inj h).2
    omega
  · exact absurd h.symm (hh _ _)
  · exact absurd h (hh _ _)
  · have := decDigits_inj _ _ h
    omega
theorem split_comma : ∀ (a b x y : List UInt8), (∀ c ∈ a, c ≠ 44) → (∀ c ∈ b, c ≠ 44) → (x = [] ∨ ∃ x', x = 44 :: x') → (y = [] ∨ ∃ y', y = 44 :: y') → a ++ x = b ++ y → a = b ∧ x = y
  | [], [], x, y, _, _, _, _, h => ⟨rfl, h⟩
  | [], c :: b, x, y, _, hb, hx, _, h => by
    rcases hx with rfl | ⟨x', rfl⟩
    · simp at h
    · simp only [List.nil_append, List.cons_append, List.cons.injEq] at h
      exact absurd h.1.symm (hb c (by simp))
  | c :: a, [], x, y, ha, _, _, hy, h => by
    rcases hy with rfl | ⟨y', rfl⟩
    · simp at h
    · simp only [List.nil_append, List.cons_append, List.cons.injEq] at h
      exact absurd h.1 (ha c (by simp))
  | c :: a, d :: b, x, y, ha, hb, hx, hy, h => by
    simp only [List.cons_append, List.cons.injEq] at h
    obtain ⟨e1, e2⟩ := split_comma a b x y (fun z hz => ha z (by simp [hz])) (fun z hz => hb z (by simp [hz])) hx hy h.2
    exact ⟨by rw [h.1, e1], e2⟩
theorem tail_comma (l : List (List UInt8)) : Lib.joinTail [44] l = [] ∨ ∃ x', Lib.joinTail [44] l = 44 :: x' := by
  cases l with
  | nil => exact .inl rfl
  | cons a l => exact .inr ⟨_, rfl⟩
theorem tail_inj : ∀ (l m : List Int), l.length = m.length → Lib.joinTail [44] (l.map Lib.itoa) = Lib.joinTail [44] (m.map Lib.itoa) → l = m
  | [], [], _, _ => rfl
  | [], _ :: _, h, _ => by simp at h
  | _ :: _, [], h, _ => by simp at h
  | a :: l, b :: m, h, e => by
    have e' : Lib.itoa a ++ Lib.joinTail [44] (l.map Lib.itoa) = Lib.itoa b ++ Lib.joinTail [44] (m.map Lib.itoa) := by
      simpa [Lib.joinTail] using e
    obtain ⟨e1, e2⟩ := split_comma _ _ _ _ (itoa_in a) (itoa_in b) (tail_comma _) (tail_comma _) e'
    rw [itoa_inj _ _ e1, tail_inj l m (by simpa using h) e2]
theorem join_inj (l m : List Int) (h : l.length = m.length) (e : Lib.join (l.map Lib.itoa) [44] = Lib.join (m.map Lib.itoa) [44]) : l = m := by
  cases l with
  | nil => cases m with
    | nil => rfl
    | cons b m => simp at h
  | cons a l => cases m with
    | nil => simp at h
    | cons b m =>
      rw [List.map_cons, List.map_cons, Lib.join_cons, Lib.join_cons] at e
      obtain ⟨e1, e2⟩ := split_comma _ _ _ _ (itoa_in a) (itoa_in b) (tail_comma _) (tail_comma _) e
      rw [itoa_inj _ _ e1, tail_inj l m (by simpa using h) e2]
theorem keyT_eq (H : List Int) : keyT H = .string (Lib.join (H.map Lib.itoa) [44]) := by
  unfold keyT joinedT
  rfl
theorem keyT_inj (H H' : List Int) (h : H.length = H'.length) (e : keyT H = keyT H') : H = H' := by
  rw [keyT_eq, keyT_eq] at e
  exact join_inj H H' h (Lit.string.inj e)
theorem mapT_isMap (R : List Int) (C : List Int → Int) : ∀ n, Maps.IsMap (mapT R C n)
  | 0 => Maps.isMap_empty
  | n + 1 => (mapT_isMap R C n).put _ _
theorem mapT_has (R : List Int) (C : List Int → Int) (H : List Int) (hH : H.length = R.length) : ∀ n,
    Maps.has (mapT R C n) (keyT H) = (seenT R C n H).isSome ∧ ∀ i, seenT R C n H = some i → i < n ∧ ∀ z, (mapT R C n).atKey (keyT H) z = .lit (.int .i64 (i : Int))
  | 0 => ⟨rfl, fun i h => by cases h⟩
  | n + 1 => by
    obtain ⟨h1, h2⟩ := mapT_has R C H hH n
    by_cases he : hAt R C n = H
    · have hk : WideAt.IsKeyLit (keyT (hAt R C n)) := trivial
      refine ⟨?_, ?_⟩
      · rw [seenT, if_pos he, mapT, ← he, Maps.has_put_same (mapT_isMap R C n) hk]
        rfl
      · intro i hi
        rw [seenT, if_pos he] at hi
        cases hi
        refine ⟨Nat.lt_succ_self _, fun z => ?_⟩
        rw [mapT, ← he, Maps.atKey_put_same (mapT_isMap R C n) hk]
    · have hne : keyT H ≠ keyT (hAt R C n) := fun e => he (keyT_inj _ _ (by rw [hAt_length, hH]) e).symm |> fun h => by first | exact h.elim | exact h
      refine ⟨?_, ?_⟩
      · rw [seenT, if_neg he, mapT, Maps.has_put_other hne, h1]
      · intro i hi
        rw [seenT, if_neg he] at hi
        refine ⟨Nat.lt_succ_of_lt (h2 i hi).1, fun z => ?_⟩
        rw [mapT, Maps.atKey_put_other hne]
        exact (h2 i hi).2 z
theorem roundL_some {R : List Int} {C : List Int → Int} {k n i : Nat} (h : seenT R C n (hAt R C n) = some i) : roundL R C k n = (((List.range n).map (cAt R C)).drop i, (i : Int), 0) := by
  cases k <;> simp only [roundL, h]
theorem roundL_none0 {R : List Int} {C : List Int → Int} {n : Nat} (h : seenT R C n (hAt R C n) = none) : roundL R C 0 n = ([], 0, 3) := by
  simp only [roundL, h]
theorem roundL_none {R : List Int} {C : List Int → Int} {k n : Nat} (h : seenT R C n (hAt R C n) = none) : roundL R C (k + 1) n = roundL R C k (n + 1) := by
  simp only [roundL, h]
theorem ownsMap_below {H : Type} {P : Program} {k : TypeId} {Rd : Value → Option (DataW H × List MemPlace)} {W W' : World} {b n : Nat} {D : DataW H} (h : W.ownsMap P k Rd b n D) (hb : Below W.heap.size W W') : W'.ownsMap P k Rd b n D := by
  have hlt := h.lt
  obtain ⟨es, clock, h1, r⟩ := h
  exact ⟨es, clock, (hb.block b hlt).trans h1, r⟩
theorem R_mapped {α : Type} {d : Kd α} {e : Nat} {W W1 : World} {base : Nat} {ok : Nat → Prop} {v : Value} {xs : List α} {H : Type} {P : Program} {k : TypeId} {Rd : Value → Option (DataW H × List MemPlace)} {b n : Nat} {D : DataW H} (h : d.R e W base ok v xs) (hm : W.ownsMap P k Rd b n D) (hg : W.grownBy W1 (some b)) : d.R e W1 base ok v xs := by
  refine Kd.R_mono (Kd.R_step (Kd.R_bound h) (fun k' ho hk => hg.block k' hk ?_)) (fun k' hk => hk.1)
  intro e1
  cases e1
  obtain ⟨q, _, cells, hc⟩ := ho.2.2.2
  obtain ⟨es, clock, h1, _⟩ := hm
  rw [h1] at hc
  cases hc
theorem R_off_map {α : Type} {d : Kd α} {e : Nat} {W : World} {base : Nat} {ok : Nat → Prop} {v : Value} {xs : List α} {H : Type} {P : Program} {k : TypeId} {Rd : Value → Option (DataW H × List MemPlace)} {b n : Nat} {D : DataW H} (h : d.R e W base ok v xs) (hm : W.ownsMap P k Rd b n D) : some b ≠ v.ownBlock := by
  intro e1
  obtain ⟨cells, hc⟩ := Kd.R_typed h b e1.symm
  obtain ⟨es, clock, h1, _⟩ := hm
  rw [h1] at hc
  cases hc
theorem blk_mapped {W W1 : World} {g t : Nat} {cells : Array Value} {H : Type} {P : Program} {k : TypeId} {Rd : Value → Option (DataW H × List MemPlace)} {b n : Nat} {D : DataW H} (h : W.heap[g]? = some (.cells cells t (0, 0))) (hm : W.ownsMap P k Rd b n D) (hg : W.grownBy W1 (some b)) : W1.heap[g]? = some (.cells cells t (0, 0)) := by
  refine (hg.block g (Array.getElem?_eq_some_iff.1 h).1 ?_).trans h
  intro e1
  cases e1
  obtain ⟨es, clock, h1, _⟩ := hm
  rw [h1] at h
  cases h
theorem law9 : Maps.Keyed Tryd.prog 9 := Maps.string_keyed Tryd.underlying9
theorem zero2 (w : World) : (zeroValue 2).run Tryd.prog w = .ok (.int .i64 0) w := by kernel_rfl
theorem look_known {P : Program} (w : World) {ops : Array Oper} {rest : List Oper} {o : Oper} {a : Act} {Q : Exit → Act → World → Prop} (hg : o.guard = none) (m x : Operand) (t : TypeId) (hop : o.op = Op.lookup t m x true)
    (k e : TypeId) (K : Maps.Keyed P k) (ht : P.underlying t = some (.map k e)) (he : P.underlying e = some (.int .i64)) (hz : (zeroValue e).run P w = .ok (.int .i64 0) w) (b n : Nat) (D : DataW Unit)
    (hm : a.eval m = .map (some b)) (hown : w.ownsMap P k (plainElem P e) b n D) (key : Value) (kl : Lit) (hx : a.eval x = key) (hkey : keyOf P k key = some kl) (i : Int) (bb : Bool) (hD : ∀ z, z = .lit (.int .i64 0) → D.atKey kl z = .lit (.int .i64 i)) (hh : Maps.has D kl = bb)
    (hK : wpList P ops Q rest (a.put o.dst (.tuple #[.int .i64 i, .bool bb])) w) : wpList P ops Q (o :: rest) a w :=
  wpList_lookup_own_ok_int w hg m x t hop k e .i64 K ht he hz b n D hm hown key kl hx hkey (fun c hat hwc => by
    rw [hD _ rfl] at hat
    have hc : i = c := by injection hat with h1; injection h1
    rw [← hc, hh]
    exact hK)
set_option maxHeartbeats 1600000 in
set_option maxRecDepth 100000 in
theorem impl_Garden_round.calls (A0 : Option Addr) (c0 : Nat) (R : List Int) (f : Nat) (lb : Array Value) (eg : ∀ args w, (callFunc f args).run Tryd.prog w = .ok (.enter f args) w) (C : List Int → Int) (w : World) (hr0 : Kd.C (Kd.int .i64) w A0 R.length R) (hc0 : R.length ≤ c0) (hR : 0 < R.length) (hN : R.length ≤ 1000) (hCr : ∀ l : List Int, l.length = R.length → C l = -1 ∨ (0 ≤ C l ∧ C l < (R.length : Int))) (ht : tabW w)
    (hcut : ∀ (W : World) (A : Option Addr) (c : Nat) (l : List Int), Below w.heap.size w W → l.length = R.length → Kd.C (Kd.int .i64) W A l.length l → l.length ≤ c → Calls Tryd.prog f (#[.slice A l.length c] ++ lb) W fun e w' => e = .returned (.int .i64 (C l)) ∧ Below W.heap.size W w') :
    Calls Tryd.prog 23 #[.agg #[.slice A0 R.length c0], .func (.func f) #[] lb] w fun e w' => ∃ v0, e = .returned (.tuple #[v0, .int .i64 (roundL R C 200 0).2.1, .int .i64 (roundL R C 200 0).2.2]) ∧ Kd.R (Kd.int .i64) 2 w' w.heap.size (fun _ => True) v0 (roundL R C 200 0).1 ∧ Below w.heap.size w w' := by
  have hu26 := Tryd.underlying28
  have hmm := @run_makeMap Tryd.prog
  have HB := Aside0.mk (Below.refl w.heap.size w)
  have E0 := Aside0.mk (fun W (hb : Below w.heap.size w W) => impl_Garden_many.calls A0 c0 R (R.length : Int) W (Kd.C_below hr0 hb) hc0 rfl)
  have HDD := Aside0.mk (fun (W : World) (hb : Below w.heap.size w W) (A : Option Addr) (c : Nat) (l : List Int) (hC : Kd.C (Kd.int .i64) W A l.length l) (hc : l.length ≤ c) (hl : l.length = R.length) => impl_Garden_day.calls A0 c0 R A c l f lb eg (C (grT R l 1)) W (Kd.C_below hr0 hb) hc0 hC hc hl (by omega) (hCr _ (grT_length 1 hl)) (fun W' A' c' hb' hC' hc' => hcut W' A' c' (grT R l 1) (below_step hb hb') (grT_length 1 hl) hC' hc'))
  have HT := Aside0.mk ht
  have LN0 := Aside0.mk (show (0 : Int) ≤ (R.length : Int) by omega)
  have LN1 := Aside0.mk (show ((R.length : Int)).toNat * 8 ≤ 281474976710656 by omega)
  have HRN := Aside0.mk (show 0 < R.length ∧ R.length ≤ 1000 from ⟨hR, hN⟩)
  have c0_ := eq_true LN0.out
  clear hr0 hc0 hR hN hCr ht hcut
  generalize hr_ : roundL R C 200 0 = r
  obtain ⟨r1, r2, r3⟩ := r
  have HV := Aside0.mk (show roundL R C (200 - 0) 0 = (r1, r2, r3) from hr_)
  clear hr_
  show Calls Tryd.prog 23 #[.agg #[.slice A0 R.length c0], .func (.func f) #[] lb] w fun e w' => ∃ v0, e = .returned (.tuple #[v0, .int .i64 r2, .int .i64 r3]) ∧ Kd.R (Kd.int .i64) 2 w' w.heap.size (fun _ => True) v0 r1 ∧ Below w.heap.size w w'
  go_enter Tryd.func23, Tryd.ntmps23
  go_wp2_with (first | ((with_reducible refine gate_dst (N := 2) rfl ?_); refine box_event zr (N := 2) zr (cs := #[.slice A0 R.length c0]) (t := 28) zg ?_; intro gb hg w1 hbox hb; have n_ := y3 (below_step HB.out hb) (hbox) ((zS hg : w.heap.size ≤ gb)); clear HB; obtain ⟨HB, BK, GE⟩ := n_; clear hb hbox hg; have hq := zc (blk_below BK.out (below_alloc (Below.refl _ _) (.map #[] 0)))) | (go_at_call 33; refine (E0.out _ (below_alloc HB.out _)).mono ?_; rintro e w2 ⟨rfl, hb⟩; have n_ := y4 (ownsMap_below (World.ownsMap_made (H := Unit) w1 Tryd.prog 9 (plainElem Tryd.prog 2)) hb) (blk_below BK.out ((below_alloc (Below.refl _ _) _).trans (hb.mono (Nat.le_of_lt (by simp))))) (below_size HB.out) (below_step (below_alloc HB.out _) hb); clear BK HB; obtain ⟨HM, BK, GM, HB⟩ := n_; clear hb) | ((with_reducible refine gate_dst (N := 19) rfl ?_); refine Kd.R_make (Kd.int .i64) (w0 := w) w.heap.size 2 rfl (N := 19) rfl 22 _ _ rfl (R.length : Int) rfl rfl Tryd.underlying22 (.int .i64 0) 8 zk rfl (by decide) (by omega) 0 (ok := fun _ => True) (okp := fun _ => True) rfl (fun _ hk => hk) trivial LN0.out LN1.out HB.out (below_size HB.out) ?_; intro v3 w3 ho hb hg_ hnew_; have n_ := y4 (hb) (ho) (HM.out.kept hg_ (by simp)) ((hg_.block gb (Array.getElem?_eq_some_iff.1 BK.out).1 (by simp)).trans BK.out); clear HB HM BK; obtain ⟨HB, HH, HM, BK⟩ := n_; clear hb ho hg_ hnew_))
  obtain ⟨bm, hbm⟩ : ∃ bm, bm = w1.heap.size := ⟨_, rfl⟩
  rw [← hbm] at HM GM ⊢
  clear hbm
  have HH0 := Aside0.mk (show Kd.R (Kd.int .i64) 2 w3 w.heap.size (fun k => True ∧ some k ≠ (Value.slice none 0 0).ownBlock) v3 (hAt R C 0) from Kd.R_apart_nil (by have := HH.out; rwa [Int.toNat_natCast] at this))
  clear HH
  go_loopg [8, 9] 201 (fun kq v8 v9 w' => ∃ n : Nat, Aside0 (n + kq = 201 ∧ n ≤ 200) ∧ Aside0 (roundL R C (200 - n) n = (r1, r2, r3)) ∧ Aside0 (Kd.R (Kd.int .i64) 2 w' w.heap.size (fun k => True ∧ some k ≠ (v9 : Value).ownBlock) v8 (hAt R C n)) ∧ Aside0 (Kd.R (Kd.int .i64) 2 w' w.heap.size (fun _ => True) v9 ((List.range n).map (cAt R C))) ∧ Aside0 (w'.ownsMap Tryd.prog 9 (plainElem Tryd.prog 2) bm n (mapT R C n)) ∧ Aside0 (w'.heap[gb]? = some (.cells #[.slice A0 R.length c0] 28 (0, 0))) ∧ Aside0 (Below w.heap.size w w'))
  case atStart => exact ⟨0, ⟨by omega⟩, HV, HH0, ⟨Kd.R_nil _ _ _ _ _⟩, HM, BK, HB⟩
  case round =>
    clear HV HH0 HM BK HB
    obtain ⟨n, HI, HV, HH, HC, HM, BK, HB⟩ := hrel
    obtain ⟨Ah, ch, e1, hch, -⟩ := Kd.R_reads HH.out
    have HCH := Aside0.mk hch
    subst e1
    obtain ⟨Ac, cc, e1, hcc, -⟩ := Kd.R_reads HC.out
    have HCC0 := Aside0.mk hcc
    subst e1
    have hl := hAt_length R C n
    have HJ := Aside0.mk (fun (W : World) (hb : Below w.heap.size w W) (hC : Kd.C (Kd.int .i64) W Ah (hAt R C n).length (hAt R C n)) => impl_joined.calls Ah ch (hAt R C n) comma W hC (by have := HRN.out; omega) (by have := HRN.out; omega) (hAt_in R C n) (by have := join_le (hAt R C n) (hAt_in R C n); have := HRN.out; omega) (tabW_below HT.out hb))
    have HD := Aside0.mk (fun (W : World) (hb : Below w.heap.size w W) (hC : Kd.C (Kd.int .i64) W Ah (hAt R C n).length (hAt R C n)) => HDD.out W hb Ah ch (hAt R C n) hC HCH.out hl)
    have hsz : (joinedT (hAt R C n) comma).size ≤ maxLen := by
      have := join_le (hAt R C n) (hAt_in R C n)
      have := HRN.out
      show (Lib.join ((hAt R C n).map Lib.itoa) comma.data.toList).toArray.size ≤ maxLen
      rw [List.size_toArray]
      unfold maxLen
      omega
    obtain ⟨m1, m2⟩ := mapT_has R C (hAt R C n) hl n
    have HKY := Aside0.mk (show keyOf Tryd.prog 9 (.string (joinedT (hAt R C n) comma)) = some (keyT (hAt R C n)) from WideMaps.keyOf_string_mk Tryd.underlying9 hsz)
    have HNX : mapT R C (n + 1) = (mapT R C n).put (keyT (hAt R C n)) (.lit (.int .i64 (n : Int))) := rfl
    have HX2 : ((List.range n).map (cAt R C)) ++ [C (grT R (hAt R C n) 1)] = (List.range (n + 1)).map (cAt R C) := by rw [List.range_succ, List.map_append]; rfl
    have HX3 : (if C (grT R (hAt R C n) 1) = -1 then grT R (hAt R C n) 1 else (grT R (hAt R C n) 1).set (C (grT R (hAt R C n) 1)).toNat 0) = hAt R C (n + 1) := rfl
    have hcl : ((List.range n).map (cAt R C)).length = n := by simp
    have HW0 : roundL R C (200 - n) n = (r1, r2, r3) := HV.out
    clear HV hch hcc HDD
    cases hs : seenT R C n (hAt R C n) with
    | some i =>
      rw [roundL_some hs] at HW0
      obtain ⟨hi, ha⟩ := m2 i hs
      rw [hs] at m1
      have HLK := Aside0.mk (show (∀ z, z = DataW.lit (.int .i64 0) → (mapT R C n).atKey (keyT (hAt R C n)) z = .lit (.int .i64 (i : Int))) ∧ Maps.has (mapT R C n) (keyT (hAt R C n)) = true from ⟨fun z _ => ha z, m1⟩)
      have q0 : (0 : Int) ≤ (i : Int) := by omega
      have q1 : (i : Int) ≤ (((List.range n).map (cAt R C)).length : Int) := by rw [hcl]; omega
      have HIL := Aside0.mk (show i ≤ ((List.range n).map (cAt R C)).length ∧ ((List.range n).map (cAt R C)).length ≤ 200 by rw [hcl]; have := HI.out; omega)
      clear m1 m2 ha hs HD HNX HX2 HX3 hl hsz hcl HI
      have z1 := (Prod.mk.inj HW0).1
      have z2 := (Prod.mk.inj (Prod.mk.inj HW0).2).1
      have z3 := (Prod.mk.inj (Prod.mk.inj HW0).2).2
      clear HW0
      have HZ1 := Aside0.mk z1
      have HZ2 := Aside0.mk (show (i : Int) = r2 ∧ (0 : Int) = r3 from ⟨z2, z3⟩)
      clear z1 z2 z3
      generalize mapT R C n = D at HM HLK
      generalize keyT (hAt R C n) = kl at HKY HLK
      generalize joinedT (hAt R C n) comma = ks at HKY HJ
      generalize hAt R C n = H at HH HJ HCH
      generalize (List.range n).map (cAt R C) = cs at HC q1 HZ1 HIL HCC0 ⊢
      obtain ⟨i0, hi0, hL_, hsz0, hR_⟩ := info_parts info2
      have hcut := cut_from (P := Tryd.prog) 22 2 .i64 Tryd.underlying22 hi0 1 hsz0 Ac cs.length cc (i : Int) q0 q1
      simp only [Int.toNat_natCast] at hcut
      have hdl : cs.length - i = (cs.drop i).length := by rw [List.length_drop]
      have HCD := Aside0.mk (fun (W : World) (hC : Kd.C (Kd.int .i64) W Ac cs.length cs) => (show Kd.C (Kd.int .i64) W (if cc = i then Ac else Ac.map (·.add (i * 1))) (cs.drop i).length (cs.drop i) from Kd.C_drop (c := cc) hC HIL.out.1 HCC0.out))
      have HCL := Aside0.mk (fun (W : World) (hb : Below w.heap.size w W) (hC : Kd.C (Kd.int .i64) W (if cc = i then Ac else Ac.map (·.add (i * 1))) (cs.drop i).length (cs.drop i)) => slices_Clone_Sint64_int64.calls (if cc = i then Ac else Ac.map (·.add (i * 1))) (cc - i) (cs.drop i) (cs.drop i) W hC (by rw [List.length_drop]; have := HCC0.out; omega) (by unfold slices_Clone_Sint64_int64.f; rw [if_pos (by rw [List.length_drop]; have := HIL.out; omega)]))
      rw [hdl] at hcut
      clear hdl
      clear hL_ hR_
      clear hi0 hsz0
      clear q0 q1
      generalize cs.drop i = ds at hcut HCD HCL HZ1
      generalize (if cc = i then Ac else Ac.map (·.add (i * 1))) = Ad at hcut HCD HCL
      generalize cc - i = cd at hcut HCL
      go_wp2_with (first | (go_at_call 34; refine (HJ.out _ HB.out (Kd.R_reads' HH.out).2.2).mono ?_; rintro e w4 ⟨rfl, hb⟩; have n_ := y5 (below_step HB.out hb) (Kd.R_below HH.out hb) (Kd.R_below HC.out hb) (ownsMap_below HM.out hb) (blk_below BK.out hb); clear HB HH HC HM BK; obtain ⟨HB, HH, HC, HM, BK⟩ := n_; clear hb) | (at_lookup; refine look_known _ rfl _ _ 51 rfl 9 2 (law9 ) Tryd.underlying51 Tryd.underlying2 (zero2 _) bm n D rfl HM.out _ kl rfl HKY.out (i : Int) true HLK.out.1 HLK.out.2 ?_) | (go_at_call 35; refine (HCL.out _ HB.out (HCD.out _ (Kd.R_reads' HC.out).2.2)).mono ?_; rintro e w5 ⟨vo, rfl, hS, hb⟩; have n_ := y2 (Kd.R_lower hS (below_size HB.out)) (below_step HB.out hb); clear HB; obtain ⟨HO, HB⟩ := n_; clear hb hS))
      go_ret3
      exact ⟨_, by rw [HZ2.out.1, HZ2.out.2]; rfl, by rw [← HZ1.out]; exact HO.out, HB.out⟩
    | none =>
      rw [hs] at m1
      have HLK := Aside0.mk (show (∀ z, z = DataW.lit (.int .i64 0) → (mapT R C n).atKey (keyT (hAt R C n)) z = .lit (.int .i64 0)) ∧ Maps.has (mapT R C n) (keyT (hAt R C n)) = false from ⟨fun z hz => by rw [Maps.atKey_of_not_has m1, hz], m1⟩)
      clear m1 m2 hl hsz
      by_cases h2 : n = 200
      · rw [show 200 - n = 0 by omega, roundL_none0 hs] at HW0
        have e1_ := eq_true (show ((List.range n).map (cAt R C)).length = 200 by rw [hcl]; exact h2)
        have e2_ := eq_true (show (((List.range n).map (cAt R C)).length : Int) = 200 by rw [hcl]; omega)
        have e3_ : ((((List.range n).map (cAt R C)).length : Int) == 200) = true := by rw [hcl]; exact beq_iff_eq.mpr (by omega)
        clear hs HD HNX HX2 HX3 hcl HI h2
        have z1 := (Prod.mk.inj HW0).1
        have z2 := (Prod.mk.inj (Prod.mk.inj HW0).2).1
        have z3 := (Prod.mk.inj (Prod.mk.inj HW0).2).2
        clear HW0
        have HZ1 := Aside0.mk z1
        have HZ2 := Aside0.mk (show (0 : Int) = r2 ∧ (3 : Int) = r3 from ⟨z2, z3⟩)
        clear z1 z2 z3
        generalize mapT R C n = D at HM HLK
        generalize keyT (hAt R C n) = kl at HKY HLK
        generalize joinedT (hAt R C n) comma = ks at HKY HJ
        generalize hAt R C n = H at HH HJ HCH
        generalize (List.range n).map (cAt R C) = cs at HC HCC0 e1_ e2_ e3_ ⊢
        go_wp2_with (first | (go_at_call 34; refine (HJ.out _ HB.out (Kd.R_reads' HH.out).2.2).mono ?_; rintro e w4 ⟨rfl, hb⟩; have n_ := y5 (below_step HB.out hb) (Kd.R_below HH.out hb) (Kd.R_below HC.out hb) (ownsMap_below HM.out hb) (blk_below BK.out hb); clear HB HH HC HM BK; obtain ⟨HB, HH, HC, HM, BK⟩ := n_; clear hb) | (at_lookup; refine look_known _ rfl _ _ 51 rfl 9 2 (law9 ) Tryd.underlying51 Tryd.underlying2 (zero2 _) bm n D rfl HM.out _ kl rfl HKY.out 0 false HLK.out.1 HLK.out.2 ?_))
        go_ret3
        exact ⟨_, by rw [HZ2.out.1, HZ2.out.2]; rfl, by rw [← HZ1.out]; exact Kd.R_nil _ _ _ _ _, HB.out⟩
      · have hn := HI.out
        rw [show 200 - n = (200 - (n + 1)) + 1 by omega, roundL_none hs] at HW0
        have HVN := Aside0.mk HW0
        have e1_ := eq_false (show ¬ ((List.range n).map (cAt R C)).length = 200 by rw [hcl]; exact h2)
        have e2_ := eq_false (show ¬ (((List.range n).map (cAt R C)).length : Int) = 200 by rw [hcl]; omega)
        have e3_ : ((((List.range n).map (cAt R C)).length : Int) == 200) = false := by rw [hcl]; exact beq_eq_false_iff_ne.mpr (by omega)
        have HNL := Aside0.mk (show n < maxLen by unfold maxLen; omega)
        have HWF := Aside0.mk (show (Lit.int .i64 (n : Int)).wf = true from WalkArith.wf_i64 (by omega))
        have HCS := Aside0.mk (show ((List.range n).map (cAt R C)).length ≤ 200 by rw [hcl]; omega)
        have HLN := Aside0.mk (fun (W : World) (hb : Below w.heap.size w W) (hC : Kd.C (Kd.int .i64) W Ac ((List.range n).map (cAt R C)).length ((List.range n).map (cAt R C))) => impl_length_int64.calls Ac cc ((List.range n).map (cAt R C)) (n : Int) W hC HCC0.out (by rw [impl_length_int64.f, hcl]))
        have NX := Aside0.mk HNX
        have NX2 := Aside0.mk HX2
        have NX3 := Aside0.mk HX3
        have HI2 := Aside0.mk (show n < 200 ∧ n + gk = 201 by omega)
        obtain ⟨k1, rfl⟩ : ∃ k1, gk = k1 + 1 := ⟨gk - 1, by omega⟩
        clear hs HNX HX2 HX3 hcl HI HW0 hn h2
        generalize mapT R C n = D at HM HLK NX ⊢
        generalize keyT (hAt R C n) = kl at HKY HLK NX ⊢
        generalize joinedT (hAt R C n) comma = ks at HKY HJ ⊢
        generalize (List.range n).map (cAt R C) = cs at HC HCC0 e1_ e2_ e3_ HCS HLN NX2 ⊢
        generalize C (grT R (hAt R C n) 1) = x at HD NX2 NX3 ⊢
        generalize (if x = -1 then grT R (hAt R C n) 1 else (grT R (hAt R C n) 1).set x.toNat 0) = H2 at HD NX3 ⊢
        generalize hAt R C n = H at HH HJ HCH HD ⊢
        go_wp2_with (first | (go_at_call 34; refine (HJ.out _ HB.out (Kd.R_reads' HH.out).2.2).mono ?_; rintro e w4 ⟨rfl, hb⟩; have n_ := y5 (below_step HB.out hb) (Kd.R_below HH.out hb) (Kd.R_below HC.out hb) (ownsMap_below HM.out hb) (blk_below BK.out hb); clear HB HH HC HM BK; obtain ⟨HB, HH, HC, HM, BK⟩ := n_; clear hb) | (at_lookup; refine look_known _ rfl _ _ 51 rfl 9 2 (law9 ) Tryd.underlying51 Tryd.underlying2 (zero2 _) bm n D rfl HM.out _ kl rfl HKY.out 0 false HLK.out.1 HLK.out.2 ?_) | (go_at_call 36; refine (HLN.out _ HB.out (Kd.R_reads' HC.out).2.2).mono ?_; rintro e w5 ⟨rfl, hb0⟩; have hb := hb0.below; have n_ := y5 (below_step HB.out hb) (Kd.R_below HH.out hb) (Kd.R_below HC.out hb) (ownsMap_below HM.out hb) (blk_below BK.out hb); clear HB HH HC HM BK; obtain ⟨HB, HH, HC, HM, BK⟩ := n_; clear hb hb0) | (at_mapUpdate; refine wpList_mapUpdate_own _ rfl _ _ _ 51 rfl 9 2 law9 Tryd.underlying51 (plainElem Tryd.prog 2) bm n D rfl HM.out HNL.out _ _ kl rfl rfl HKY.out _ [] (plainElem_int Tryd.underlying2 HWF.out) ?_; intro w6 hown hg_; have n_ := y5 (R_mapped HH.out HM.out hg_) (R_mapped HC.out HM.out hg_) (blk_mapped BK.out HM.out hg_) (HB.out.grown hg_ (below_size HB.out) (fun j hj => by cases hj; exact GM.out)) (hown); clear HH HC BK HB HM; obtain ⟨HH, HC, BK, HB, HM⟩ := n_; clear hown hg_; have hq := zc BK.out) | (go_at_call 37; refine (HD.out _ HB.out (Kd.R_reads' HH.out).2.2).mono ?_; rintro e w7 ⟨v0, v1, rfl, hS, hb⟩; have n_ := y5 (Kd.R_lower (Kd.R_new' hS (Kd.R_lt HC.out)) (below_size HB.out)) (below_step HB.out hb) (Kd.R_below HC.out hb) (ownsMap_below HM.out hb) (blk_below BK.out hb); clear HB HC HM BK; obtain ⟨HN, HB, HC, HM, BK⟩ := n_; clear hb hS HH) | ((with_reducible refine gate_builtin (b := .append) (xs := #[.tmp 50, .tmp 52]) rfl ?_); at_builtin; refine Kd.R_append (Kd.int .i64) (w0 := w) w.heap.size rfl (.tmp 50) (.tmp 52) 22 2 (.int .i64 0) 8 rfl Tryd.underlying22 zk rfl (by decide) (by omega) (.slice Ac cs.length cc) cs x [.int .i64 x] (fun _ => True) (fun _ => False) rfl rfl ?aP (fun _ hk => hk.elim) ?aF ?aO ?aB ?aS ?aL ?_; (case aP => exact rfl); (case aB => exact HB.out); (case aF => exact (fun _ _ => trivial)); (case aO => exact HC.out); (case aS => exact (below_size HB.out)); (case aL => have := HCS.out; omega); intro v8 w8 ho hb hg hat; have n_ := y5 (Kd.R_after HN.out hg hat) (HM.out.kept hg (R_off_map HC.out HM.out)) ((hg.block gb (Array.getElem?_eq_some_iff.1 BK.out).1 (Kd.R_ne HC.out BK.out (by decide))).trans BK.out) (ho) (hb); clear HN HM BK HC HB; obtain ⟨HN, HM, BK, HC, HB⟩ := n_; clear ho hb hg hat))
        go_roundg k1
        case measure => omega
        case rel => exact ⟨n + 1, ⟨by have := HI2.out; omega⟩, HVN, ⟨by rw [← NX3.out]; exact HN.out⟩, ⟨by rw [← NX2.out]; exact HC.out⟩, ⟨by rw [NX.out]; exact HM.out⟩, BK, HB⟩
end Go.Proofs.YtajfblkidneckaaDoor.P
end
section
namespace Go.Proofs.YtajfblkidneckaaDoor.P
open Go.RowKit Go.Proofs.YtajfblkidneckaaDoorW.PrintWords Go.Proofs.YtajfblkidneckaaDoorW.PrintLast Go.Proofs.YtajfblkidneckaaDoorW.PrintMore
attribute [local go_sem] max2_int min2_int max_two min_two max_three min_three max_four min_four   -- for this text's walks alone
set_option linter.unusedVariables false
set_option linter.unusedSimpArgs false
def idxF {α : Type} (p : α → Bool) (l : List α) : Int := if l.any p then (l.findIdx p : Int) else -1
def idxL (p : Int → Bool) (l : List Int) : Nat → Int → Option Int
  | 0, _ => none
  | k + 1, i => if i < (l.length : Int) then (if p (rd l i) = true then some i else idxL p l k (wrap64 (i + 1))) else some (-1)
theorem idxL_at (p : Int → Bool) (l : List Int) (hl : l.length ≤ 9223372036854775807) : ∀ (d n : Nat), n + d = l.length → (∀ x ∈ l.take n, p x = false) → idxL p l (d + 1) (n : Int) = some (idxF p l) := by
  intro d
  induction d with
  | zero =>
    intro n hn hp
    have hno : l.any p = false := by
      rw [List.take_of_length_le (by omega)] at hp
      simpa using hp
    simp only [idxL]
    rw [if_neg (by omega), idxF, if_neg (by simp [hno])]
  | succ d ih =>
    intro n hn hp
    have hlt : n < l.length := by omega
    have hrd : rd l (n : Int) = l[n] := by simp [rd, hlt]
    have htake : l.take (n + 1) = l.take n ++ [l[n]] := by rw [List.take_succ_eq_append_getElem hlt]
    rw [idxL, if_pos (by omega), hrd]
    by_cases h : p l[n] = true
    · rw [if_pos h, idxF, if_pos (by simp only [List.any_eq_true]; exact ⟨l[n], List.getElem_mem _, h⟩)]
      congr 2
      symm
      rw [List.findIdx_eq hlt]
      refine ⟨h, fun j hj => ?_⟩
      exact hp _ (List.mem_take_iff_getElem.2 ⟨j, by omega, rfl⟩)
    · rw [if_neg h, show wrap64 ((n : Int) + 1) = ((n + 1 : Nat) : Int) by unfold wrap64; omega]
      refine ih (n + 1) (by omega) ?_
      rw [htake]
      intro x hx
      rcases List.mem_append.1 hx with hx | hx
      · exact hp x hx
      · rw [List.mem_singleton.1 hx]
        simpa using h
theorem idxF_nonneg {α : Type} (p : α → Bool) (l : List α) : decide (0 ≤ idxF p l) = l.any p := by
  unfold idxF
  by_cases h : l.any p = true
  · rw [if_pos h, h]; simp
  · rw [if_neg h]
    simp only [Bool.not_eq_true] at h
    rw [h]; simp
theorem all_not_any {α : Type} (p : α → Bool) (l : List α) : l.all p = !(l.any fun x => !p x) := by
  induction l with
  | nil => rfl
  | cons x l ih => rw [List.all_cons, List.any_cons, Bool.not_or, Bool.not_not, ih]
theorem rd_mem {l : List Int} {i : Int} (h0 : 0 ≤ i) (h : i < (l.length : Int)) : rd l i ∈ l := by
  have hlt : i.toNat < l.length := by omega
  simp [rd, hlt]
end Go.Proofs.YtajfblkidneckaaDoor.P
end
section
namespace Go.Proofs.YtajfblkidneckaaDoor.P
open Go.RowKit Go.Proofs.YtajfblkidneckaaDoorW.PrintWords Go.Proofs.YtajfblkidneckaaDoorW.PrintLast Go.Proofs.YtajfblkidneckaaDoorW.PrintMore
attribute [local go_sem] max2_int min2_int max_two min_two max_three min_three max_four min_four   -- for this text's walks alone
set_option linter.unusedVariables false
set_option linter.unusedSimpArgs false
set_option maxHeartbeats 4000000 in
set_option maxRecDepth 100000 in
theorem fv_IndexFunc (g : Nat) (lb : Array Value) (eg : ∀ args w, (callFunc g args).run Tryd.prog w = .ok (.enter g args) w) (p : Int → Bool) (A0 : Option Addr) (c0 : Nat) (l0 : List Int) (w : World)
    (hr0 : Kd.C (Kd.int .i64) w A0 l0.length l0) (hc0 : l0.length ≤ c0)
    (hp : ∀ (W : World) (x : Int), Below w.heap.size w W → x ∈ l0 → Calls Tryd.prog g (#[.int .i64 x] ++ lb) W fun e w' => e = .returned (.bool (p x)) ∧ Below W.heap.size W w') :
    Calls Tryd.prog 52 #[.slice A0 l0.length c0, .func (.func g) #[] lb] w fun e w' => e = .returned (.int .i64 (idxF p l0)) ∧ Below w.heap.size w w' := by
  have H : idxL p l0 (l0.length + 1) 0 = some (idxF p l0) := idxL_at p l0 hr0.2.1 l0.length 0 (by omega) (by simp)
  generalize idxF p l0 = r at H ⊢
  have HR0 := Aside0.mk hr0
  have HC0 := Aside0.mk hc0
  have HP := Aside0.mk hp
  clear hr0 hc0 hp
  have H' := Aside0.mk H
  clear H
  have HB := Aside0.mk (Below.refl w.heap.size w)
  go_enter Tryd.func52, Tryd.ntmps52
  go_wp2
  go_loopg [5, 8] (l0.length + 1) (fun kq v5 v8 w' => ∃ x8 : Int, v8 = .int .i64 x8 ∧ Aside0 (idxL p l0 kq x8 = some r) ∧ Aside0 (0 ≤ x8) ∧ Aside0 (Below w.heap.size w w'))
  case atStart => exact ⟨0, rfl, H', ⟨by omega⟩, HB⟩
  case round =>
    clear H' HB
    obtain ⟨x8, rfl, HA, H0, HB⟩ := hrel
    cases gk with
    | zero => exact absurd HA.out (by simp [idxL])
    | succ k1 =>
      have H := HA.out
      clear HA
      simp only [idxL] at H
      by_cases c3 : x8 < (l0.length : Int)
      · rw [if_pos c3] at H
        obtain ⟨ad, e1, hx⟩ := Kd.at_int HR0.out x8 H0.out c3
        cases e1
        have hcell := pw_cell_below HB.out hx
        clear hx
        have hcall := HP.out _ (rd l0 x8) HB.out (rd_mem H0.out c3)
        have c3b := decide_eq_true c3
        have c0b := eq_true H0.out
        have c3c := eq_true c3
        have HM : Aside0 (x8 < 9223372036854775807) := ⟨by have := HR0.out.2.1; omega⟩
        clear c3
        generalize rd l0 x8 = y at H hcell hcall
        cases hq : p y with
        | true =>
          rw [hq, if_pos rfl] at H
          rw [hq] at hcall
          obtain rfl := Option.some.inj H
          clear H hq
          have HQ := Aside0.mk hcall
          clear hcall
          go_wp2_with (go_at_fn g; refine HQ.out.mono ?_; rintro e w' ⟨rfl, hb1⟩)
          go_ret
          exact ⟨rfl, below_step HB.out hb1⟩
        | false =>
          rw [hq, if_neg (by simp)] at H
          rw [hq] at hcall
          have H' := Aside0.mk H
          clear H hq
          have HQ := Aside0.mk hcall
          clear hcall
          go_wp2_with (go_at_fn g; refine HQ.out.mono ?_; rintro e w' ⟨rfl, hb1⟩)
          go_roundg k1
          case measure => omega
          case rel => exact ⟨(wrap64 (x8 + 1)), zF, H', ⟨by have h1 := HM.out; have h2 := H0.out; unfold wrap64; omega⟩, ⟨below_step HB.out hb1⟩⟩
      · rw [if_neg c3] at H
        obtain rfl := Option.some.inj H
        have c3b := decide_eq_false c3
        clear c3 H
        go_wp2
        go_ret
        exact ⟨rfl, HB.out⟩
set_option maxHeartbeats 4000000 in
theorem fv_ContainsFunc (g : Nat) (lb : Array Value) (eg : ∀ args w, (callFunc g args).run Tryd.prog w = .ok (.enter g args) w) (p : Int → Bool) (A0 : Option Addr) (c0 : Nat) (l0 : List Int) (w : World)
    (hr0 : Kd.C (Kd.int .i64) w A0 l0.length l0) (hc0 : l0.length ≤ c0)
    (hp : ∀ (W : World) (x : Int), Below w.heap.size w W → x ∈ l0 → Calls Tryd.prog g (#[.int .i64 x] ++ lb) W fun e w' => e = .returned (.bool (p x)) ∧ Below W.heap.size W w') :
    Calls Tryd.prog 46 #[.slice A0 l0.length c0, .func (.func g) #[] lb] w fun e w' => e = .returned (.bool (l0.any p)) ∧ Below w.heap.size w w' := by
  rw [← idxF_nonneg p l0]
  have HQ := Aside0.mk (fv_IndexFunc g lb eg p A0 c0 l0 w hr0 hc0 hp)
  clear hr0 hc0 hp
  go_enter Tryd.func46, Tryd.ntmps46
  go_wp2_with (go_at_call 52; refine HQ.out.mono ?_; rintro e w' ⟨rfl, hb1⟩)
  go_ret
  exact ⟨rfl, hb1⟩
set_option maxHeartbeats 4000000 in
theorem fv_areAll_1 (g : Nat) (lb : Array Value) (eg : ∀ args w, (callFunc g args).run Tryd.prog w = .ok (.enter g args) w) (p : Int → Bool) (B : Nat) (x : Int) (W : World)
    (hc : W.cell? ⟨B, 0, none⟩ = some (.func (.func g) #[] lb))
    (hp : Calls Tryd.prog g (#[.int .i64 x] ++ lb) W fun e w' => e = .returned (.bool (p x)) ∧ Below W.heap.size W w') :
    Calls Tryd.prog 47 #[.int .i64 x, .pointer (some ⟨B, 0, none⟩)] W fun e w' => e = .returned (.bool (!p x)) ∧ Below W.heap.size W w' := by
  have HQ := Aside0.mk hp
  clear hp
  generalize p x = b at HQ ⊢
  go_enter Tryd.func47, Tryd.ntmps47
  go_wp2_with (go_at_fn g; refine HQ.out.mono ?_; rintro e w' ⟨rfl, hb1⟩)
  go_ret
  exact ⟨rfl, hb1⟩
set_option maxHeartbeats 4000000 in
theorem fv_areAll (g : Nat) (lb : Array Value) (eg : ∀ args w, (callFunc g args).run Tryd.prog w = .ok (.enter g args) w) (p : Int → Bool) (A0 : Option Addr) (c0 : Nat) (l0 : List Int) (w : World)
    (hr0 : Kd.C (Kd.int .i64) w A0 l0.length l0) (hc0 : l0.length ≤ c0)
    (hp : ∀ (W : World) (x : Int), Below w.heap.size w W → x ∈ l0 → Calls Tryd.prog g (#[.int .i64 x] ++ lb) W fun e w' => e = .returned (.bool (p x)) ∧ Below W.heap.size W w') :
    Calls Tryd.prog 41 #[.slice A0 l0.length c0, .func (.func g) #[] lb] w fun e w' => e = .returned (.bool (l0.all p)) ∧ Below w.heap.size w w' := by
  rw [all_not_any p l0]
  have e1 : ∀ args w, (callFunc 47 args).run Tryd.prog w = .ok (.enter 47 args) w := enters_of Tryd.func47 zk rfl
  have hB : Below w.heap.size w (w.alloc (.cells #[.func (.func g) #[] lb] 43)) := below_alloc (Below.refl _ _) _
  have HQ := Aside0.mk (fv_ContainsFunc 47 #[.pointer (some ⟨w.heap.size, 0, none⟩)] e1 (fun x => !p x) A0 c0 l0 (w.alloc (.cells #[.func (.func g) #[] lb] 43)) (Kd.C_below hr0 hB) hc0
    (fun W x hb hx => fv_areAll_1 g lb eg p w.heap.size x W ((hb.cell (p := ⟨w.heap.size, 0, none⟩) (by simp)).trans (by simp)) (hp W x (below_step hB hb) hx)))
  have HB := Aside0.mk hB
  clear hr0 hc0 hp hB
  generalize (l0.any fun x => !p x) = b at HQ ⊢
  go_enter Tryd.func41, Tryd.ntmps41
  go_wp2_with (go_at_call 46; refine HQ.out.mono ?_; rintro e w' ⟨rfl, hb1⟩)
  go_ret
  exact ⟨rfl, below_step HB.out hb1⟩
end Go.Proofs.YtajfblkidneckaaDoor.P
end
section
namespace Go.Proofs.YtajfblkidneckaaDoor.P
open Go.RowKit Go.Proofs.YtajfblkidneckaaDoorW.PrintWords Go.Proofs.YtajfblkidneckaaDoorW.PrintLast Go.Proofs.YtajfblkidneckaaDoorW.PrintMore
attribute [local go_sem] max2_int min2_int max_two min_two max_three min_three max_four min_four   -- for this text's walks alone
set_option linter.unusedVariables false
set_option linter.unusedSimpArgs false
def impl_within.f (a0 : Int) (a1 : Int) (a2 : Int) : Option (Bool) := if a1 ≤ a0 then (some (decide (a0 ≤ a2))) else (some false)
set_option maxHeartbeats 8000000 in
set_option maxRecDepth 100000 in
theorem impl_within.calls (a0 : Int) (a1 : Int) (a2 : Int) (r : Bool) (w : World) (h : impl_within.f a0 a1 a2 = some r) :
    Calls Tryd.prog 32 #[.int .i64 a0, .int .i64 a1, .int .i64 a2] w fun e w' => e = .returned (.bool r) ∧ Drawn0 w w' := by
 have H : (if a1 ≤ a0 then (some (decide (a0 ≤ a2))) else (some false)) = some r := h
 clear h
 by_cases c4 : a1 ≤ a0
 ·
  rw [if_pos c4] at H
  have c4b0 : decide (a1 ≤ a0) = true := decide_eq_true c4
  clear c4
  obtain rfl := Option.some.inj H
  go_enter Tryd.func32, Tryd.ntmps32
  go_wp2
  go_ret
  exact ⟨by first | rfl | (simp; done) | (simp [*]; done), by repeat (first | exact Drawn0.refl _ | apply Drawn0.step)⟩
 rw [if_neg c4] at H
 have c4b0 : decide (a1 ≤ a0) = false := decide_eq_false c4
 clear c4
 obtain rfl := Option.some.inj H
 go_enter Tryd.func32, Tryd.ntmps32
 go_wp2
 go_ret
 exact ⟨by first | rfl | (simp; done) | (simp [*]; done), by repeat (first | exact Drawn0.refl _ | apply Drawn0.step)⟩
end Go.Proofs.YtajfblkidneckaaDoor.P
end
section
namespace Go.Proofs.YtajfblkidneckaaDoor.P
open Go.RowKit Go.Proofs.YtajfblkidneckaaDoorW.PrintWords Go.Proofs.YtajfblkidneckaaDoorW.PrintLast Go.Proofs.YtajfblkidneckaaDoorW.PrintMore
attribute [local go_sem] max2_int min2_int max_two min_two max_three min_three max_four min_four   -- for this text's walks alone
set_option linter.unusedVariables false
set_option linter.unusedSimpArgs false
theorem within_f (n lo hi : Int) : impl_within.f n lo hi = some (decide (lo ≤ n ∧ n ≤ hi)) := by
  unfold impl_within.f
  by_cases h : lo ≤ n
  · rw [if_pos h]; simp [h]
  · rw [if_neg h]; simp [h]
theorem within_yes {n lo hi : Int} (h : lo ≤ n ∧ n ≤ hi) : impl_within.f n lo hi = some true := by rw [within_f, decide_eq_true h]
theorem within_not {n lo hi : Int} (h : ¬ (lo ≤ n ∧ n ≤ hi)) : impl_within.f n lo hi = some false := by rw [within_f, decide_eq_false h]
end Go.Proofs.YtajfblkidneckaaDoor.P
end
section
namespace Go.Proofs.YtajfblkidneckaaDoor.P
open Go.RowKit Go.Proofs.YtajfblkidneckaaDoorW.PrintWords Go.Proofs.YtajfblkidneckaaDoorW.PrintLast Go.Proofs.YtajfblkidneckaaDoorW.PrintMore
attribute [local go_sem] max2_int min2_int max_two min_two max_three min_three max_four min_four   -- for this text's walks alone
set_option linter.unusedVariables false
set_option linter.unusedSimpArgs false
def impl_IsGarden.f (l0_0 : List Int) : Option Bool := some (decide (1 ≤ (l0_0.length : Int) ∧ (l0_0.length : Int) ≤ 8) && l0_0.all fun g => decide (1 ≤ g ∧ g ≤ 20))
theorem fv_IsGarden_1 (x : Int) (W : World) :
    Calls Tryd.prog 42 (#[.int .i64 x] ++ #[]) W fun e w' => e = .returned (.bool (decide (1 ≤ x ∧ x ≤ 20))) ∧ Below W.heap.size W w' := by
  have HQ := Aside0.mk (impl_within.calls x 1 20 _ W (within_f x 1 20))
  generalize decide (1 ≤ x ∧ x ≤ 20) = b at HQ ⊢
  show Calls Tryd.prog 42 #[.int .i64 x] W _
  go_enter Tryd.func42, Tryd.ntmps42
  go_wp2_with (go_at_call 32; refine HQ.out.mono ?_; rintro e w' ⟨rfl, hb1⟩)
  go_ret
  exact ⟨rfl, hb1.below⟩
set_option maxHeartbeats 4000000 in
set_option maxRecDepth 100000 in
theorem impl_IsGarden.calls (A0_0 : Option Addr) (c0_0 : Nat) (l0_0 : List Int) (r : Bool) (w : World) (hr0_0 : Kd.C (Kd.int .i64) w A0_0 l0_0.length l0_0) (hc0_0 : l0_0.length ≤ c0_0) (h : impl_IsGarden.f l0_0 = some r) :
    Calls Tryd.prog 31 #[.agg #[.slice A0_0 l0_0.length c0_0]] w fun e w' => e = .returned (.bool r) ∧ Below w.heap.size w w' := by
  have hu := Tryd.underlying28
  obtain rfl := Option.some.inj h
  clear h
  have e1 : ∀ args w, (callFunc 42 args).run Tryd.prog w = .ok (.enter 42 args) w := enters_of Tryd.func42 zk rfl
  have HQ := Aside0.mk (fun (W : World) (hb : Below w.heap.size w W) => fv_areAll 42 #[] e1 (fun g => decide (1 ≤ g ∧ g ≤ 20)) A0_0 c0_0 l0_0 W (Kd.C_below hr0_0 hb) hc0_0 (fun W' x _ _ => fv_IsGarden_1 x W'))
  have HL := Aside0.mk (fun (W : World) (hb : Below w.heap.size w W) => impl_length_int64.calls A0_0 c0_0 l0_0 _ W (Kd.C_below hr0_0 hb) hc0_0 rfl)
  have HR := Aside0.mk hr0_0
  clear hr0_0 hc0_0 e1
  have HB := Aside0.mk (Below.refl w.heap.size w)
  generalize l0_0.all (fun g => decide (1 ≤ g ∧ g ≤ 20)) = b at HQ ⊢
  by_cases h1 : 1 ≤ (l0_0.length : Int) ∧ (l0_0.length : Int) ≤ 8
  · have HW := Aside0.mk (fun W => impl_within.calls (l0_0.length : Int) 1 8 _ W (within_yes h1))
    rw [decide_eq_true h1, Bool.true_and]
    clear h1
    go_enter Tryd.func31, Tryd.ntmps31
    go_wp2_with (first
      | (go_at_call 36; refine (HL.out _ (by repeat (first | exact HB.out | apply below_alloc | apply pw_below_drewN | apply below_drew1))).mono ?_; rintro e w' ⟨rfl, ⟨n1, rfl⟩⟩)
      | (go_at_call 32; refine (HW.out _).mono ?_; rintro e w' ⟨rfl, ⟨n2, rfl⟩⟩)
      | (go_at_call 41; refine (HQ.out _ (by repeat (first | exact HB.out | apply below_alloc | apply pw_below_drewN | apply below_drew1))).mono ?_; rintro e w' ⟨rfl, hb1⟩))
    go_ret
    exact ⟨rfl, below_step (by repeat (first | exact HB.out | apply below_alloc | apply pw_below_drewN | apply below_drew1)) hb1⟩
  · have HW := Aside0.mk (fun W => impl_within.calls (l0_0.length : Int) 1 8 _ W (within_not h1))
    rw [decide_eq_false h1, Bool.false_and]
    clear h1
    go_enter Tryd.func31, Tryd.ntmps31
    go_wp2_with (first
      | (go_at_call 36; refine (HL.out _ (by repeat (first | exact HB.out | apply below_alloc | apply pw_below_drewN | apply below_drew1))).mono ?_; rintro e w' ⟨rfl, ⟨n1, rfl⟩⟩)
      | (go_at_call 32; refine (HW.out _).mono ?_; rintro e w' ⟨rfl, ⟨n2, rfl⟩⟩))
    go_ret
    exact ⟨rfl, by repeat (first | exact HB.out | apply below_alloc | apply pw_below_drewN | apply below_drew1)⟩
end Go.Proofs.YtajfblkidneckaaDoor.P
end
section
namespace Go.Proofs.YtajfblkidneckaaDoor.P
open Go.RowKit Go.Proofs.YtajfblkidneckaaDoorW.PrintWords Go.Proofs.YtajfblkidneckaaDoorW.PrintLast Go.Proofs.YtajfblkidneckaaDoorW.PrintMore
attribute [local go_sem] max2_int min2_int max_two min_two max_three min_three max_four min_four   -- for this text's walks alone
set_option linter.unusedVariables false
set_option linter.unusedSimpArgs false
def impl_gardenCode.f (l0_0 : List Int) (a1 : Bool) : Option (Int) := (impl_IsGarden.f l0_0).bind fun t102 => (if t102 = true then (if a1 = true then (some 0) else (some 2)) else (some 1))
set_option maxHeartbeats 8000000 in
set_option maxRecDepth 100000 in
theorem impl_gardenCode.calls (A0_0 : Option Addr) (c0_0 : Nat) (l0_0 : List Int) (a1 : Bool) (r : Int) (w : World) (hr0_0 : Kd.C (Kd.int .i64) w A0_0 l0_0.length l0_0) (hc0_0 : l0_0.length ≤ c0_0) (h : impl_gardenCode.f l0_0 a1 = some r) :
    Calls Tryd.prog 21 #[.agg #[.slice A0_0 l0_0.length c0_0], .bool a1] w fun e w' => e = .returned (.int .i64 r) ∧ Below w.heap.size w w' := by
 have hu28 := Tryd.underlying28
 have HR0_0 := Aside0.mk hr0_0
 have HC0_0 := Aside0.mk hc0_0
 clear hr0_0 hc0_0
 have HB := Aside0.mk (Below.refl w.heap.size w)
 have H : ((impl_IsGarden.f l0_0).bind fun t102 => (if t102 = true then (if a1 = true then (some 0) else (some 2)) else (some 1))) = some r := h
 clear h
 replace H := Option.bind_eq_some_iff.mp H
 obtain ⟨t102, A30, H⟩ := H
 replace H : (if t102 = true then (if a1 = true then (some 0) else (some 2)) else (some 1)) = some r := H
 have A3 := Aside0.mk A30
 clear A30
 by_cases c4 : t102 = true
 ·
  subst c4
  have H1 : (if a1 = true then (some 0) else (some 2)) = some r := by rw [if_pos rfl] at H; exact H
  clear H
  have H := H1
  clear H1
  by_cases c5 : a1 = true
  ·
   subst c5
   have H1 : (some 0) = some r := by rw [if_pos rfl] at H; exact H
   clear H
   have H := H1
   clear H1
   obtain rfl := Option.some.inj H
   go_enter Tryd.func21, Tryd.ntmps21
   go_wp2_with (first | ((with_reducible refine gate_dst (N := 2) rfl ?_); refine box_event zr (N := 2) zr (cs := #[.slice A0_0 l0_0.length c0_0]) (t := 28) zg ?_; intro gb101 hg w6 hbox hb; have n_ := y4 (below_step (zB) hb) (hbox) ((zS hg : w.heap.size ≤ gb101)) ((zS hg : w.heap.size ≤ gb101)); clear HB; obtain ⟨HB, BK101, GW101, GE101⟩ := n_; clear hb hbox hg; have hcz7_0 := zc BK101.out; have hfz7_0 := blk_frozen BK101.out 0) | ((with_reducible refine gate_callee (f := 31) rfl ?_); refine goesL_ (some 7) rfl rfl Tryd.func31 zk rfl #[.agg #[.slice A0_0 l0_0.length c0_0]] rfl zA ?_; (with_reducible refine (impl_IsGarden.calls _ _ l0_0 true _ ?side1 ?side2 A3.out).mono ?_); (case side1 => exact zC (Kd.C_below HR0_0.out HB.out)); (case side2 => exact HC0_0.out); rintro e w8 ⟨rfl, hb⟩; refine ⟨_, rfl, ?_⟩; have n_ := y2 (zb BK101.out hb) (below_step (zB) hb); clear BK101 HB; obtain ⟨BK101, HB⟩ := n_; (try clear hb); (try clear hb2); (try clear hk); (try clear hi)))
   go_ret
   exact ⟨zE, zB⟩
  replace c5 := Bool.eq_false_iff.mpr c5
  subst c5
  have H1 : (some 2) = some r := by rw [if_neg (show ¬ (false = true) by decide)] at H; exact H
  clear H
  have H := H1
  clear H1
  obtain rfl := Option.some.inj H
  go_enter Tryd.func21, Tryd.ntmps21
  go_wp2_with (first | ((with_reducible refine gate_dst (N := 2) rfl ?_); refine box_event zr (N := 2) zr (cs := #[.slice A0_0 l0_0.length c0_0]) (t := 28) zg ?_; intro gb101 hg w9 hbox hb; have n_ := y4 (below_step (zB) hb) (hbox) ((zS hg : w.heap.size ≤ gb101)) ((zS hg : w.heap.size ≤ gb101)); clear HB; obtain ⟨HB, BK101, GW101, GE101⟩ := n_; clear hb hbox hg; have hcz10_0 := zc BK101.out; have hfz10_0 := blk_frozen BK101.out 0) | ((with_reducible refine gate_callee (f := 31) rfl ?_); refine goesL_ (some 7) rfl rfl Tryd.func31 zk rfl #[.agg #[.slice A0_0 l0_0.length c0_0]] rfl zA ?_; (with_reducible refine (impl_IsGarden.calls _ _ l0_0 true _ ?side1 ?side2 A3.out).mono ?_); (case side1 => exact zC (Kd.C_below HR0_0.out HB.out)); (case side2 => exact HC0_0.out); rintro e w11 ⟨rfl, hb⟩; refine ⟨_, rfl, ?_⟩; have n_ := y2 (zb BK101.out hb) (below_step (zB) hb); clear BK101 HB; obtain ⟨BK101, HB⟩ := n_; (try clear hb); (try clear hb2); (try clear hk); (try clear hi)))
  go_ret
  exact ⟨zE, zB⟩
 replace c4 := Bool.eq_false_iff.mpr c4
 subst c4
 have H1 : (some 1) = some r := by rw [if_neg (show ¬ (false = true) by decide)] at H; exact H
 clear H
 have H := H1
 clear H1
 obtain rfl := Option.some.inj H
 go_enter Tryd.func21, Tryd.ntmps21
 go_wp2_with (first | ((with_reducible refine gate_dst (N := 2) rfl ?_); refine box_event zr (N := 2) zr (cs := #[.slice A0_0 l0_0.length c0_0]) (t := 28) zg ?_; intro gb101 hg w12 hbox hb; have n_ := y4 (below_step (zB) hb) (hbox) ((zS hg : w.heap.size ≤ gb101)) ((zS hg : w.heap.size ≤ gb101)); clear HB; obtain ⟨HB, BK101, GW101, GE101⟩ := n_; clear hb hbox hg; have hcz13_0 := zc BK101.out; have hfz13_0 := blk_frozen BK101.out 0) | ((with_reducible refine gate_callee (f := 31) rfl ?_); refine goesL_ (some 7) rfl rfl Tryd.func31 zk rfl #[.agg #[.slice A0_0 l0_0.length c0_0]] rfl zA ?_; (with_reducible refine (impl_IsGarden.calls _ _ l0_0 false _ ?side1 ?side2 A3.out).mono ?_); (case side1 => exact zC (Kd.C_below HR0_0.out HB.out)); (case side2 => exact HC0_0.out); rintro e w14 ⟨rfl, hb⟩; refine ⟨_, rfl, ?_⟩; have n_ := y2 (zb BK101.out hb) (below_step (zB) hb); clear BK101 HB; obtain ⟨BK101, HB⟩ := n_; (try clear hb); (try clear hb2); (try clear hk); (try clear hi)))
 go_ret
 exact ⟨zE, zB⟩
end Go.Proofs.YtajfblkidneckaaDoor.P
end
section
namespace Go.Proofs.YtajfblkidneckaaDoor.P
open Go.RowKit Go.Proofs.YtajfblkidneckaaDoorW.PrintWords Go.Proofs.YtajfblkidneckaaDoorW.PrintLast Go.Proofs.YtajfblkidneckaaDoorW.PrintMore
attribute [local go_sem] max2_int min2_int max_two min_two max_three min_three max_four min_four   -- for this text's walks alone
set_option linter.unusedVariables false
set_option linter.unusedSimpArgs false
def slices_Index_Sint64_int64.l0 : Nat → List Int → Int → Int → Int → Option (Int)
  | 0, _, _, _, _ => none
  | k + 1, x0, x1, x7, x8 => if x8 < x7 then (if 0 ≤ x8 then (if x8 < (x0.length : Int) then (if x1 = (rd x0 x8) then (some x8) else (slices_Index_Sint64_int64.l0 k x0 x1 x7 (wrap64 (x8 + 1)))) else (none)) else (none)) else (some (-1))
def slices_Index_Sint64_int64.f (k : Nat) (l0 : List Int) (a1 : Int) : Option (Int) := slices_Index_Sint64_int64.l0 k l0 a1 (l0.length : Int) 0
theorem slices_Index_Sint64_int64.mono_l : ∀ k, (∀ y0 y1 y2 y3, LeO (slices_Index_Sint64_int64.l0 k y0 y1 y2 y3) (slices_Index_Sint64_int64.l0 (k + 1) y0 y1 y2 y3))
  | 0 => fun _ _ _ _ r h => by simp [slices_Index_Sint64_int64.l0] at h
  | k + 1 => by
    have ih0 := slices_Index_Sint64_int64.mono_l k
    · intro y0 y1 y2 y3
      unfold slices_Index_Sint64_int64.l0
      repeat' first | (with_reducible exact ih0 _ _ _ _) | (with_reducible exact LeO.refl _) | (with_reducible exact LeO.none _) | (with_reducible refine LeO.ite ?_ ?_) | (with_reducible refine LeO.bind ?_ (fun _ => ?_)) | exact ih0 _ _ _ _ | exact LeO.none _ | refine LeO.ite ?_ ?_ | refine LeO.bind ?_ (fun _ => ?_)
theorem slices_Index_Sint64_int64.mono : ∀ a0 a1 k, LeO (slices_Index_Sint64_int64.f k a0 a1) (slices_Index_Sint64_int64.f (k + 1) a0 a1) := by
  intro a0 a1 k
  have ih0 := slices_Index_Sint64_int64.mono_l k
  unfold slices_Index_Sint64_int64.f
  repeat' first | (with_reducible exact ih0 _ _ _ _) | (with_reducible exact LeO.refl _) | (with_reducible exact LeO.none _) | (with_reducible refine LeO.ite ?_ ?_) | (with_reducible refine LeO.bind ?_ (fun _ => ?_)) | exact ih0 _ _ _ _ | exact LeO.none _ | refine LeO.ite ?_ ?_ | refine LeO.bind ?_ (fun _ => ?_)
set_option maxHeartbeats 8000000 in
set_option maxRecDepth 100000 in
theorem slices_Index_Sint64_int64.calls (k : Nat) (A0 : Option Addr) (c0 : Nat) (l0 : List Int) (a1 : Int) (r : Int) (w : World) (hr0 : Kd.C (Kd.int .i64) w A0 l0.length l0) (hc0 : l0.length ≤ c0) (h : slices_Index_Sint64_int64.f k l0 a1 = some r) :
    Calls Tryd.prog 39 #[.slice A0 l0.length c0, .int .i64 a1] w fun e w' => e = .returned (.int .i64 r) ∧ Drawn0 w w' := by
 have HR0 := Aside0.mk hr0
 have HC0 := Aside0.mk hc0
 clear hr0 hc0
 have H : (slices_Index_Sint64_int64.l0 k l0 a1 (l0.length : Int) 0) = some r := h
 clear h
 have H' := Aside0.mk H
 clear H
 go_enter Tryd.func39, Tryd.ntmps39
 go_wp2
 go_loopg [8] k (fun kq v8 w' => ∃ (x8_1 : Int), v8 = .int .i64 x8_1 ∧ Aside0 (slices_Index_Sint64_int64.l0 kq l0 a1 (l0.length : Int) x8_1 = some r) ∧ Aside0 (kq ≤ k) ∧ Drawn0 w w')
 case atStart => exact ⟨(0), zF, H', ⟨Nat.le_refl _⟩, by repeat (first | exact Drawn0.refl _ | apply Drawn0.step)⟩
 clear H'
 obtain ⟨x8_1, rfl, HA, HK1, ⟨m1, rfl⟩⟩ := hrel
 cases gk with
 | zero => exact absurd HA.out (by simp [slices_Index_Sint64_int64.l0])
 | succ k1 =>
   have H := HA.out
   clear HA
   simp only [slices_Index_Sint64_int64.l0] at H
   by_cases c3 : x8_1 < (l0.length : Int)
   · rw [if_pos c3] at H
     have c3b0 : decide (x8_1 < (l0.length : Int)) = true := decide_eq_true c3
     clear c3
     by_cases c4 : 0 ≤ x8_1
     · rw [if_pos c4] at H
       have c4b0 : decide (0 ≤ x8_1) = true := decide_eq_true c4
       clear c4
       by_cases c5 : x8_1 < (l0.length : Int)
       · rw [if_pos c5] at H
         have c5b0 : decide (x8_1 < (l0.length : Int)) = true := decide_eq_true c5
         clear c5
         by_cases c6 : a1 = (rd l0 x8_1)
         · rw [if_pos c6] at H
           have c6b0 : (a1 == (rd l0 x8_1)) = true := beq_iff_eq.mpr c6
           have c6b1 : (a1 != (rd l0 x8_1)) = false := bne_eq_false_iff_eq.mpr c6
           clear c6
           obtain rfl := Option.some.inj H
           have p101 : 0 ≤ (x8_1 : Int) := zD
           have q101 : x8_1 < (l0.length : Int) := zD
           obtain ⟨ad101, e101, hx101_0⟩ := Kd.at_int HR0.out x8_1 p101 q101
           cases e101
           replace p101 := eq_true p101
           replace q101 := eq_true q101
           go_wp2
           go_ret
           exact ⟨by first | rfl | (simp; done) | (simp [*]; done), by repeat (first | exact Drawn0.refl _ | apply Drawn0.step)⟩
         · rw [if_neg c6] at H
           have c6b0 : (a1 == (rd l0 x8_1)) = false := beq_eq_false_iff_ne.mpr c6
           have c6b1 : (a1 != (rd l0 x8_1)) = true := bne_iff_ne.mpr c6
           have H' := Aside0.mk H
           clear H
           have p101 : 0 ≤ (x8_1 : Int) := zD
           have q101 : x8_1 < (l0.length : Int) := zD
           obtain ⟨ad101, e101, hx101_0⟩ := Kd.at_int HR0.out x8_1 p101 q101
           cases e101
           replace p101 := eq_true p101
           replace q101 := eq_true q101
           go_wp2
           go_roundg k1
           case measure => have := HK1.out; omega
           case rel => exact ⟨(wrap64 (x8_1 + 1)), zF, H', ⟨by have := HK1.out; omega⟩, by repeat (first | exact Drawn0.refl _ | apply Drawn0.step)⟩
       · rw [if_neg c5] at H
         exact absurd H (by simp)
     · rw [if_neg c4] at H
       exact absurd H (by simp)
   · rw [if_neg c3] at H
     have c3b0 : decide (x8_1 < (l0.length : Int)) = false := decide_eq_false c3
     clear c3
     obtain rfl := Option.some.inj H
     go_wp2
     go_ret
     exact ⟨by first | rfl | (simp; done) | (simp [*]; done), by repeat (first | exact Drawn0.refl _ | apply Drawn0.step)⟩
end Go.Proofs.YtajfblkidneckaaDoor.P
end
section
namespace Go.Proofs.YtajfblkidneckaaDoor.P
open Go.RowKit Go.Proofs.YtajfblkidneckaaDoorW.PrintWords Go.Proofs.YtajfblkidneckaaDoorW.PrintLast Go.Proofs.YtajfblkidneckaaDoorW.PrintMore
attribute [local go_sem] max2_int min2_int max_two min_two max_three min_three max_four min_four   -- for this text's walks alone
set_option linter.unusedVariables false
set_option linter.unusedSimpArgs false
def slices_Max_Sint64_int64.l0 : Nat → List Int → Int → Int → Option (Int)
  | 0, _, _, _ => none
  | k + 1, x0, x3, x4 => if x4 < (x0.length : Int) then (if 0 ≤ x4 then (slices_Max_Sint64_int64.l0 k x0 (mx x3 (rd x0 x4)) (wrap64 (x4 + 1))) else (none)) else (some x3)
def slices_Max_Sint64_int64.f (k : Nat) (l0 : List Int) : Option (Int) := if (l0.length : Int) < 1 then (none) else (if 0 < (l0.length : Int) then (slices_Max_Sint64_int64.l0 k l0 (rd l0 0) 1) else (none))
theorem slices_Max_Sint64_int64.mono_l : ∀ k, (∀ y0 y1 y2, LeO (slices_Max_Sint64_int64.l0 k y0 y1 y2) (slices_Max_Sint64_int64.l0 (k + 1) y0 y1 y2))
  | 0 => fun _ _ _ r h => by simp [slices_Max_Sint64_int64.l0] at h
  | k + 1 => by
    have ih0 := slices_Max_Sint64_int64.mono_l k
    · intro y0 y1 y2
      unfold slices_Max_Sint64_int64.l0
      repeat' first | (with_reducible exact ih0 _ _ _) | (with_reducible exact LeO.refl _) | (with_reducible exact LeO.none _) | (with_reducible refine LeO.ite ?_ ?_) | (with_reducible refine LeO.bind ?_ (fun _ => ?_)) | exact ih0 _ _ _ | exact LeO.none _ | refine LeO.ite ?_ ?_ | refine LeO.bind ?_ (fun _ => ?_)
theorem slices_Max_Sint64_int64.mono : ∀ a0 k, LeO (slices_Max_Sint64_int64.f k a0) (slices_Max_Sint64_int64.f (k + 1) a0) := by
  intro a0 k
  have ih0 := slices_Max_Sint64_int64.mono_l k
  unfold slices_Max_Sint64_int64.f
  repeat' first | (with_reducible exact ih0 _ _ _) | (with_reducible exact LeO.refl _) | (with_reducible exact LeO.none _) | (with_reducible refine LeO.ite ?_ ?_) | (with_reducible refine LeO.bind ?_ (fun _ => ?_)) | exact ih0 _ _ _ | exact LeO.none _ | refine LeO.ite ?_ ?_ | refine LeO.bind ?_ (fun _ => ?_)
set_option maxHeartbeats 8000000 in
set_option maxRecDepth 100000 in
theorem slices_Max_Sint64_int64.calls (k : Nat) (A0 : Option Addr) (c0 : Nat) (l0 : List Int) (r : Int) (w : World) (hr0 : Kd.C (Kd.int .i64) w A0 l0.length l0) (hc0 : l0.length ≤ c0) (h : slices_Max_Sint64_int64.f k l0 = some r) :
    Calls Tryd.prog 40 #[.slice A0 l0.length c0] w fun e w' => e = .returned (.int .i64 r) ∧ Below w.heap.size w w' := by
 have HR0 := Aside0.mk hr0
 have HC0 := Aside0.mk hc0
 clear hr0 hc0
 have HB := Aside0.mk (Below.refl w.heap.size w)
 have H : (if (l0.length : Int) < 1 then (none) else (if 0 < (l0.length : Int) then (slices_Max_Sint64_int64.l0 k l0 (rd l0 0) 1) else (none))) = some r := h
 clear h
 by_cases c2 : (l0.length : Int) < 1
 ·
  rw [if_pos c2] at H
  exact absurd H (by simp)
 rw [if_neg c2] at H
 have c2b0 : decide ((l0.length : Int) < 1) = false := decide_eq_false c2
 have c2b1 : decide (l0.length < 1) = false := decide_eq_false (by omega)
 clear c2
 by_cases c3 : 0 < (l0.length : Int)
 case neg => rw [if_neg c3] at H; exact absurd H (by simp)
 rw [if_pos c3] at H
 have c3b0 : decide (0 < (l0.length : Int)) = true := decide_eq_true c3
 have c3b1 : decide (0 < l0.length) = true := decide_eq_true (by omega)
 clear c3
 have H' := Aside0.mk H
 clear H
 have p101 : 0 ≤ (0 : Int) := (by omega)
 have q101 : 0 < (l0.length : Int) := zD
 obtain ⟨ad101, e101, hx101_0⟩ := Kd.at_int HR0.out 0 p101 q101
 cases e101
 have qi101 : (0 < l0.length) = True := eq_true (by omega)
 (try rw [show ((0 : Int)).toNat = 0 from rfl] at hx101_0)
 (try rw [Addr.add_zero'] at hx101_0)
 replace p101 := eq_true p101
 replace q101 := eq_true q101
 go_enter Tryd.func40, Tryd.ntmps40
 go_wp2
 go_loopg [3, 4] k (fun kq v3 v4 w' => ∃ (x3_1 : Int) (x4_1 : Int), v3 = .int .i64 x3_1 ∧ v4 = .int .i64 x4_1 ∧ Aside0 (slices_Max_Sint64_int64.l0 kq l0 x3_1 x4_1 = some r) ∧ Aside0 (kq ≤ k) ∧ Aside0 (Below w.heap.size w w'))
 case atStart => exact ⟨(rd l0 0), (1), zF, zF, H', ⟨Nat.le_refl _⟩, ⟨zB⟩⟩
 clear H'
 try clear c2
 try clear c2b0
 try clear c2b1
 try clear c3
 try clear c3b0
 try clear c3b1
 try clear hx101_0
 try clear p101
 try clear q101
 obtain ⟨x3_1, x4_1, rfl, rfl, HA, HK1, HB⟩ := hrel
 cases gk with
 | zero => exact absurd HA.out (by simp [slices_Max_Sint64_int64.l0])
 | succ k1 =>
   have H := HA.out
   clear HA
   simp only [slices_Max_Sint64_int64.l0] at H
   by_cases c4 : x4_1 < (l0.length : Int)
   · rw [if_pos c4] at H
     have c4b0 : decide (x4_1 < (l0.length : Int)) = true := decide_eq_true c4
     clear c4
     by_cases c5 : 0 ≤ x4_1
     · rw [if_pos c5] at H
       have c5b0 : decide (0 ≤ x4_1) = true := decide_eq_true c5
       clear c5
       obtain ⟨ji6, hji6⟩ : ∃ j_ : Int, (mx x3_1 (rd l0 x4_1)) = j_ := ⟨_, rfl⟩
       replace H : (slices_Max_Sint64_int64.l0 k1 l0 ji6 (wrap64 (x4_1 + 1))) = some r := by first | (rw [hji6] at H; exact H) | (simp only [hji6] at H ⊢; exact H)
       have hji6_ : (if x3_1 < (rd l0 x4_1) then (rd l0 x4_1) else x3_1) = ji6 := hji6
       have H' := Aside0.mk H
       clear H
       have p102 : 0 ≤ (x4_1 : Int) := zD
       have q102 : x4_1 < (l0.length : Int) := zD
       obtain ⟨ad102, e102, hx102_0⟩ := Kd.at_int HR0.out x4_1 p102 q102
       obtain rfl : ad101 = ad102 := (by injection e102)
       replace hx102_0 := (HB.out.cell (World.block_lt_of_cell? w _ hx102_0)).trans hx102_0
       replace p102 := eq_true p102
       replace q102 := eq_true q102
       go_wp2
       go_roundg k1
       case measure => have := HK1.out; omega
       case rel => exact ⟨(ji6), (wrap64 (x4_1 + 1)), (by first | rfl | (simp; done) | (simp only [← hji6] <;> (first | rfl | simp)) | (simp [*]; done)), zF, H', ⟨by have := HK1.out; omega⟩, ⟨zB⟩⟩
     · rw [if_neg c5] at H
       exact absurd H (by simp)
   · rw [if_neg c4] at H
     have c4b0 : decide (x4_1 < (l0.length : Int)) = false := decide_eq_false c4
     clear c4
     obtain rfl := Option.some.inj H
     go_wp2
     go_ret
     exact ⟨zE, zB⟩
end Go.Proofs.YtajfblkidneckaaDoor.P
end
section
namespace Go.Proofs.YtajfblkidneckaaDoor.P
open Go.RowKit Go.Proofs.YtajfblkidneckaaDoorW.PrintWords Go.Proofs.YtajfblkidneckaaDoorW.PrintLast Go.Proofs.YtajfblkidneckaaDoorW.PrintMore
attribute [local go_sem] max2_int min2_int max_two min_two max_three min_three max_four min_four   -- for this text's walks alone
set_option linter.unusedVariables false
set_option linter.unusedSimpArgs false
def impl_byHeight.f (k : Nat) (l0 : List Int) : Option (Int) := (slices_Max_Sint64_int64.f k l0).bind fun t101 => ((slices_Index_Sint64_int64.f k l0 t101).bind fun t102 => (some t102))
theorem impl_byHeight.mono : ∀ a0 k, LeO (impl_byHeight.f k a0) (impl_byHeight.f (k + 1) a0) := by
  intro a0 k
  unfold impl_byHeight.f
  repeat' first | (with_reducible exact slices_Index_Sint64_int64.mono _ _ _) | (with_reducible exact slices_Max_Sint64_int64.mono _ _) | (with_reducible exact LeO.refl _) | (with_reducible exact LeO.none _) | (with_reducible refine LeO.ite ?_ ?_) | (with_reducible refine LeO.bind ?_ (fun _ => ?_)) | exact slices_Index_Sint64_int64.mono _ _ _ | exact slices_Max_Sint64_int64.mono _ _ | exact LeO.none _ | refine LeO.ite ?_ ?_ | refine LeO.bind ?_ (fun _ => ?_)
set_option maxHeartbeats 8000000 in
set_option maxRecDepth 100000 in
theorem impl_byHeight.calls (k : Nat) (A0 : Option Addr) (c0 : Nat) (l0 : List Int) (r : Int) (w : World) (hr0 : Kd.C (Kd.int .i64) w A0 l0.length l0) (hc0 : l0.length ≤ c0) (h : impl_byHeight.f k l0 = some r) :
    Calls Tryd.prog 25 #[.slice A0 l0.length c0] w fun e w' => e = .returned (.int .i64 r) ∧ Below w.heap.size w w' := by
 have HR0 := Aside0.mk hr0
 have HC0 := Aside0.mk hc0
 clear hr0 hc0
 have HB := Aside0.mk (Below.refl w.heap.size w)
 have H : ((slices_Max_Sint64_int64.f k l0).bind fun t101 => ((slices_Index_Sint64_int64.f k l0 t101).bind fun t102 => (some t102))) = some r := h
 clear h
 replace H := Option.bind_eq_some_iff.mp H
 obtain ⟨t101, A20, H⟩ := H
 replace H : ((slices_Index_Sint64_int64.f k l0 t101).bind fun t102 => (some t102)) = some r := H
 have A2 := Aside0.mk A20
 clear A20
 replace H := Option.bind_eq_some_iff.mp H
 obtain ⟨t102, A30, H⟩ := H
 replace H : (some t102) = some r := H
 have A3 := Aside0.mk A30
 clear A30
 obtain rfl := Option.some.inj H
 go_enter Tryd.func25, Tryd.ntmps25
 go_wp2_with (first | ((with_reducible refine gate_callee (f := 40) rfl ?_); refine goesL_ (some 5) rfl rfl Tryd.func40 zk rfl #[.slice A0 l0.length c0] rfl zA ?_; (with_reducible refine (slices_Max_Sint64_int64.calls k _ _ l0 t101 _ ?side1 ?side2 A2.out).mono ?_); (case side1 => exact zC HR0.out); (case side2 => exact HC0.out); rintro e w4 ⟨rfl, hb⟩; refine ⟨_, rfl, ?_⟩; replace HB := Aside0.mk (below_step (zB) hb); (try clear hb); (try clear hb2); (try clear hk); (try clear hi)) | ((with_reducible refine gate_callee (f := 39) rfl ?_); refine goesL_ (some 6) rfl rfl Tryd.func39 zk rfl #[.slice A0 l0.length c0, .int .i64 t101] rfl zA ?_; (with_reducible refine (slices_Index_Sint64_int64.calls k _ _ l0 t101 t102 _ ?side1 ?side2 A3.out).mono ?_); (case side1 => exact zC (Kd.C_below HR0.out HB.out)); (case side2 => exact HC0.out); rintro e w' ⟨rfl, ⟨nd, rfl⟩⟩; refine ⟨_, rfl, ?_⟩))
 go_ret
 exact ⟨zE, zB⟩
end Go.Proofs.YtajfblkidneckaaDoor.P
end
section
namespace Go.Proofs.YtajfblkidneckaaDoor.P
open Go.RowKit Go.Proofs.YtajfblkidneckaaDoorW.PrintWords Go.Proofs.YtajfblkidneckaaDoorW.PrintLast Go.Proofs.YtajfblkidneckaaDoorW.PrintMore
attribute [local go_sem] max2_int min2_int max_two min_two max_three min_three max_four min_four   -- for this text's walks alone
set_option linter.unusedVariables false
set_option linter.unusedSimpArgs false
def topB (l : List Int) : Int := (l.drop 1).foldl mx (rd l 0)
def highC (l : List Int) : Int := (l.idxOf (topB l) : Int)
theorem maxB_l0 (l : List Int) (hl : l.length ≤ 1000) : ∀ (d n k : Nat) (a : Int), n + d = l.length → d < k → slices_Max_Sint64_int64.l0 k l a (n : Int) = some ((l.drop n).foldl mx a) := by
  intro d
  induction d with
  | zero =>
    intro n k a hn hk
    obtain ⟨k, rfl⟩ : ∃ k', k = k' + 1 := ⟨k - 1, by omega⟩
    rw [slices_Max_Sint64_int64.l0, if_neg (by omega), List.drop_of_length_le (by omega)]
    rfl
  | succ d ih =>
    intro n k a hn hk
    obtain ⟨k, rfl⟩ : ∃ k', k = k' + 1 := ⟨k - 1, by omega⟩
    rw [slices_Max_Sint64_int64.l0, if_pos (by omega), if_pos (by omega), show wrap64 ((n : Int) + 1) = ((n + 1 : Nat) : Int) by unfold wrap64; omega, ih (n + 1) k _ (by omega) (by omega), drop_rdG (show n < l.length by omega)]
    rfl
theorem idxB_l0 (l : List Int) (x : Int) (hl : l.length ≤ 1000) : ∀ (d n k : Nat), n + d = l.length → d < k → x ∈ l.drop n → slices_Index_Sint64_int64.l0 k l x (l.length : Int) (n : Int) = some ((n : Int) + ((l.drop n).idxOf x : Int)) := by
  intro d
  induction d with
  | zero =>
    intro n k hn hk hx
    rw [List.drop_of_length_le (by omega)] at hx
    cases hx
  | succ d ih =>
    intro n k hn hk hx
    obtain ⟨k, rfl⟩ : ∃ k', k = k' + 1 := ⟨k - 1, by omega⟩
    have hd := drop_rdG (show n < l.length by omega)
    rw [hd] at hx ⊢
    rw [slices_Index_Sint64_int64.l0, if_pos (by omega), if_pos (by omega), if_pos (by omega)]
    by_cases e : x = rd l (n : Int)
    · rw [if_pos e, e, List.idxOf_cons_self]
      simp
    · rw [if_neg e, show wrap64 ((n : Int) + 1) = ((n + 1 : Nat) : Int) by unfold wrap64; omega]
      have hx' : x ∈ l.drop (n + 1) := by
        rcases List.mem_cons.1 hx with h | h
        · exact absurd h e
        · exact h
      rw [ih (n + 1) k (by omega) (by omega) hx', List.idxOf_cons, show (rd l (n : Int) == x) = false from beq_eq_false_iff_ne.mpr (fun h => e h.symm)]
      simp only [cond_false]
      congr 1
      push_cast
      omega
theorem foldB_mem : ∀ (l : List Int) (a : Int), l.foldl mx a ∈ a :: l
  | [], a => by simp
  | b :: l, a => by
    rw [List.foldl_cons]
    have h := foldB_mem l (mx a b)
    have hm : mx a b = a ∨ mx a b = b := by unfold mx; split <;> simp
    rcases List.mem_cons.1 h with h | h
    · rw [h]; rcases hm with e | e <;> rw [e] <;> simp
    · simp [h]
theorem topB_mem (l : List Int) (h : 0 < l.length) : topB l ∈ l := by
  have h1 := foldB_mem (l.drop 1) (rd l 0)
  have e : rd l 0 :: l.drop 1 = l := by
    have := drop_rdG (l := l) (i := 0) h
    rw [List.drop_zero] at this
    exact this.symm
  rw [e] at h1
  exact h1
theorem byHeightB (l : List Int) (h0 : 0 < l.length) (hl : l.length ≤ 1000) : impl_byHeight.f (l.length + 1) l = some (highC l) := by
  unfold impl_byHeight.f slices_Max_Sint64_int64.f slices_Index_Sint64_int64.f
  have h1 := maxB_l0 l hl (l.length - 1) 1 (l.length + 1) (rd l 0) (by omega) (by omega)
  have h2 := idxB_l0 l (topB l) hl l.length 0 (l.length + 1) (by omega) (by omega) (by rw [List.drop_zero]; exact topB_mem l h0)
  rw [if_neg (by omega), if_pos (by omega), show (1 : Int) = ((1 : Nat) : Int) from rfl, h1, Option.bind_some]
  rw [show (l.drop 1).foldl mx (rd l 0) = topB l from rfl, show (0 : Int) = ((0 : Nat) : Int) from rfl, h2, Option.bind_some, List.drop_zero]
  unfold highC
  congr 1
  omega
theorem highC_in (l : List Int) (h0 : 0 < l.length) : 0 ≤ highC l ∧ highC l < (l.length : Int) := by
  have := List.idxOf_lt_length_iff.2 (topB_mem l h0)
  unfold highC
  omega
def impl_TurnsByHeight.f (l0_0 : List Int) : Option (List Int × Int × Int) := (impl_gardenCode.f l0_0 true).bind fun t => if t = 0 then (if 0 < l0_0.length ∧ l0_0.length ≤ 1000 then some (roundL l0_0 highC 200 0) else none) else some ([], 0, t)
set_option maxHeartbeats 4000000 in
set_option maxRecDepth 100000 in
theorem impl_TurnsByHeight.calls (A0_0 : Option Addr) (c0_0 : Nat) (l0_0 : List Int) (r1 : List Int) (r2 r3 : Int) (w : World) (hr0_0 : Kd.C (Kd.int .i64) w A0_0 l0_0.length l0_0) (hc0_0 : l0_0.length ≤ c0_0) (h : impl_TurnsByHeight.f l0_0 = some (r1, r2, r3)) (ht : tabW w := by exact tabW_below (Aside0.out (by assumption)) zB) :
    Calls Tryd.prog 15 #[.agg #[.slice A0_0 l0_0.length c0_0]] w fun e w' => ∃ v0_ : Value, e = .returned (.tuple #[v0_, .int .i64 r2, .int .i64 r3]) ∧ Kd.R (Kd.int .i64) 2 w' w.heap.size (fun _ => True) v0_ r1 ∧ Below w.heap.size w w' := by
  have hu26 := Tryd.underlying28
  have HB := Aside0.mk (Below.refl w.heap.size w)
  unfold impl_TurnsByHeight.f at h
  obtain ⟨t, e3, h_⟩ := Option.bind_eq_some_iff.mp h
  clear h
  have h := h_
  clear h_
  have E3 := Aside0.mk (fun W (hb : Below w.heap.size w W) => impl_gardenCode.calls A0_0 c0_0 l0_0 true t W (Kd.C_below hr0_0 hb) hc0_0 e3)
  clear e3
  by_cases h0 : t = 0
  · subst h0
    rw [if_pos rfl] at h
    split at h
    · next hp =>
      have eg : ∀ args w, (callFunc 25 args).run Tryd.prog w = .ok (.enter 25 args) w := enters_of Tryd.func25 zk rfl
      have ER := Aside0.mk (fun W (hb : Below w.heap.size w W) => impl_Garden_round.calls A0_0 c0_0 l0_0 25 #[] eg highC W (Kd.C_below hr0_0 hb) hc0_0 hp.1 hp.2 (fun l hl => .inr (by rw [← hl]; exact highC_in l (by omega))) (tabW_below ht hb) (fun W' A c l hb' hl hC hc => by
        show Calls Tryd.prog 25 #[.slice A l.length c] W' _
        exact impl_byHeight.calls (l.length + 1) A c l (highC l) W' hC hc (byHeightB l (by omega) (by omega))))
      have hv := Option.some.inj h
      generalize roundL l0_0 highC 200 0 = r at ER hv
      subst hv
      clear h hp hr0_0 hc0_0 ht eg
      go_enter Tryd.func15, Tryd.ntmps15
      go_wp2_with (first | ((with_reducible refine gate_dst (N := 1) rfl ?_); refine box_event zr (N := 1) zr (cs := #[.slice A0_0 l0_0.length c0_0]) (t := 28) zg ?_; intro gb hg w1 hbox hb; have n_ := y2 (below_step HB.out hb) (hbox); clear HB; obtain ⟨HB, BK⟩ := n_; clear hb hbox hg; have hq := zc BK.out) | (go_at_call 21; refine (E3.out _ HB.out).mono ?_; rintro e w2 ⟨rfl, hb⟩; have n_ := y2 (below_step HB.out hb) (blk_below BK.out hb); clear HB BK; obtain ⟨HB, BK⟩ := n_; clear hb; have hq2 := zc BK.out) | (go_at_call 23; refine (ER.out _ HB.out).mono ?_; rintro e w4 ⟨v0, rfl, hS, hb⟩; have n_ := y2 (Kd.R_lower hS (below_size HB.out)) (below_step HB.out hb); clear HB; obtain ⟨HO, HB⟩ := n_; clear hb hS))
      go_ret3
      exact ⟨_, rfl, HO.out, HB.out⟩
    · cases h
  · rw [if_neg h0] at h
    have h1 : (t == 0) = false := beq_eq_false_iff_ne.mpr h0
    have h2 : (t != 0) = true := bne_iff_ne.mpr h0
    have hv := Option.some.inj h
    simp only [Prod.mk.injEq] at hv
    obtain ⟨rfl, rfl, rfl⟩ := hv
    clear h h0 hr0_0 hc0_0 ht
    go_enter Tryd.func15, Tryd.ntmps15
    go_wp2_with (first | ((with_reducible refine gate_dst (N := 1) rfl ?_); refine box_event zr (N := 1) zr (cs := #[.slice A0_0 l0_0.length c0_0]) (t := 28) zg ?_; intro gb hg w1 hbox hb; have n_ := y2 (below_step HB.out hb) (hbox); clear HB; obtain ⟨HB, BK⟩ := n_; clear hb hbox hg; have hq := zc BK.out) | (go_at_call 21; refine (E3.out _ HB.out).mono ?_; rintro e w2 ⟨rfl, hb⟩; have n_ := y2 (below_step HB.out hb) (blk_below BK.out hb); clear HB BK; obtain ⟨HB, BK⟩ := n_; clear hb; have hq2 := zc BK.out))
    go_ret3
    exact ⟨_, rfl, Kd.R_nil _ _ _ _ _, HB.out⟩
end Go.Proofs.YtajfblkidneckaaDoor.P
end
section
namespace Go.Proofs.YtajfblkidneckaaDoor.P
open Go.RowKit Go.Proofs.YtajfblkidneckaaDoorW.PrintWords Go.Proofs.YtajfblkidneckaaDoorW.PrintLast Go.Proofs.YtajfblkidneckaaDoorW.PrintMore
attribute [local go_sem] max2_int min2_int max_two min_two max_three min_three max_four min_four   -- for this text's walks alone
set_option linter.unusedVariables false
set_option linter.unusedSimpArgs false
def laws_szInt64S.f (l0 : List Int) (a1 : Int) : Option (Int) := if (wrap64 (a1 - (l0.length : Int))) < 0 then (some (-1)) else (some (wrap64 (a1 - (l0.length : Int))))
set_option maxHeartbeats 8000000 in
set_option maxRecDepth 100000 in
theorem laws_szInt64S.calls (A0 : Option Addr) (c0 : Nat) (l0 : List Int) (a1 : Int) (r : Int) (w : World) (hr0 : Kd.C (Kd.int .i64) w A0 l0.length l0) (hc0 : l0.length ≤ c0) (h : laws_szInt64S.f l0 a1 = some r) :
    Calls Tryd.prog 16 #[.slice A0 l0.length c0, .int .i64 a1] w fun e w' => e = .returned (.int .i64 r) ∧ Drawn0 w w' := by
 have HR0 := Aside0.mk hr0
 have HC0 := Aside0.mk hc0
 clear hr0 hc0
 have H : (if (wrap64 (a1 - (l0.length : Int))) < 0 then (some (-1)) else (some (wrap64 (a1 - (l0.length : Int))))) = some r := h
 clear h
 by_cases c3 : (wrap64 (a1 - (l0.length : Int))) < 0
 ·
  rw [if_pos c3] at H
  have c3b0 : decide ((wrap64 (a1 - (l0.length : Int))) < 0) = true := decide_eq_true c3
  clear c3
  obtain rfl := Option.some.inj H
  go_enter Tryd.func16, Tryd.ntmps16
  go_wp2
  go_ret
  exact ⟨by first | rfl | (simp; done) | (simp [*]; done), by repeat (first | exact Drawn0.refl _ | apply Drawn0.step)⟩
 rw [if_neg c3] at H
 have c3b0 : decide ((wrap64 (a1 - (l0.length : Int))) < 0) = false := decide_eq_false c3
 clear c3
 obtain rfl := Option.some.inj H
 go_enter Tryd.func16, Tryd.ntmps16
 go_wp2
 go_ret
 exact ⟨by first | rfl | (simp; done) | (simp [*]; done), by repeat (first | exact Drawn0.refl _ | apply Drawn0.step)⟩
end Go.Proofs.YtajfblkidneckaaDoor.P
end
section
namespace Go.Proofs.YtajfblkidneckaaDoor.P
open Go.RowKit Go.Proofs.YtajfblkidneckaaDoorW.PrintWords Go.Proofs.YtajfblkidneckaaDoorW.PrintLast Go.Proofs.YtajfblkidneckaaDoorW.PrintMore
attribute [local go_sem] max2_int min2_int max_two min_two max_three min_three max_four min_four   -- for this text's walks alone
set_option linter.unusedVariables false
set_option linter.unusedSimpArgs false
def laws_szGarden.f (l0_0 : List Int) (a1 : Int) : Option (Int) := (laws_szInt64S.f l0_0 a1).bind fun t102 => (if t102 < 0 then (some (-1)) else (some t102))
set_option maxHeartbeats 8000000 in
set_option maxRecDepth 100000 in
theorem laws_szGarden.calls (A0_0 : Option Addr) (c0_0 : Nat) (l0_0 : List Int) (a1 : Int) (r : Int) (w : World) (hr0_0 : Kd.C (Kd.int .i64) w A0_0 l0_0.length l0_0) (hc0_0 : l0_0.length ≤ c0_0) (h : laws_szGarden.f l0_0 a1 = some r) :
    Calls Tryd.prog 5 #[.agg #[.slice A0_0 l0_0.length c0_0], .int .i64 a1] w fun e w' => e = .returned (.int .i64 r) ∧ Below w.heap.size w w' := by
 have hu24 := Tryd.underlying24
 have HR0_0 := Aside0.mk hr0_0
 have HC0_0 := Aside0.mk hc0_0
 clear hr0_0 hc0_0
 have HB := Aside0.mk (Below.refl w.heap.size w)
 have H : ((laws_szInt64S.f l0_0 a1).bind fun t102 => (if t102 < 0 then (some (-1)) else (some t102))) = some r := h
 clear h
 replace H := Option.bind_eq_some_iff.mp H
 obtain ⟨t102, A30, H⟩ := H
 replace H : (if t102 < 0 then (some (-1)) else (some t102)) = some r := H
 have A3 := Aside0.mk A30
 clear A30
 by_cases c4 : t102 < 0
 ·
  rw [if_pos c4] at H
  have c4b0 : decide (t102 < 0) = true := decide_eq_true c4
  clear c4
  obtain rfl := Option.some.inj H
  go_enter Tryd.func5, Tryd.ntmps5
  go_wp2_with (first | ((with_reducible refine gate_dst (N := 2) rfl ?_); refine box_event zr (N := 2) zr (cs := #[.slice A0_0 l0_0.length c0_0]) (t := 24) zg ?_; intro gb101 hg w5 hbox hb; have n_ := y4 (below_step (zB) hb) (hbox) ((zS hg : w.heap.size ≤ gb101)) ((zS hg : w.heap.size ≤ gb101)); clear HB; obtain ⟨HB, BK101, GW101, GE101⟩ := n_; clear hb hbox hg; have hcz6_0 := zc BK101.out; have hfz6_0 := blk_frozen BK101.out 0) | ((with_reducible refine gate_callee (f := 16) rfl ?_); refine goesL_ (some 8) rfl rfl Tryd.func16 zk rfl #[.slice A0_0 l0_0.length c0_0, .int .i64 a1] rfl zA ?_; (with_reducible refine (laws_szInt64S.calls _ _ l0_0 a1 t102 _ ?side1 ?side2 A3.out).mono ?_); (case side1 => exact zC (Kd.C_below HR0_0.out HB.out)); (case side2 => exact HC0_0.out); rintro e w' ⟨rfl, ⟨nd, rfl⟩⟩; refine ⟨_, rfl, ?_⟩))
  go_ret
  exact ⟨zE, zB⟩
 rw [if_neg c4] at H
 have c4b0 : decide (t102 < 0) = false := decide_eq_false c4
 clear c4
 obtain rfl := Option.some.inj H
 go_enter Tryd.func5, Tryd.ntmps5
 go_wp2_with (first | ((with_reducible refine gate_dst (N := 2) rfl ?_); refine box_event zr (N := 2) zr (cs := #[.slice A0_0 l0_0.length c0_0]) (t := 24) zg ?_; intro gb101 hg w7 hbox hb; have n_ := y4 (below_step (zB) hb) (hbox) ((zS hg : w.heap.size ≤ gb101)) ((zS hg : w.heap.size ≤ gb101)); clear HB; obtain ⟨HB, BK101, GW101, GE101⟩ := n_; clear hb hbox hg; have hcz8_0 := zc BK101.out; have hfz8_0 := blk_frozen BK101.out 0) | ((with_reducible refine gate_callee (f := 16) rfl ?_); refine goesL_ (some 8) rfl rfl Tryd.func16 zk rfl #[.slice A0_0 l0_0.length c0_0, .int .i64 a1] rfl zA ?_; (with_reducible refine (laws_szInt64S.calls _ _ l0_0 a1 t102 _ ?side1 ?side2 A3.out).mono ?_); (case side1 => exact zC (Kd.C_below HR0_0.out HB.out)); (case side2 => exact HC0_0.out); rintro e w' ⟨rfl, ⟨nd, rfl⟩⟩; refine ⟨_, rfl, ?_⟩))
 go_ret
 exact ⟨zE, zB⟩
end Go.Proofs.YtajfblkidneckaaDoor.P
end
section
namespace Go.Proofs.YtajfblkidneckaaDoor.P
open Go.RowKit Go.Proofs.YtajfblkidneckaaDoorW.PrintWords Go.Proofs.YtajfblkidneckaaDoorW.PrintLast Go.Proofs.YtajfblkidneckaaDoorW.PrintMore
attribute [local go_sem] max2_int min2_int max_two min_two max_three min_three max_four min_four   -- for this text's walks alone
set_option linter.unusedVariables false
set_option linter.unusedSimpArgs false
def laws_toInt64S.l0 : Nat → List Int → List Int → Int → Option (List Int)
  | 0, _, _, _ => none
  | k + 1, x0, x3, x4 => if x4 < (x0.length : Int) then (if 0 ≤ x4 then (if x4 < (x3.length : Int) then (laws_toInt64S.l0 k x0 (x3.set (x4 : Int).toNat (rd x0 x4)) (wrap64 (x4 + 1))) else (none)) else (none)) else (some x3)
def laws_toInt64S.f (k : Nat) (l0 : List Int) : Option (List Int) := if 0 ≤ (l0.length : Int) then (if ((l0.length : Int) : Int).toNat ≤ 35184372088832 then (laws_toInt64S.l0 k l0 (List.replicate ((l0.length : Int) : Int).toNat 0) 0) else (none)) else (none)
theorem laws_toInt64S.mono_l : ∀ k, (∀ y0 y1 y2, LeO (laws_toInt64S.l0 k y0 y1 y2) (laws_toInt64S.l0 (k + 1) y0 y1 y2))
  | 0 => fun _ _ _ r h => by simp [laws_toInt64S.l0] at h
  | k + 1 => by
    have ih0 := laws_toInt64S.mono_l k
    · intro y0 y1 y2
      unfold laws_toInt64S.l0
      repeat' first | (with_reducible exact ih0 _ _ _) | (with_reducible exact LeO.refl _) | (with_reducible exact LeO.none _) | (with_reducible refine LeO.ite ?_ ?_) | (with_reducible refine LeO.bind ?_ (fun _ => ?_)) | exact ih0 _ _ _ | exact LeO.none _ | refine LeO.ite ?_ ?_ | refine LeO.bind ?_ (fun _ => ?_)
theorem laws_toInt64S.mono : ∀ a0 k, LeO (laws_toInt64S.f k a0) (laws_toInt64S.f (k + 1) a0) := by
  intro a0 k
  have ih0 := laws_toInt64S.mono_l k
  unfold laws_toInt64S.f
  repeat' first | (with_reducible exact ih0 _ _ _) | (with_reducible exact LeO.refl _) | (with_reducible exact LeO.none _) | (with_reducible refine LeO.ite ?_ ?_) | (with_reducible refine LeO.bind ?_ (fun _ => ?_)) | exact ih0 _ _ _ | exact LeO.none _ | refine LeO.ite ?_ ?_ | refine LeO.bind ?_ (fun _ => ?_)
set_option maxHeartbeats 8000000 in
set_option maxRecDepth 100000 in
theorem laws_toInt64S.calls (k : Nat) (A0 : Option Addr) (c0 : Nat) (l0 : List Int) (r : List Int) (w : World) (hr0 : Kd.C (Kd.int .i64) w A0 l0.length l0) (hc0 : l0.length ≤ c0) (h : laws_toInt64S.f k l0 = some r) :
    Calls Tryd.prog 20 #[.slice A0 l0.length c0] w fun e w' => ∃ v0_ : Value, e = .returned (v0_) ∧ Kd.R (Kd.int .i64) 2 w' w.heap.size (fun _ => True) v0_ r ∧ Below w.heap.size w w' := by
 have HR0 := Aside0.mk hr0
 have HC0 := Aside0.mk hc0
 clear hr0 hc0
 have HB := Aside0.mk (Below.refl w.heap.size w)
 have H : (if 0 ≤ (l0.length : Int) then (if ((l0.length : Int) : Int).toNat ≤ 35184372088832 then (laws_toInt64S.l0 k l0 (List.replicate ((l0.length : Int) : Int).toNat 0) 0) else (none)) else (none)) = some r := h
 clear h
 by_cases c2 : 0 ≤ (l0.length : Int)
 case neg => rw [if_neg c2] at H; exact absurd H (by simp)
 rw [if_pos c2] at H
 have c2b0 := eq_true c2
 have c2b1 : decide (0 ≤ (l0.length : Int)) = true := decide_eq_true c2
 clear c2
 by_cases c3 : ((l0.length : Int) : Int).toNat ≤ 35184372088832
 case neg => rw [if_neg c3] at H; exact absurd H (by simp)
 rw [if_pos c3] at H
 have c3b0 := eq_true c3
 have c3b1 : decide (((l0.length : Int) : Int).toNat ≤ 35184372088832) = true := decide_eq_true c3
 clear c3
 obtain ⟨y101, hy101⟩ : ∃ y_ : List Int, y_ = (List.replicate ((l0.length : Int) : Int).toNat 0) := ⟨_, rfl⟩
 replace H : (laws_toInt64S.l0 k l0 y101 0) = some r := zH hy101
 have Ny101 := Aside0.mk hy101
 clear hy101
 have H' := Aside0.mk H
 clear H
 go_enter Tryd.func20, Tryd.ntmps20
 go_wp2_with (first | ((with_reducible refine gate_dst (N := 7) rfl ?_); refine Kd.R_make (Kd.int .i64) _ 2 rfl (N := 7) rfl 22 _ _ rfl (l0.length : Int) rfl rfl Tryd.underlying22 (.int .i64 0) 8 info2 rfl (by decide) (by omega) 0 (ok := fun _ => True) (okp := fun _ => True) rfl (fun _ hk => hk) trivial (zD) (Nat.le_trans (Nat.mul_le_mul_right _ (zD : (l0.length : Int).toNat ≤ 35184372088832)) (by omega)) (Below.refl _ _) (Nat.le_refl _) ?_; intro v102 w4 ho5 hb hg_ hnew_; clear hg_ hnew_; (first | rw [← Ny101.out] at ho5 | (simp only [Int.reduceToNat] at ho5; rw [← Ny101.out] at ho5)); have n_ := y2 (Kd.R_lower ho5 (below_size (zB))) (below_step (zB) hb); clear HB; obtain ⟨HO103, HB⟩ := n_; clear hb ho5))
 go_loopg [4] k (fun kq v4 w' => ∃ (x3_1 : List Int) (x4_1 : Int), v4 = .int .i64 x4_1 ∧ Aside0 (laws_toInt64S.l0 kq l0 x3_1 x4_1 = some r) ∧ Aside0 (kq ≤ k) ∧ Aside0 (Kd.R (Kd.int .i64) 2 w' w.heap.size (fun _ => True) v102 x3_1) ∧ Aside0 (Below w.heap.size w w'))
 case atStart => exact ⟨(y101), (0), zF, H', ⟨Nat.le_refl _⟩, ⟨zR HO103.out⟩, ⟨zB⟩⟩
 clear H'
 try clear c2
 try clear c2b0
 try clear c2b1
 try clear c3
 try clear c3b0
 try clear c3b1
 obtain ⟨x3_1, x4_1, rfl, HA, HK1, HO_3, HB⟩ := hrel
 cases gk with
 | zero => exact absurd HA.out (by simp [laws_toInt64S.l0])
 | succ k1 =>
   have H := HA.out
   clear HA
   simp only [laws_toInt64S.l0] at H
   by_cases c6 : x4_1 < (l0.length : Int)
   · rw [if_pos c6] at H
     have c6b0 : decide (x4_1 < (l0.length : Int)) = true := decide_eq_true c6
     clear c6
     by_cases c7 : 0 ≤ x4_1
     · rw [if_pos c7] at H
       have c7b0 : decide (0 ≤ x4_1) = true := decide_eq_true c7
       clear c7
       by_cases c8 : x4_1 < (x3_1.length : Int)
       · rw [if_pos c8] at H
         have c8b0 : decide (x4_1 < (x3_1.length : Int)) = true := decide_eq_true c8
         clear c8
         obtain ⟨y105, hy105⟩ : ∃ y_ : List Int, y_ = (x3_1.set (x4_1 : Int).toNat (rd l0 x4_1)) := ⟨_, rfl⟩
         replace H : (laws_toInt64S.l0 k1 l0 y105 (wrap64 (x4_1 + 1))) = some r := zH hy105
         have Ny105 := Aside0.mk hy105
         clear hy105
         have H' := Aside0.mk H
         clear H
         have p104 : 0 ≤ (x4_1 : Int) := zD
         have q104 : x4_1 < (l0.length : Int) := zD
         obtain ⟨ad104, e104, hx104_0⟩ := Kd.at_int HR0.out x4_1 p104 q104
         cases e104
         replace hx104_0 := (HB.out.cell (World.block_lt_of_cell? w _ hx104_0)).trans hx104_0
         replace p104 := eq_true p104
         replace q104 := eq_true q104
         have p9 : 0 ≤ (x4_1 : Int) := zD
         have q9 : (x4_1 : Int) < ((x3_1.length : Int) : Int) := zD
         obtain ⟨go9, co9, eo9, gb9, gl9, cl9, HG9⟩ := Kd.R_form HO_3.out (by omega)
         (first | cases eo9 | (injection eo9 with ea_ en_ ec_; (first | subst ea_ | (injection ea_ with ea_; subst ea_)); subst ec_; clear en_))
         have GB9 := Aside0.mk gb9
         have GG9 := Aside0.mk HG9
         clear gb9 gl9 HG9
         obtain ⟨hx9_0, hf9_0⟩ := Kd.R_celln 0 HO_3.out (x4_1 : Int) p9 q9
         replace p9 := eq_true p9
         replace q9 := eq_true q9
         have HP10 := Kd.R_putg HO_3.out (x4_1 : Int) (rd l0 x4_1)
         go_wp2_with (first | ((with_reducible refine gate_store (t := 2) (p := 20) rfl ?_); refine store_event (t := 2) (p := 20) (v := ?vo_w11) (w1 := (wr.setCell ⟨go9, (x4_1 : Int).toNat, none⟩ (.int .i64 (rd l0 x4_1)))) ?hg ?ho ?hn ?hr ?_; (case ho => rfl); (case hg => rfl); (case hn => rfl); (case hr => first | (go_simp; done) | (go_simp; rfl)); intro w11 hw; have hg : wr.grownBy w11 (some go9) := (by rw [hw]; exact HP10.2); have hp_ : Kd.R (Kd.int .i64) 2 w11 w.heap.size (fun _ => True) (.slice (some ⟨go9, 0, none⟩) x3_1.length co9) y105 := (by rw [hw, Ny105.out]; exact HP10.1); clear HP10; have n_ := y2 (hp_) ((by rw [hw]; exact below_set (HB.out) GB9.out : Below w.heap.size w w11)); clear HO_3 HB; obtain ⟨HO_3, HB⟩ := n_; clear hg hw hp_))
         go_roundg k1
         case measure => have := HK1.out; omega
         case rel => exact ⟨(y105), (wrap64 (x4_1 + 1)), zF, H', ⟨by have := HK1.out; omega⟩, ⟨zR HO_3.out⟩, ⟨zB⟩⟩
       · rw [if_neg c8] at H
         exact absurd H (by simp)
     · rw [if_neg c7] at H
       exact absurd H (by simp)
   · rw [if_neg c6] at H
     have c6b0 : decide (x4_1 < (l0.length : Int)) = false := decide_eq_false c6
     clear c6
     obtain rfl := Option.some.inj H
     go_wp2
     go_ret
     exact ⟨_, zE, zR HO_3.out, zB⟩
end Go.Proofs.YtajfblkidneckaaDoor.P
end
section
namespace Go.Proofs.YtajfblkidneckaaDoor.P
open Go.RowKit Go.Proofs.YtajfblkidneckaaDoorW.PrintWords Go.Proofs.YtajfblkidneckaaDoorW.PrintLast Go.Proofs.YtajfblkidneckaaDoorW.PrintMore
attribute [local go_sem] max2_int min2_int max_two min_two max_three min_three max_four min_four   -- for this text's walks alone
set_option linter.unusedVariables false
set_option linter.unusedSimpArgs false
def laws_toGarden.f (k : Nat) (l0_0 : List Int) : Option (List Int) := (laws_toInt64S.f k l0_0).bind fun t104 => (some t104)
theorem laws_toGarden.mono : ∀ a0 k, LeO (laws_toGarden.f k a0) (laws_toGarden.f (k + 1) a0) := by
  intro a0 k
  unfold laws_toGarden.f
  repeat' first | (with_reducible exact laws_toInt64S.mono _ _) | (with_reducible exact LeO.refl _) | (with_reducible exact LeO.none _) | (with_reducible refine LeO.ite ?_ ?_) | (with_reducible refine LeO.bind ?_ (fun _ => ?_)) | exact laws_toInt64S.mono _ _ | exact LeO.none _ | refine LeO.ite ?_ ?_ | refine LeO.bind ?_ (fun _ => ?_)
set_option maxHeartbeats 8000000 in
set_option maxRecDepth 100000 in
theorem laws_toGarden.calls (k : Nat) (A0_0 : Option Addr) (c0_0 : Nat) (l0_0 : List Int) (r : List Int) (w : World) (hr0_0 : Kd.C (Kd.int .i64) w A0_0 l0_0.length l0_0) (hc0_0 : l0_0.length ≤ c0_0) (h : laws_toGarden.f k l0_0 = some r) :
    Calls Tryd.prog 7 #[.agg #[.slice A0_0 l0_0.length c0_0]] w fun e w' => ∃ v0_ : Value, e = .returned (.agg #[v0_]) ∧ Kd.R (Kd.int .i64) 2 w' w.heap.size (fun _ => True) v0_ r ∧ Below w.heap.size w w' := by
 have hu24 := Tryd.underlying24
 have hu28 := Tryd.underlying28
 have HR0_0 := Aside0.mk hr0_0
 have HC0_0 := Aside0.mk hc0_0
 clear hr0_0 hc0_0
 have HB := Aside0.mk (Below.refl w.heap.size w)
 have H : ((laws_toInt64S.f k l0_0).bind fun t104 => (some t104)) = some r := h
 clear h
 replace H := Option.bind_eq_some_iff.mp H
 obtain ⟨t104, A20, H⟩ := H
 replace H : (some t104) = some r := H
 have A2 := Aside0.mk A20
 clear A20
 obtain rfl := Option.some.inj H
 go_enter Tryd.func7, Tryd.ntmps7
 go_wp2_with (first | ((with_reducible refine gate_dst (N := 1) rfl ?_); refine box_event zr (N := 1) zr (cs := #[.slice A0_0 l0_0.length c0_0]) (t := 24) zg ?_; intro gb101 hg w3 hbox hb; have n_ := y4 (below_step (zB) hb) (hbox) ((zS hg : w.heap.size ≤ gb101)) ((zS hg : w.heap.size ≤ gb101)); clear HB; obtain ⟨HB, BK101, GW101, GE101⟩ := n_; clear hb hbox hg) | ((with_reducible refine gate_dst (N := 2) rfl ?_); refine box_event zr (N := 2) zr (cs := #[.slice none 0 0]) (t := 28) zg ?_; intro gb102 hg w4 hbox hb; have n_ := y7 (zb BK101.out hb) (below_step (zB) hb) (hbox) ((zS hg : w.heap.size ≤ gb102)) ((zS hg : w.heap.size ≤ gb102)) ((zL hg BK101.out : gb101 ≠ gb102)) ((zM hg BK101.out : gb102 ≠ gb101)); clear BK101 HB; obtain ⟨BK101, HB, BK102, GW102, GE102, NB101_102, NB102_101⟩ := n_; clear hb hbox hg) | ((with_reducible refine gate_dst (N := 3) rfl ?_); refine box_event zr (N := 3) zr (cs := #[.slice none 0 0]) (t := 28) zg ?_; intro gb103 hg w5 hbox hb; have n_ := y10 (zb BK101.out hb) (zb BK102.out hb) (below_step (zB) hb) (hbox) ((zS hg : w.heap.size ≤ gb103)) ((zS hg : w.heap.size ≤ gb103)) ((zL hg BK101.out : gb101 ≠ gb103)) ((zM hg BK101.out : gb103 ≠ gb101)) ((zL hg BK102.out : gb102 ≠ gb103)) ((zM hg BK102.out : gb103 ≠ gb102)); clear BK101 BK102 HB; obtain ⟨BK101, BK102, HB, BK103, GW103, GE103, NB101_103, NB103_101, NB102_103, NB103_102⟩ := n_; clear hb hbox hg; have hnb6 := NB101_102.out; have hnc6 := NB102_101.out; have hnb7 := NB101_103.out; have hnc7 := NB103_101.out; have hcz8_0 := zc BK101.out; have hfz8_0 := blk_frozen BK101.out 0) | ((with_reducible refine gate_callee (f := 20) rfl ?_); refine goesL_ (some 6) rfl rfl Tryd.func20 zk rfl #[.slice A0_0 l0_0.length c0_0] rfl zA ?_; (with_reducible refine (laws_toInt64S.calls k _ _ l0_0 t104 _ ?side1 ?side2 A2.out).mono ?_); (case side1 => exact zC (Kd.C_below HR0_0.out HB.out)); (case side2 => exact HC0_0.out); rintro e w9 ⟨v105, rfl, ho0, hb⟩; refine ⟨_, rfl, ?_⟩; have n_ := y5 (Kd.R_lower ho0 (below_size (zB))) (zb BK101.out hb) (zb BK102.out hb) (zb BK103.out hb) (below_step (zB) hb); clear BK101 BK102 BK103 HB; obtain ⟨HO106, BK101, BK102, BK103, HB⟩ := n_; (try clear hb); (try clear hb2); (try clear hk); (try clear hi); (try clear ho0); obtain ⟨Ao10, co10, eo10⟩ := Kd.R_slice HO106.out; subst eo10; have hnb11 := NB103_102.out; have hnc11 := NB102_103.out; have hcz12_0 := zc BK103.out; have hfz12_0 := blk_frozen BK103.out 0; have hcz13_0 := zc BK102.out; have hfz13_0 := blk_frozen BK102.out 0))
 refine bodyPost_ret (results_cell_row rfl _ _ gb102 28 #[.slice Ao10 t104.length co10] (0, 0) _ rfl (by refine zG ?_; refine blk_put (cs := #[.slice none 0 0]) ?_ 0 _ rfl; refine zG ?_; refine blk_far ?_ NB102_103.out _; refine zG ?_; exact BK102.out) Tryd.underlying28 rfl zk) rfl ?_
 exact ⟨_, zE, by refine zR ?_; exact Kd.R_mono (Kd.R_far (p := ⟨gb102, 0, none⟩) (Kd.R_far (p := ⟨gb103, 0, none⟩) (Kd.R_types (Kd.R_types HO106.out BK103.out (by decide)) BK102.out (by decide)) (fun _ hk => hk.1.2) (.slice Ao10 t104.length co10)) (fun _ hk => hk.2) (.slice Ao10 t104.length co10)) (fun _ hk => trivial), zB⟩
end Go.Proofs.YtajfblkidneckaaDoor.P
end
section
namespace Go.Proofs.YtajfblkidneckaaDoor.P
open Go.RowKit Go.Proofs.YtajfblkidneckaaDoorW.PrintWords Go.Proofs.YtajfblkidneckaaDoorW.PrintLast Go.Proofs.YtajfblkidneckaaDoorW.PrintMore
attribute [local go_sem] max2_int min2_int max_two min_two max_three min_three max_four min_four   -- for this text's walks alone
set_option linter.unusedVariables false
set_option linter.unusedSimpArgs false
def laws_eqInt64S.l0 : Nat → List Int → List Int → Int → Option (Bool)
  | 0, _, _, _ => none
  | k + 1, x0, x1, x5 => if x5 < (x0.length : Int) then (if 0 ≤ x5 then (if x5 < (x1.length : Int) then (if (rd x0 x5) = (rd x1 x5) then (laws_eqInt64S.l0 k x0 x1 (wrap64 (x5 + 1))) else (some false)) else (none)) else (none)) else (some true)
def laws_eqInt64S.f (k : Nat) (l0 : List Int) (l1 : List Int) : Option (Bool) := if (l0.length : Int) = (l1.length : Int) then (laws_eqInt64S.l0 k l0 l1 0) else (some false)
theorem laws_eqInt64S.mono_l : ∀ k, (∀ y0 y1 y2, LeO (laws_eqInt64S.l0 k y0 y1 y2) (laws_eqInt64S.l0 (k + 1) y0 y1 y2))
  | 0 => fun _ _ _ r h => by simp [laws_eqInt64S.l0] at h
  | k + 1 => by
    have ih0 := laws_eqInt64S.mono_l k
    · intro y0 y1 y2
      unfold laws_eqInt64S.l0
      repeat' first | (with_reducible exact ih0 _ _ _) | (with_reducible exact LeO.refl _) | (with_reducible exact LeO.none _) | (with_reducible refine LeO.ite ?_ ?_) | (with_reducible refine LeO.bind ?_ (fun _ => ?_)) | exact ih0 _ _ _ | exact LeO.none _ | refine LeO.ite ?_ ?_ | refine LeO.bind ?_ (fun _ => ?_)
theorem laws_eqInt64S.mono : ∀ a0 a1 k, LeO (laws_eqInt64S.f k a0 a1) (laws_eqInt64S.f (k + 1) a0 a1) := by
  intro a0 a1 k
  have ih0 := laws_eqInt64S.mono_l k
  unfold laws_eqInt64S.f
  repeat' first | (with_reducible exact ih0 _ _ _) | (with_reducible exact LeO.refl _) | (with_reducible exact LeO.none _) | (with_reducible refine LeO.ite ?_ ?_) | (with_reducible refine LeO.bind ?_ (fun _ => ?_)) | exact ih0 _ _ _ | exact LeO.none _ | refine LeO.ite ?_ ?_ | refine LeO.bind ?_ (fun _ => ?_)
set_option maxHeartbeats 8000000 in
set_option maxRecDepth 100000 in
theorem laws_eqInt64S.calls (k : Nat) (A0 : Option Addr) (c0 : Nat) (l0 : List Int) (A1 : Option Addr) (c1 : Nat) (l1 : List Int) (r : Bool) (w : World) (hr0 : Kd.C (Kd.int .i64) w A0 l0.length l0) (hc0 : l0.length ≤ c0) (hr1 : Kd.C (Kd.int .i64) w A1 l1.length l1) (hc1 : l1.length ≤ c1) (h : laws_eqInt64S.f k l0 l1 = some r) :
    Calls Tryd.prog 9 #[.slice A0 l0.length c0, .slice A1 l1.length c1] w fun e w' => e = .returned (.bool r) ∧ Drawn0 w w' := by
 have HR0 := Aside0.mk hr0
 have HC0 := Aside0.mk hc0
 clear hr0 hc0
 have HR1 := Aside0.mk hr1
 have HC1 := Aside0.mk hc1
 clear hr1 hc1
 have H : (if (l0.length : Int) = (l1.length : Int) then (laws_eqInt64S.l0 k l0 l1 0) else (some false)) = some r := h
 clear h
 by_cases c3 : (l0.length : Int) = (l1.length : Int)
 ·
  rw [if_pos c3] at H
  have c3b0 : ((l0.length : Int) == (l1.length : Int)) = true := beq_iff_eq.mpr c3
  have c3b1 : ((l0.length : Int) != (l1.length : Int)) = false := bne_eq_false_iff_eq.mpr c3
  have c3b2 : (l0.length == l1.length) = true := by first | simpa using c3 | (simp at c3 ⊢; omega)
  clear c3
  have H' := Aside0.mk H
  clear H
  go_enter Tryd.func9, Tryd.ntmps9
  go_wp2
  repeat (go_quiet (fail); try go_wp2)
  go_loopg [5] k (fun kq v5 w' => ∃ (x5_1 : Int), v5 = .int .i64 x5_1 ∧ Aside0 (laws_eqInt64S.l0 kq l0 l1 x5_1 = some r) ∧ Aside0 (kq ≤ k) ∧ Drawn0 w w')
  case atStart => exact ⟨(0), zF, H', ⟨Nat.le_refl _⟩, by repeat (first | exact Drawn0.refl _ | apply Drawn0.step)⟩
  clear H'
  try clear c3
  try clear c3b0
  try clear c3b1
  try clear c3b2
  obtain ⟨x5_1, rfl, HA, HK1, ⟨m1, rfl⟩⟩ := hrel
  cases gk with
  | zero => exact absurd HA.out (by simp [laws_eqInt64S.l0])
  | succ k1 =>
    have H := HA.out
    clear HA
    simp only [laws_eqInt64S.l0] at H
    by_cases c4 : x5_1 < (l0.length : Int)
    · rw [if_pos c4] at H
      have c4b0 : decide (x5_1 < (l0.length : Int)) = true := decide_eq_true c4
      clear c4
      by_cases c5 : 0 ≤ x5_1
      · rw [if_pos c5] at H
        have c5b0 : decide (0 ≤ x5_1) = true := decide_eq_true c5
        clear c5
        by_cases c6 : x5_1 < (l1.length : Int)
        · rw [if_pos c6] at H
          have c6b0 : decide (x5_1 < (l1.length : Int)) = true := decide_eq_true c6
          clear c6
          by_cases c7 : (rd l0 x5_1) = (rd l1 x5_1)
          · rw [if_pos c7] at H
            have c7b0 : ((rd l0 x5_1) == (rd l1 x5_1)) = true := beq_iff_eq.mpr c7
            have c7b1 : ((rd l0 x5_1) != (rd l1 x5_1)) = false := bne_eq_false_iff_eq.mpr c7
            clear c7
            have H' := Aside0.mk H
            clear H
            have p101 : 0 ≤ (x5_1 : Int) := zD
            have q101 : x5_1 < (l0.length : Int) := zD
            obtain ⟨ad101, e101, hx101_0⟩ := Kd.at_int HR0.out x5_1 p101 q101
            cases e101
            replace p101 := eq_true p101
            replace q101 := eq_true q101
            have p102 : 0 ≤ (x5_1 : Int) := zD
            have q102 : x5_1 < (l1.length : Int) := zD
            obtain ⟨ad102, e102, hx102_0⟩ := Kd.at_int HR1.out x5_1 p102 q102
            cases e102
            replace p102 := eq_true p102
            replace q102 := eq_true q102
            go_wp2
            repeat (go_quiet (fail); try go_wp2)
            go_roundg k1
            case measure => have := HK1.out; omega
            case rel => exact ⟨(wrap64 (x5_1 + 1)), zF, H', ⟨by have := HK1.out; omega⟩, by repeat (first | exact Drawn0.refl _ | apply Drawn0.step)⟩
          · rw [if_neg c7] at H
            have c7b0 : ((rd l0 x5_1) == (rd l1 x5_1)) = false := beq_eq_false_iff_ne.mpr c7
            have c7b1 : ((rd l0 x5_1) != (rd l1 x5_1)) = true := bne_iff_ne.mpr c7
            obtain rfl := Option.some.inj H
            have p101 : 0 ≤ (x5_1 : Int) := zD
            have q101 : x5_1 < (l0.length : Int) := zD
            obtain ⟨ad101, e101, hx101_0⟩ := Kd.at_int HR0.out x5_1 p101 q101
            cases e101
            replace p101 := eq_true p101
            replace q101 := eq_true q101
            have p102 : 0 ≤ (x5_1 : Int) := zD
            have q102 : x5_1 < (l1.length : Int) := zD
            obtain ⟨ad102, e102, hx102_0⟩ := Kd.at_int HR1.out x5_1 p102 q102
            cases e102
            replace p102 := eq_true p102
            replace q102 := eq_true q102
            go_wp2
            repeat (go_quiet (fail); try go_wp2)
            go_ret
            exact ⟨by first | rfl | (simp; done) | (simp [*]; done), by repeat (first | exact Drawn0.refl _ | apply Drawn0.step)⟩
        · rw [if_neg c6] at H
          exact absurd H (by simp)
      · rw [if_neg c5] at H
        exact absurd H (by simp)
    · rw [if_neg c4] at H
      have c4b0 : decide (x5_1 < (l0.length : Int)) = false := decide_eq_false c4
      clear c4
      obtain rfl := Option.some.inj H
      go_wp2
      repeat (go_quiet (fail); try go_wp2)
      go_ret
      exact ⟨by first | rfl | (simp; done) | (simp [*]; done), by repeat (first | exact Drawn0.refl _ | apply Drawn0.step)⟩
 rw [if_neg c3] at H
 have c3b0 : ((l0.length : Int) == (l1.length : Int)) = false := beq_eq_false_iff_ne.mpr c3
 have c3b1 : ((l0.length : Int) != (l1.length : Int)) = true := bne_iff_ne.mpr c3
 have c3b2 : (l0.length == l1.length) = false := by first | simpa using c3 | (simp at c3 ⊢; omega)
 obtain rfl := Option.some.inj H
 go_enter Tryd.func9, Tryd.ntmps9
 go_wp2
 repeat (go_quiet (fail); try go_wp2)
 go_ret
 exact ⟨by first | rfl | (simp; done) | (simp [*]; done), by repeat (first | exact Drawn0.refl _ | apply Drawn0.step)⟩
end Go.Proofs.YtajfblkidneckaaDoor.P
end
section
namespace Go.Proofs.YtajfblkidneckaaDoor.P
open Go.RowKit Go.Proofs.YtajfblkidneckaaDoorW.PrintWords Go.Proofs.YtajfblkidneckaaDoorW.PrintLast Go.Proofs.YtajfblkidneckaaDoorW.PrintMore
attribute [local go_sem] max2_int min2_int max_two min_two max_three min_three max_four min_four   -- for this text's walks alone
set_option linter.unusedVariables false
set_option linter.unusedSimpArgs false
def laws_eqGarden.f (k : Nat) (l0_0 : List Int) (l1_0 : List Int) : Option (Bool) := (laws_eqInt64S.f k l0_0 l1_0).bind fun t103 => (if t103 = true then (some true) else (some false))
theorem laws_eqGarden.mono : ∀ a0 a1 k, LeO (laws_eqGarden.f k a0 a1) (laws_eqGarden.f (k + 1) a0 a1) := by
  intro a0 a1 k
  unfold laws_eqGarden.f
  repeat' first | (with_reducible exact laws_eqInt64S.mono _ _ _) | (with_reducible exact LeO.refl _) | (with_reducible exact LeO.none _) | (with_reducible refine LeO.ite ?_ ?_) | (with_reducible refine LeO.bind ?_ (fun _ => ?_)) | exact laws_eqInt64S.mono _ _ _ | exact LeO.none _ | refine LeO.ite ?_ ?_ | refine LeO.bind ?_ (fun _ => ?_)
set_option maxHeartbeats 8000000 in
set_option maxRecDepth 100000 in
theorem laws_eqGarden.calls (k : Nat) (A0_0 : Option Addr) (c0_0 : Nat) (l0_0 : List Int) (A1_0 : Option Addr) (c1_0 : Nat) (l1_0 : List Int) (r : Bool) (w : World) (hr0_0 : Kd.C (Kd.int .i64) w A0_0 l0_0.length l0_0) (hc0_0 : l0_0.length ≤ c0_0) (hr1_0 : Kd.C (Kd.int .i64) w A1_0 l1_0.length l1_0) (hc1_0 : l1_0.length ≤ c1_0) (h : laws_eqGarden.f k l0_0 l1_0 = some r) :
    Calls Tryd.prog 10 #[.agg #[.slice A0_0 l0_0.length c0_0], .agg #[.slice A1_0 l1_0.length c1_0]] w fun e w' => e = .returned (.bool r) ∧ Below w.heap.size w w' := by
 have hu28 := Tryd.underlying28
 have HR0_0 := Aside0.mk hr0_0
 have HC0_0 := Aside0.mk hc0_0
 clear hr0_0 hc0_0
 have HR1_0 := Aside0.mk hr1_0
 have HC1_0 := Aside0.mk hc1_0
 clear hr1_0 hc1_0
 have HB := Aside0.mk (Below.refl w.heap.size w)
 have H : ((laws_eqInt64S.f k l0_0 l1_0).bind fun t103 => (if t103 = true then (some true) else (some false))) = some r := h
 clear h
 replace H := Option.bind_eq_some_iff.mp H
 obtain ⟨t103, A30, H⟩ := H
 replace H : (if t103 = true then (some true) else (some false)) = some r := H
 have A3 := Aside0.mk A30
 clear A30
 by_cases c4 : t103 = true
 ·
  subst c4
  have H1 : (some true) = some r := by rw [if_pos rfl] at H; exact H
  clear H
  have H := H1
  clear H1
  obtain rfl := Option.some.inj H
  go_enter Tryd.func10, Tryd.ntmps10
  go_wp2_with (first | ((with_reducible refine gate_dst (N := 2) rfl ?_); refine box_event zr (N := 2) zr (cs := #[.slice A0_0 l0_0.length c0_0]) (t := 28) zg ?_; intro gb101 hg w5 hbox hb; have n_ := y4 (below_step (zB) hb) (hbox) ((zS hg : w.heap.size ≤ gb101)) ((zS hg : w.heap.size ≤ gb101)); clear HB; obtain ⟨HB, BK101, GW101, GE101⟩ := n_; clear hb hbox hg) | ((with_reducible refine gate_dst (N := 3) rfl ?_); refine box_event zr (N := 3) zr (cs := #[.slice A1_0 l1_0.length c1_0]) (t := 28) zg ?_; intro gb102 hg w6 hbox hb; have n_ := y7 (zb BK101.out hb) (below_step (zB) hb) (hbox) ((zS hg : w.heap.size ≤ gb102)) ((zS hg : w.heap.size ≤ gb102)) ((zL hg BK101.out : gb101 ≠ gb102)) ((zM hg BK101.out : gb102 ≠ gb101)); clear BK101 HB; obtain ⟨BK101, HB, BK102, GW102, GE102, NB101_102, NB102_101⟩ := n_; clear hb hbox hg; have hnb7 := NB101_102.out; have hnc7 := NB102_101.out; have hcz8_0 := zc BK101.out; have hfz8_0 := blk_frozen BK101.out 0; have hcz9_0 := zc BK102.out; have hfz9_0 := blk_frozen BK102.out 0) | ((with_reducible refine gate_callee (f := 9) rfl ?_); refine goesL_ (some 9) rfl rfl Tryd.func9 zk rfl #[.slice A0_0 l0_0.length c0_0, .slice A1_0 l1_0.length c1_0] rfl zA ?_; (with_reducible refine (laws_eqInt64S.calls k _ _ l0_0 _ _ l1_0 true _ ?side1 ?side2 ?side3 ?side4 A3.out).mono ?_); (case side1 => exact zC (Kd.C_below HR0_0.out HB.out)); (case side2 => exact HC0_0.out); (case side3 => exact zC (Kd.C_below HR1_0.out HB.out)); (case side4 => exact HC1_0.out); rintro e w' ⟨rfl, ⟨nd, rfl⟩⟩; refine ⟨_, rfl, ?_⟩))
  go_ret
  exact ⟨zE, zB⟩
 replace c4 := Bool.eq_false_iff.mpr c4
 subst c4
 have H1 : (some false) = some r := by rw [if_neg (show ¬ (false = true) by decide)] at H; exact H
 clear H
 have H := H1
 clear H1
 obtain rfl := Option.some.inj H
 go_enter Tryd.func10, Tryd.ntmps10
 go_wp2_with (first | ((with_reducible refine gate_dst (N := 2) rfl ?_); refine box_event zr (N := 2) zr (cs := #[.slice A0_0 l0_0.length c0_0]) (t := 28) zg ?_; intro gb101 hg w10 hbox hb; have n_ := y4 (below_step (zB) hb) (hbox) ((zS hg : w.heap.size ≤ gb101)) ((zS hg : w.heap.size ≤ gb101)); clear HB; obtain ⟨HB, BK101, GW101, GE101⟩ := n_; clear hb hbox hg) | ((with_reducible refine gate_dst (N := 3) rfl ?_); refine box_event zr (N := 3) zr (cs := #[.slice A1_0 l1_0.length c1_0]) (t := 28) zg ?_; intro gb102 hg w11 hbox hb; have n_ := y7 (zb BK101.out hb) (below_step (zB) hb) (hbox) ((zS hg : w.heap.size ≤ gb102)) ((zS hg : w.heap.size ≤ gb102)) ((zL hg BK101.out : gb101 ≠ gb102)) ((zM hg BK101.out : gb102 ≠ gb101)); clear BK101 HB; obtain ⟨BK101, HB, BK102, GW102, GE102, NB101_102, NB102_101⟩ := n_; clear hb hbox hg; have hnb12 := NB101_102.out; have hnc12 := NB102_101.out; have hcz13_0 := zc BK101.out; have hfz13_0 := blk_frozen BK101.out 0; have hcz14_0 := zc BK102.out; have hfz14_0 := blk_frozen BK102.out 0) | ((with_reducible refine gate_callee (f := 9) rfl ?_); refine goesL_ (some 9) rfl rfl Tryd.func9 zk rfl #[.slice A0_0 l0_0.length c0_0, .slice A1_0 l1_0.length c1_0] rfl zA ?_; (with_reducible refine (laws_eqInt64S.calls k _ _ l0_0 _ _ l1_0 false _ ?side1 ?side2 ?side3 ?side4 A3.out).mono ?_); (case side1 => exact zC (Kd.C_below HR0_0.out HB.out)); (case side2 => exact HC0_0.out); (case side3 => exact zC (Kd.C_below HR1_0.out HB.out)); (case side4 => exact HC1_0.out); rintro e w' ⟨rfl, ⟨nd, rfl⟩⟩; refine ⟨_, rfl, ?_⟩))
 go_ret
 exact ⟨zE, zB⟩
end Go.Proofs.YtajfblkidneckaaDoor.P
end
section
namespace Go.Proofs.YtajfblkidneckaaDoor.P
open Go.RowKit Go.Proofs.YtajfblkidneckaaDoorW.PrintWords Go.Proofs.YtajfblkidneckaaDoorW.PrintLast Go.Proofs.YtajfblkidneckaaDoorW.PrintMore
attribute [local go_sem] max2_int min2_int max_two min_two max_three min_three max_four min_four   -- for this text's walks alone
set_option linter.unusedVariables false
set_option linter.unusedSimpArgs false
def laws_markInt64S.l0 : Nat → List Int → Int → Int → Option (Int × List Int)
  | 0, _, _, _ => none
  | k + 1, x0, x1, x5 => if x5 < (x0.length : Int) then (if 0 ≤ x5 then (laws_markInt64S.l0 k (x0.set (x5 : Int).toNat x1) (wrap64 (x1 + 1)) (wrap64 (x5 + 1))) else (none)) else (some (x1, x0))
def laws_markInt64S.f (k : Nat) (l0 : List Int) (a1 : Int) : Option (Int × List Int) := laws_markInt64S.l0 k l0 a1 0
theorem laws_markInt64S.mono_l : ∀ k, (∀ y0 y1 y2, LeO (laws_markInt64S.l0 k y0 y1 y2) (laws_markInt64S.l0 (k + 1) y0 y1 y2))
  | 0 => fun _ _ _ r h => by simp [laws_markInt64S.l0] at h
  | k + 1 => by
    have ih0 := laws_markInt64S.mono_l k
    · intro y0 y1 y2
      unfold laws_markInt64S.l0
      repeat' first | (with_reducible exact ih0 _ _ _) | (with_reducible exact LeO.refl _) | (with_reducible exact LeO.none _) | (with_reducible refine LeO.ite ?_ ?_) | (with_reducible refine LeO.bind ?_ (fun _ => ?_)) | exact ih0 _ _ _ | exact LeO.none _ | refine LeO.ite ?_ ?_ | refine LeO.bind ?_ (fun _ => ?_)
theorem laws_markInt64S.mono : ∀ a0 a1 k, LeO (laws_markInt64S.f k a0 a1) (laws_markInt64S.f (k + 1) a0 a1) := by
  intro a0 a1 k
  have ih0 := laws_markInt64S.mono_l k
  unfold laws_markInt64S.f
  repeat' first | (with_reducible exact ih0 _ _ _) | (with_reducible exact LeO.refl _) | (with_reducible exact LeO.none _) | (with_reducible refine LeO.ite ?_ ?_) | (with_reducible refine LeO.bind ?_ (fun _ => ?_)) | exact ih0 _ _ _ | exact LeO.none _ | refine LeO.ite ?_ ?_ | refine LeO.bind ?_ (fun _ => ?_)
set_option maxHeartbeats 8000000 in
set_option maxRecDepth 100000 in
theorem laws_markInt64S.calls (k : Nat) (P0_ : Nat → Prop) (u9000_ : Value) (l0 : List Int) (a1 : Int) (r1 : Int) (r2 : List Int) (w0 w : World) (hB : Below w0.heap.size w0 w) (ho0 : Kd.R (Kd.int .i64) 2 w w0.heap.size P0_ u9000_ l0) (h : laws_markInt64S.f k l0 a1 = some (r1, r2)) :
    Calls Tryd.prog 12 #[u9000_, .int .i64 a1] w fun e w' => e = .returned (.int .i64 r1) ∧ Kd.R (Kd.int .i64) 2 w' w0.heap.size (fun k_ => (P0_ k_ ∨ w.heap.size ≤ k_)) u9000_ r2 ∧ Below w0.heap.size w0 w' ∧ Kept w w' (fun k_ => P0_ k_) := by
 have HO0 := Aside0.mk (show Kd.R (Kd.int .i64) 2 w w0.heap.size (fun k_ => (P0_ k_ ∨ w.heap.size ≤ k_)) u9000_ l0 from Kd.R_mono ho0 (fun k_ hk => (.inl hk)))
 have HK := Aside0.mk (Kept.refl w (fun k_ => P0_ k_))
 have HW0 := Aside0.mk hB.size
 have HB := Aside0.mk hB
 clear hB
 have H : (laws_markInt64S.l0 k l0 a1 0) = some (r1, r2) := h
 clear h
 have H' := Aside0.mk H
 clear H
 go_enter Tryd.func12, Tryd.ntmps12
 go_wp2
 go_loopg [1, 5] k (fun kq v1 v5 w' => ∃ (x0_1 : List Int) (x1_1 : Int) (x5_1 : Int), v1 = .int .i64 x1_1 ∧ v5 = .int .i64 x5_1 ∧ Aside0 (laws_markInt64S.l0 kq x0_1 x1_1 x5_1 = some (r1, r2)) ∧ Aside0 (kq ≤ k) ∧ Aside0 (Kd.R (Kd.int .i64) 2 w' w0.heap.size (fun k_ => (P0_ k_ ∨ w.heap.size ≤ k_)) u9000_ x0_1) ∧ Aside0 (Kept w w' (fun k_ => P0_ k_)) ∧ Aside0 (Below w0.heap.size w0 w'))
 case atStart => exact ⟨(l0), (a1), (0), zF, zF, H', ⟨Nat.le_refl _⟩, ⟨zR HO0.out⟩, ⟨zJ⟩, ⟨zB⟩⟩
 clear H'
 obtain ⟨x0_1, x1_1, x5_1, rfl, rfl, HA, HK1, HO_0, HK, HB⟩ := hrel
 cases gk with
 | zero => exact absurd HA.out (by simp [laws_markInt64S.l0])
 | succ k1 =>
   have H := HA.out
   clear HA
   simp only [laws_markInt64S.l0] at H
   by_cases c3 : x5_1 < (x0_1.length : Int)
   · rw [if_pos c3] at H
     have c3b0 : decide (x5_1 < (x0_1.length : Int)) = true := decide_eq_true c3
     clear c3
     by_cases c4 : 0 ≤ x5_1
     · rw [if_pos c4] at H
       have c4b0 : decide (0 ≤ x5_1) = true := decide_eq_true c4
       clear c4
       obtain ⟨y101, hy101⟩ : ∃ y_ : List Int, y_ = (x0_1.set (x5_1 : Int).toNat x1_1) := ⟨_, rfl⟩
       replace H : (laws_markInt64S.l0 k1 y101 (wrap64 (x1_1 + 1)) (wrap64 (x5_1 + 1))) = some (r1, r2) := zH hy101
       have Ny101 := Aside0.mk hy101
       clear hy101
       have H' := Aside0.mk H
       clear H
       obtain ⟨Ao6, co6, eo6⟩ := Kd.R_slice HO_0.out
       subst eo6
       have p5 : 0 ≤ (x5_1 : Int) := zD
       have q5 : (x5_1 : Int) < ((x0_1.length : Int) : Int) := zD
       obtain ⟨go5, co5, eo5, gb5, gl5, cl5, HG5⟩ := Kd.R_form HO_0.out (by omega)
       (first | cases eo5 | (injection eo5 with ea_ en_ ec_; (first | subst ea_ | (injection ea_ with ea_; subst ea_)); subst ec_; clear en_))
       have GB5 := Aside0.mk gb5
       have GG5 := Aside0.mk HG5
       clear gb5 gl5 HG5
       have HMgo5 := Aside0.mk (show (P0_ go5 ∨ w.heap.size ≤ go5) from (HO_0.out.1 _ rfl))
       obtain ⟨hx5_0, hf5_0⟩ := Kd.R_celln 0 HO_0.out (x5_1 : Int) p5 q5
       replace p5 := eq_true p5
       replace q5 := eq_true q5
       have HP7 := Kd.R_putg HO_0.out (x5_1 : Int) x1_1
       go_wp2_with (first | ((with_reducible refine gate_store (t := 2) (p := 15) rfl ?_); refine store_event (t := 2) (p := 15) (v := ?vo_w8) (w1 := (wr.setCell ⟨go5, (x5_1 : Int).toNat, none⟩ (.int .i64 x1_1))) ?hg ?ho ?hn ?hr ?_; (case ho => rfl); (case hg => rfl); (case hn => rfl); (case hr => first | (go_simp; done) | (go_simp; rfl)); intro w8 hw; have hg : wr.grownBy w8 (some go5) := (by rw [hw]; exact HP7.2); have hp_ : Kd.R (Kd.int .i64) 2 w8 w0.heap.size (fun k_ => (P0_ k_ ∨ w.heap.size ≤ k_)) (.slice (some ⟨go5, 0, none⟩) x0_1.length co6) y101 := (by rw [hw, Ny101.out]; exact HP7.1); clear HP7; have n_ := y3 (hp_) ((by rw [hw]; exact below_set (HB.out) GB5.out : Below w0.heap.size w0 w8)) (Kept.of_grown (S := (fun k_ => P0_ k_)) hg (zJ) (fun k_ e_ => (HO_0.out.1 k_ e_))); clear HO_0 HB HK; obtain ⟨HO_0, HB, HK⟩ := n_; clear hg hw hp_))
       go_roundg k1
       case measure => have := HK1.out; omega
       case rel => exact ⟨(y101), (wrap64 (x1_1 + 1)), (wrap64 (x5_1 + 1)), zF, zF, H', ⟨by have := HK1.out; omega⟩, ⟨zR HO_0.out⟩, ⟨zJ⟩, ⟨zB⟩⟩
     · rw [if_neg c4] at H
       exact absurd H (by simp)
   · rw [if_neg c3] at H
     have c3b0 : decide (x5_1 < (x0_1.length : Int)) = false := decide_eq_false c3
     clear c3
     simp only [Option.some.injEq, Prod.mk.injEq] at H
     obtain ⟨rfl, rfl⟩ := H
     obtain ⟨Ao9, co9, eo9⟩ := Kd.R_slice HO_0.out
     subst eo9
     go_wp2
     go_ret
     exact ⟨zE, zR HO_0.out, zB, zJ⟩
end Go.Proofs.YtajfblkidneckaaDoor.P
end
section
namespace Go.Proofs.YtajfblkidneckaaDoor.P
open Go.RowKit Go.Proofs.YtajfblkidneckaaDoorW.PrintWords Go.Proofs.YtajfblkidneckaaDoorW.PrintLast Go.Proofs.YtajfblkidneckaaDoorW.PrintMore
attribute [local go_sem] max2_int min2_int max_two min_two max_three min_three max_four min_four   -- for this text's walks alone
set_option linter.unusedVariables false
set_option linter.unusedSimpArgs false
def laws_markGarden.f (k : Nat) (l0_0 : List Int) (a1 : Int) : Option (Int × List Int) := (laws_markInt64S.f k l0_0 a1).bind fun bt102 => (some (bt102.1, bt102.2))
theorem laws_markGarden.mono : ∀ a0 a1 k, LeO (laws_markGarden.f k a0 a1) (laws_markGarden.f (k + 1) a0 a1) := by
  intro a0 a1 k
  unfold laws_markGarden.f
  repeat' first | (with_reducible exact laws_markInt64S.mono _ _ _) | (with_reducible exact LeO.refl _) | (with_reducible exact LeO.none _) | (with_reducible refine LeO.ite ?_ ?_) | (with_reducible refine LeO.bind ?_ (fun _ => ?_)) | exact laws_markInt64S.mono _ _ _ | exact LeO.none _ | refine LeO.ite ?_ ?_ | refine LeO.bind ?_ (fun _ => ?_)
set_option maxHeartbeats 8000000 in
set_option maxRecDepth 100000 in
theorem laws_markGarden.calls (k : Nat) (P0_0_ : Nat → Prop) (u9000_ : Value) (l0_0 : List Int) (a1 : Int) (r1 : Int) (r2 : List Int) (w0 w : World) (hB : Below w0.heap.size w0 w) (ho0_0 : Kd.R (Kd.int .i64) 2 w w0.heap.size P0_0_ u9000_ l0_0) (h : laws_markGarden.f k l0_0 a1 = some (r1, r2)) :
    Calls Tryd.prog 11 #[.agg #[u9000_], .int .i64 a1] w fun e w' => e = .returned (.int .i64 r1) ∧ Kd.R (Kd.int .i64) 2 w' w0.heap.size (fun k_ => (P0_0_ k_ ∨ w.heap.size ≤ k_)) u9000_ r2 ∧ Below w0.heap.size w0 w' ∧ Kept w w' (fun k_ => P0_0_ k_) := by
 have hu28 := Tryd.underlying28
 have HO0_0 := Aside0.mk (show Kd.R (Kd.int .i64) 2 w w0.heap.size (fun k_ => (P0_0_ k_ ∨ w.heap.size ≤ k_)) u9000_ l0_0 from Kd.R_mono ho0_0 (fun k_ hk => (.inl hk)))
 have HK := Aside0.mk (Kept.refl w (fun k_ => P0_0_ k_))
 have HW0 := Aside0.mk hB.size
 have HB := Aside0.mk hB
 clear hB
 have H : ((laws_markInt64S.f k l0_0 a1).bind fun bt102 => (some (bt102.1, bt102.2))) = some (r1, r2) := h
 clear h
 replace H := Option.bind_eq_some_iff.mp H
 obtain ⟨⟨t102, t103⟩, A30, H⟩ := H
 replace H : (some (t102, t103)) = some (r1, r2) := H
 have A3 := Aside0.mk A30
 clear A30
 simp only [Option.some.injEq, Prod.mk.injEq] at H
 obtain ⟨rfl, rfl⟩ := H
 obtain ⟨Ao4, co4, eo4⟩ := Kd.R_slice HO0_0.out
 subst eo4
 go_enter Tryd.func11, Tryd.ntmps11
 go_wp2_with (first | ((with_reducible refine gate_dst (N := 2) rfl ?_); refine box_event zr (N := 2) zr (cs := #[.slice Ao4 l0_0.length co4]) (t := 28) zg ?_; intro gb101 hg w5 hbox hb; have n_ := y6 (Kd.R_below (zR HO0_0.out) hb) (Kept.below (S := (fun k_ => P0_0_ k_)) (zJ) hb) (below_step (zB) hb) (hbox) ((by rw [hg]; exact (by first | exact HK.out.1 | exact (show Kept w _ (fun k_ => P0_0_ k_) from zJ).1) : w.heap.size ≤ gb101)) ((zS hg : w0.heap.size ≤ gb101)); clear HO0_0 HK HB; obtain ⟨HO0_0, HK, HB, BK101, GW101, GE101⟩ := n_; clear hb hbox hg; have hcz6_0 := zc BK101.out; have hfz6_0 := blk_frozen BK101.out 0) | ((with_reducible refine gate_callee (f := 12) rfl ?_); refine goesL_ (some 8) rfl rfl Tryd.func12 zk rfl #[.slice Ao4 l0_0.length co4, .int .i64 a1] rfl zA ?_; (with_reducible refine (laws_markInt64S.calls k (fun k_ => some k_ = (.slice Ao4 l0_0.length co4 : Value).ownBlock) (.slice Ao4 l0_0.length co4) l0_0 a1 t102 t103 w0 _ ?side1 ?side2 A3.out).mono ?_); (case side1 => exact zB); (case side2 => exact Kd.R_tight rfl HO0_0.out); rintro e w7 ⟨rfl, hy0, hb, hkp⟩; refine ⟨_, rfl, ?_⟩; have n_ := y4 (Kd.R_reok rfl hy0 (fun k_ e_ => HO0_0.out.1 k_ e_)) (blk_kept (zG BK101.out) hkp (fun hs_ => (fun e_ => (Kd.R_ne HO0_0.out BK101.out (by decide)) e_) hs_)) (Kept.then_ (S := (fun k_ => P0_0_ k_)) (zJ) hkp (fun k_ hs_ => (fun e_ => (HO0_0.out.1 k_ e_.symm)) hs_)) (hb); clear HO0_0 BK101 HK HB; obtain ⟨HO0_0, BK101, HK, HB⟩ := n_; (try clear hb); (try clear hkp); (try clear hy0)))
 go_ret
 exact ⟨zE, zR HO0_0.out, zB, zJ⟩
end Go.Proofs.YtajfblkidneckaaDoor.P
end
section
namespace Go.Proofs.YtajfblkidneckaaDoor.P
open Go.RowKit Go.Proofs.YtajfblkidneckaaDoorW.PrintWords Go.Proofs.YtajfblkidneckaaDoorW.PrintLast Go.Proofs.YtajfblkidneckaaDoorW.PrintMore
attribute [local go_sem] max2_int min2_int max_two min_two max_three min_three max_four min_four   -- for this text's walks alone
set_option linter.unusedVariables false
set_option linter.unusedSimpArgs false
def laws_heldInt64S.l0 : Nat → List Int → Int → Int → Option (Int)
  | 0, _, _, _ => none
  | k + 1, x0, x1, x5 => if x5 < (x0.length : Int) then (if 0 ≤ x5 then (if (rd x0 x5) = x1 then (laws_heldInt64S.l0 k x0 (wrap64 (x1 + 1)) (wrap64 (x5 + 1))) else (some (-1))) else (none)) else (some x1)
def laws_heldInt64S.f (k : Nat) (l0 : List Int) (a1 : Int) : Option (Int) := laws_heldInt64S.l0 k l0 a1 0
theorem laws_heldInt64S.mono_l : ∀ k, (∀ y0 y1 y2, LeO (laws_heldInt64S.l0 k y0 y1 y2) (laws_heldInt64S.l0 (k + 1) y0 y1 y2))
  | 0 => fun _ _ _ r h => by simp [laws_heldInt64S.l0] at h
  | k + 1 => by
    have ih0 := laws_heldInt64S.mono_l k
    · intro y0 y1 y2
      unfold laws_heldInt64S.l0
      repeat' first | (with_reducible exact ih0 _ _ _) | (with_reducible exact LeO.refl _) | (with_reducible exact LeO.none _) | (with_reducible refine LeO.ite ?_ ?_) | (with_reducible refine LeO.bind ?_ (fun _ => ?_)) | exact ih0 _ _ _ | exact LeO.none _ | refine LeO.ite ?_ ?_ | refine LeO.bind ?_ (fun _ => ?_)
theorem laws_heldInt64S.mono : ∀ a0 a1 k, LeO (laws_heldInt64S.f k a0 a1) (laws_heldInt64S.f (k + 1) a0 a1) := by
  intro a0 a1 k
  have ih0 := laws_heldInt64S.mono_l k
  unfold laws_heldInt64S.f
  repeat' first | (with_reducible exact ih0 _ _ _) | (with_reducible exact LeO.refl _) | (with_reducible exact LeO.none _) | (with_reducible refine LeO.ite ?_ ?_) | (with_reducible refine LeO.bind ?_ (fun _ => ?_)) | exact ih0 _ _ _ | exact LeO.none _ | refine LeO.ite ?_ ?_ | refine LeO.bind ?_ (fun _ => ?_)
set_option maxHeartbeats 8000000 in
set_option maxRecDepth 100000 in
theorem laws_heldInt64S.calls (k : Nat) (A0 : Option Addr) (c0 : Nat) (l0 : List Int) (a1 : Int) (r : Int) (w : World) (hr0 : Kd.C (Kd.int .i64) w A0 l0.length l0) (hc0 : l0.length ≤ c0) (h : laws_heldInt64S.f k l0 a1 = some r) :
    Calls Tryd.prog 13 #[.slice A0 l0.length c0, .int .i64 a1] w fun e w' => e = .returned (.int .i64 r) ∧ Drawn0 w w' := by
 have HR0 := Aside0.mk hr0
 have HC0 := Aside0.mk hc0
 clear hr0 hc0
 have H : (laws_heldInt64S.l0 k l0 a1 0) = some r := h
 clear h
 have H' := Aside0.mk H
 clear H
 go_enter Tryd.func13, Tryd.ntmps13
 go_wp2
 go_loopg [1, 5] k (fun kq v1 v5 w' => ∃ (x1_1 : Int) (x5_1 : Int), v1 = .int .i64 x1_1 ∧ v5 = .int .i64 x5_1 ∧ Aside0 (laws_heldInt64S.l0 kq l0 x1_1 x5_1 = some r) ∧ Aside0 (kq ≤ k) ∧ Drawn0 w w')
 case atStart => exact ⟨(a1), (0), zF, zF, H', ⟨Nat.le_refl _⟩, by repeat (first | exact Drawn0.refl _ | apply Drawn0.step)⟩
 clear H'
 obtain ⟨x1_1, x5_1, rfl, rfl, HA, HK1, ⟨m1, rfl⟩⟩ := hrel
 cases gk with
 | zero => exact absurd HA.out (by simp [laws_heldInt64S.l0])
 | succ k1 =>
   have H := HA.out
   clear HA
   simp only [laws_heldInt64S.l0] at H
   by_cases c3 : x5_1 < (l0.length : Int)
   · rw [if_pos c3] at H
     have c3b0 : decide (x5_1 < (l0.length : Int)) = true := decide_eq_true c3
     clear c3
     by_cases c4 : 0 ≤ x5_1
     · rw [if_pos c4] at H
       have c4b0 : decide (0 ≤ x5_1) = true := decide_eq_true c4
       clear c4
       by_cases c5 : (rd l0 x5_1) = x1_1
       · rw [if_pos c5] at H
         have c5b0 : ((rd l0 x5_1) == x1_1) = true := beq_iff_eq.mpr c5
         have c5b1 : ((rd l0 x5_1) != x1_1) = false := bne_eq_false_iff_eq.mpr c5
         clear c5
         have H' := Aside0.mk H
         clear H
         have p101 : 0 ≤ (x5_1 : Int) := zD
         have q101 : x5_1 < (l0.length : Int) := zD
         obtain ⟨ad101, e101, hx101_0⟩ := Kd.at_int HR0.out x5_1 p101 q101
         cases e101
         replace p101 := eq_true p101
         replace q101 := eq_true q101
         go_wp2
         go_roundg k1
         case measure => have := HK1.out; omega
         case rel => exact ⟨(wrap64 (x1_1 + 1)), (wrap64 (x5_1 + 1)), zF, zF, H', ⟨by have := HK1.out; omega⟩, by repeat (first | exact Drawn0.refl _ | apply Drawn0.step)⟩
       · rw [if_neg c5] at H
         have c5b0 : ((rd l0 x5_1) == x1_1) = false := beq_eq_false_iff_ne.mpr c5
         have c5b1 : ((rd l0 x5_1) != x1_1) = true := bne_iff_ne.mpr c5
         obtain rfl := Option.some.inj H
         have p101 : 0 ≤ (x5_1 : Int) := zD
         have q101 : x5_1 < (l0.length : Int) := zD
         obtain ⟨ad101, e101, hx101_0⟩ := Kd.at_int HR0.out x5_1 p101 q101
         cases e101
         replace p101 := eq_true p101
         replace q101 := eq_true q101
         go_wp2
         go_ret
         exact ⟨by first | rfl | (simp; done) | (simp [*]; done), by repeat (first | exact Drawn0.refl _ | apply Drawn0.step)⟩
     · rw [if_neg c4] at H
       exact absurd H (by simp)
   · rw [if_neg c3] at H
     have c3b0 : decide (x5_1 < (l0.length : Int)) = false := decide_eq_false c3
     clear c3
     obtain rfl := Option.some.inj H
     go_wp2
     go_ret
     exact ⟨by first | rfl | (simp; done) | (simp [*]; done), by repeat (first | exact Drawn0.refl _ | apply Drawn0.step)⟩
end Go.Proofs.YtajfblkidneckaaDoor.P
end
section
namespace Go.Proofs.YtajfblkidneckaaDoor.P
open Go.RowKit Go.Proofs.YtajfblkidneckaaDoorW.PrintWords Go.Proofs.YtajfblkidneckaaDoorW.PrintLast Go.Proofs.YtajfblkidneckaaDoorW.PrintMore
attribute [local go_sem] max2_int min2_int max_two min_two max_three min_three max_four min_four   -- for this text's walks alone
set_option linter.unusedVariables false
set_option linter.unusedSimpArgs false
def spec_l01In.f (a0 : Int) (a1 : Int) (a2 : Int) : Option (Bool) := if a0 ≥ a1 then (some (decide (a0 ≤ a2))) else (some false)
set_option maxHeartbeats 8000000 in
set_option maxRecDepth 100000 in
theorem spec_l01In.calls (a0 : Int) (a1 : Int) (a2 : Int) (r : Bool) (w : World) (h : spec_l01In.f a0 a1 a2 = some r) :
    Calls Tryd.prog 18 #[.int .i64 a0, .int .i64 a1, .int .i64 a2] w fun e w' => e = .returned (.bool r) ∧ Drawn0 w w' := by
 have H : (if a0 ≥ a1 then (some (decide (a0 ≤ a2))) else (some false)) = some r := h
 clear h
 by_cases c4 : a0 ≥ a1
 ·
  rw [if_pos c4] at H
  have c4b0 : decide (a1 ≤ a0) = true := decide_eq_true c4
  clear c4
  obtain rfl := Option.some.inj H
  go_enter Tryd.func18, Tryd.ntmps18
  go_wp2
  go_ret
  exact ⟨by first | rfl | (simp; done) | (simp [*]; done), by repeat (first | exact Drawn0.refl _ | apply Drawn0.step)⟩
 rw [if_neg c4] at H
 have c4b0 : decide (a1 ≤ a0) = false := decide_eq_false c4
 clear c4
 obtain rfl := Option.some.inj H
 go_enter Tryd.func18, Tryd.ntmps18
 go_wp2
 go_ret
 exact ⟨by first | rfl | (simp; done) | (simp [*]; done), by repeat (first | exact Drawn0.refl _ | apply Drawn0.step)⟩
end Go.Proofs.YtajfblkidneckaaDoor.P
end
section
namespace Go.Proofs.YtajfblkidneckaaDoor.P
open Go.RowKit Go.Proofs.YtajfblkidneckaaDoorW.PrintWords Go.Proofs.YtajfblkidneckaaDoorW.PrintLast Go.Proofs.YtajfblkidneckaaDoorW.PrintMore
attribute [local go_sem] max2_int min2_int max_two min_two max_three min_three max_four min_four   -- for this text's walks alone
set_option linter.unusedVariables false
set_option linter.unusedSimpArgs false
def spec_l06Is.l0 : Nat → Int → List Int → Option (Bool)
  | 0, _, _ => none
  | k + 1, x3, x102000 => if x3 < (x102000.length : Int) then (if 0 ≤ x3 then ((spec_l01In.f (rd x102000 x3) 1 20).bind fun t103 => (if t103 = true then (spec_l06Is.l0 k (wrap64 (x3 + 1)) x102000) else (some false))) else (none)) else (if (x102000.length : Int) > 0 then (some (decide ((x102000.length : Int) ≤ 8))) else (some false))
def spec_l06Is.f (k : Nat) (l0_0 : List Int) : Option (Bool) := spec_l06Is.l0 k 0 l0_0
theorem spec_l06Is.mono_l : ∀ k, (∀ y0 y1, LeO (spec_l06Is.l0 k y0 y1) (spec_l06Is.l0 (k + 1) y0 y1))
  | 0 => fun _ _ r h => by simp [spec_l06Is.l0] at h
  | k + 1 => by
    have ih0 := spec_l06Is.mono_l k
    · intro y0 y1
      unfold spec_l06Is.l0
      repeat' first | (with_reducible exact ih0 _ _) | (with_reducible exact LeO.refl _) | (with_reducible exact LeO.none _) | (with_reducible refine LeO.ite ?_ ?_) | (with_reducible refine LeO.bind ?_ (fun _ => ?_)) | exact ih0 _ _ | exact LeO.none _ | refine LeO.ite ?_ ?_ | refine LeO.bind ?_ (fun _ => ?_)
theorem spec_l06Is.mono : ∀ a0 k, LeO (spec_l06Is.f k a0) (spec_l06Is.f (k + 1) a0) := by
  intro a0 k
  have ih0 := spec_l06Is.mono_l k
  unfold spec_l06Is.f
  repeat' first | (with_reducible exact ih0 _ _) | (with_reducible exact LeO.refl _) | (with_reducible exact LeO.none _) | (with_reducible refine LeO.ite ?_ ?_) | (with_reducible refine LeO.bind ?_ (fun _ => ?_)) | exact ih0 _ _ | exact LeO.none _ | refine LeO.ite ?_ ?_ | refine LeO.bind ?_ (fun _ => ?_)
end Go.Proofs.YtajfblkidneckaaDoor.P
end
