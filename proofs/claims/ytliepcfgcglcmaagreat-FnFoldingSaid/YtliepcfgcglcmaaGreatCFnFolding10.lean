/- Folded tasks served by turns are served by the divided turns, the gaps that turns serve are the least ones, and who asks more has greater gaps. -/
import Derived.Test.YtliepcfgcglcmaaGreatCFnFolding9
section
namespace Go.Proofs.YtliepcfgcglcmaaGreat.P
open Go.RowKit Go.Proofs.YtliepcfgcglcmaaGreatW.PrintWords Go.Proofs.YtliepcfgcglcmaaGreatW.PrintLast Go.Proofs.YtliepcfgcglcmaaGreatW.PrintMore
attribute [local go_sem] Kn Kj Ld Li Kb Ke Kl Km
set_option linter.unusedVariables false
set_option linter.unusedSimpArgs false
def Ad.Pure : Prop := ∀ (l0 : List Int), l0.length ≤ maxLen → l0.length * 1 ≤ 140737488351232 → (∀ x ∈ l0, (Lit.int .u8 x).wf = true) → ∃ k, Ad.f k l0 = some true
theorem Ad.walk (P : Ad.Pure) (a0 : Option Addr) (len0 cap0 : Nat) (z0 : List Int) (w : World) (w0 : (a0 = none ∧ len0 = 0 ∧ cap0 = 0 ∧ z0 = []) ∨ ∃ x, a0 = some x ∧ len0 ≤ cap0 ∧ cap0 ≤ maxLen ∧ z0.length = cap0 ∧ (∀ i, i < z0.length → w.cell? (x.add i) = some (.int .u8 (z0.getD i 0))) ∧ ∀ n ∈ z0, (Lit.int .u8 n).wf = true) (y0 : len0 * 1 ≤ 140737488351232) :
    Calls Tryz.prog 3 #[.slice a0 len0 cap0] w fun e w' => e = .returned (.bool true) ∧ Below w.heap.size w w' := by
 obtain ⟨l0, rfl, hr0, hm0, hw0, hc0⟩ := Gg.ofRowC w0
 obtain ⟨k, h⟩ := P l0 hm0 y0 hw0
 refine (Ad.calls k _ _ l0 true w (Kd.Pk (d := (0 : Int)) (h1 := fun _ => rfl) hr0) hc0 h).mono ?_
 rintro e w' ⟨rfl, hd⟩
 exact ⟨rfl, hd⟩
end Go.Proofs.YtliepcfgcglcmaaGreat.P
end
section
namespace Go.Proofs.YtliepcfgcglcmaaGreat.Pure
open Go.RowKit Go.Proofs.YtliepcfgcglcmaaGreat.P Go.Proofs.YtliepcfgcglcmaaGreatW.PrintWords Go.Proofs.YtliepcfgcglcmaaGreatW.PrintLast Go.Proofs.YtliepcfgcglcmaaGreatW.PrintMore
set_option linter.unusedVariables false
set_option linter.unusedSimpArgs false
theorem Aq {α : Type} {c : Prop} [Decidable c] {A B : Nat → Option α} {r : α} (h : c) (e : Ev A r) : Ev (fun n => if c then A n else B n) r := Ev.congr (fun n => if_pos h) e
theorem Ca {α : Type} {c : Prop} [Decidable c] {A B : Nat → Option α} {r : α} (h : ¬ c) (e : Ev B r) : Ev (fun n => if c then A n else B n) r := Ev.congr (fun n => if_neg h) e
theorem Ds {α : Type} (r : α) : Ev (fun _ => some r) r := Ev.now r
theorem Ly {α : Type} {g : Option α} {r : α} (h : g = some r) : Ev (fun _ => g) r := by subst h; exact Ev.now r
theorem Ea {α β : Type} {g : Nat → Option α} {f : Nat → α → Option β} {a : α} {r : β} (h : Ev g a) (k : Ev (fun n => f n a) r) : Ev (fun n => (g n).bind (f n)) r := Ev.bind h k
theorem Ew {α β : Type} {g : Option α} {f : Nat → α → Option β} {a : α} {r : β} (h : g = some a) (k : Ev (fun n => f n a) r) : Ev (fun n => g.bind (f n)) r := by subst h; exact k
theorem q1e {α : Type} {g : Nat → Option α} {r : α} (h : Ev g r) : ∃ k, g k = some r := h.rounds
theorem q2i {α : Type} {g : Nat → Option α} {r r' : α} (h : Ev g r) (e : r = r') : Ev g r' := e ▸ h
theorem Ek {x : Int} (h1 : -9223372036854775808 ≤ x) (h2 : x ≤ 9223372036854775807) : wrap64 x = x := by unfold wrap64; omega
theorem Dj {n : Nat} (h : n + 1 ≤ 9223372036854775807) : wrap64 ((n : Int) + 1) = ((n + 1 : Nat) : Int) := by rw [Ek (by omega) (by omega)]; omega
theorem Er {l : List Int} {n : Nat} (h : n < l.length) : rd l (n : Int) = l[n] := by simp [rd, h]
theorem Kg {n : Nat} (h : n ≤ 9223372036854775807) : wrap64 (n : Int) = n := Ek (by omega) (by omega)
end Go.Proofs.YtliepcfgcglcmaaGreat.Pure
end
section
namespace Go.Proofs.YtliepcfgcglcmaaGreat.Pure
set_option linter.unusedVariables false
set_option linter.unusedSimpArgs false
def Ei (x : Int) : Int → List Int → List Int
 | _, [] => []
 | o, y :: l => if y = x then o :: Ei x (o + 1) l else Ei x (o + 1) l
theorem Wx (x : Int) (l m : List Int) : ∀ o, Ei x o (l ++ m) = Ei x o l ++ Ei x (o + l.length) m := by
 induction l with
 | nil => intro o; simp [Ei]
 | cons y l ih =>
  intro o
  simp only [List.cons_append, Ei, ih, List.length_cons]
  rw [show o + ((l.length + 1 : Nat) : Int) = o + 1 + (l.length : Int) by omega]
  split <;> simp
theorem Nc (x : Int) (l : List Int) (n : Nat) (h : n < l.length) : Ei x 0 (l.take (n + 1)) = Ei x 0 (l.take n) ++ (if l[n] = x then [(n : Int)] else []) := by
 rw [List.take_succ_eq_append_getElem h, Wx]
 congr 1
 rw [List.length_take, Nat.min_eq_left (by omega)]
 simp [Ei]
theorem Lc (x : Int) (l : List Int) : ∀ o, ∀ y ∈ Ei x o l, o ≤ y ∧ y < o + l.length := by
 induction l with
 | nil => intro o y hy; simp [Ei] at hy
 | cons z l ih =>
  intro o y hy
  simp only [Ei] at hy
  simp only [List.length_cons]
  split at hy
  ·
   rcases List.mem_cons.1 hy with rfl | hy
   ·
    omega
   ·
    have := ih _ _ hy; omega
  ·
   have := ih _ _ hy; omega
theorem Mb (x : Int) (l : List Int) : ∀ o, (Ei x o l).length ≤ l.length := by
 induction l with
 | nil => intro o; simp [Ei]
 | cons z l ih =>
  intro o
  simp only [Ei]
  have := ih (o + 1)
  split <;> simp only [List.length_cons] <;> omega
def diffs : List Int → List Int
 | a :: b :: t => (b - a) :: diffs (b :: t)
 | [_] => []
 | [] => []
theorem Lh : ∀ p : List Int, (diffs p).length = p.length - 1
 | a :: b :: t => by simp only [diffs, List.length_cons, Lh (b :: t)]; omega
 | [_] => rfl
 | [] => rfl
theorem Wb : ∀ (p : List Int) (i : Nat), i + 1 < p.length → (diffs p)[i]? = some (p.getD (i + 1) 0 - p.getD i 0)
 | a :: b :: t, 0, _ => by simp [diffs]
 | a :: b :: t, i + 1, h => by
  simp only [diffs, List.getElem?_cons_succ]
  rw [Wb (b :: t) i (by simp only [List.length_cons] at h ⊢; omega)]
  simp
 | [_], i, h => by simp at h
 | [], i, h => by simp at h
theorem Uj : ∀ (p : List Int) (n d : Int), p ≠ [] → diffs (p ++ [n]) = diffs p ++ [n - p.getLastD d]
 | [], _, _, h => absurd rfl h
 | [a], n, d, _ => by simp [diffs]
 | a :: b :: t, n, d, _ => by
  have := Uj (b :: t) n d (by simp)
  simp only [List.cons_append, diffs] at this ⊢
  rw [this]
  simp
def Ex (l : List Int) (x : Int) : List Int :=
 if Ei x 0 l = [] then [] else diffs (Ei x 0 l) ++ [(l.length : Int) - (Ei x 0 l).getLastD (-1) + (Ei x 0 l).headD (-1)]
theorem So {p : List Int} (h : p ≠ []) (d : Int) : p.headD d ∈ p := by cases p with | nil => exact absurd rfl h | cons a t => simp
theorem Pr {p : List Int} (h : p ≠ []) (d : Int) : p.getLastD d ∈ p := by
 cases p with
 | nil => exact absurd rfl h
 | cons a t => simp only [List.getLastD_cons]; exact List.getLastD_mem_cons
theorem Ko (l : List Int) (x : Int) : (Ex l x).length = (Ei x 0 l).length := by
 unfold Ex
 split
 ·
  next h => rw [h]
 ·
  next h =>
  have : 0 < (Ei x 0 l).length := List.length_pos_iff.2 h
  rw [List.length_append, Lh, List.length_singleton]; omega
end Go.Proofs.YtliepcfgcglcmaaGreat.Pure
end
section
namespace Go.Proofs.YtliepcfgcglcmaaGreat.Pure
open Go.RowKit Go.Proofs.YtliepcfgcglcmaaGreat.P Go.Proofs.YtliepcfgcglcmaaGreatW.PrintWords Go.Proofs.YtliepcfgcglcmaaGreatW.PrintLast Go.Proofs.YtliepcfgcglcmaaGreatW.PrintMore
set_option linter.unusedVariables false
set_option linter.unusedSimpArgs false
def great (l : List Int) : Int := l.foldl mx 0
theorem q3y (a b : Int) : a ≤ mx a b ∧ b ≤ mx a b := by unfold mx; split <;> omega
theorem Qk (l : List Int) : ∀ a, a ≤ l.foldl mx a ∧ ∀ x ∈ l, x ≤ l.foldl mx a := by
 induction l with
 | nil => intro a; simp
 | cons y l ih =>
  intro a
  have h := ih (mx a y)
  have h2 := q3y a y
  simp only [List.foldl_cons]
  refine ⟨by omega, ?_⟩
  intro x hx
  rcases List.mem_cons.1 hx with rfl | hx
  ·
   omega
  ·
   exact h.2 x hx
theorem Qa (l : List Int) (n : Nat) (h : n < l.length) : great (l.take (n + 1)) = mx (great (l.take n)) l[n] := by
 rw [List.take_succ_eq_append_getElem h, great, List.foldl_append]; rfl
theorem Mi {l : List Int} {x : Int} (h : x ∈ l) : x ≤ great l := (Qk l 0).2 x h
theorem Us {l : List Int} {x : Int} (h : Ei x 0 l ≠ []) : 1 ≤ great (Ex l x) := by
 have h1 := Lc x l 0 _ (So h (-1))
 have h2 := Lc x l 0 _ (Pr h (-1))
 have h3 : (l.length : Int) - (Ei x 0 l).getLastD (-1) + (Ei x 0 l).headD (-1) ∈ Ex l x := by
  rw [Ex, if_neg h]; simp
 have := Mi h3
 omega
end Go.Proofs.YtliepcfgcglcmaaGreat.Pure
end
section
namespace Go.Proofs.YtliepcfgcglcmaaGreat.Pure
set_option linter.unusedVariables false
set_option linter.unusedSimpArgs false
def cnt (x : Int) : List Int → Int
 | [] => 0
 | y :: l => (if y = x then 1 else 0) + cnt x l
theorem q0p (x : Int) (a b : List Int) : cnt x (a ++ b) = cnt x a + cnt x b := by
 induction a with
 | nil => simp [cnt]
 | cons y a ih => simp only [List.cons_append, cnt, ih]; omega
theorem Rc (x : Int) (l : List Int) (n : Nat) (h : n < l.length) : cnt x (l.take (n + 1)) = cnt x (l.take n) + (if l[n] = x then 1 else 0) := by
 rw [List.take_succ_eq_append_getElem h, q0p]; simp [cnt]
theorem Pl (x : Int) (l : List Int) : 0 ≤ cnt x l ∧ cnt x l ≤ l.length := by
 induction l with
 | nil => simp [cnt]
 | cons y l ih =>
  simp only [cnt, List.length_cons]
  split <;> omega
def tab (f : Nat → Int) (m : Nat) : List Int := (List.range' 0 m).map f
theorem Ls (f : Nat → Int) (m : Nat) : (tab f m).length = m := by simp [tab]
theorem q2N (f : Nat → Int) (m i : Nat) (h : i < (tab f m).length) : (tab f m)[i] = f i := by simp [tab]
theorem Xz (f : Nat → Int) (m : Nat) : tab f (m + 1) = tab f m ++ [f m] := by simp [tab, List.range'_1_concat]
end Go.Proofs.YtliepcfgcglcmaaGreat.Pure
end
section
namespace Go.Proofs.YtliepcfgcglcmaaGreat.Pure
open Go.RowKit Go.Proofs.YtliepcfgcglcmaaGreat.P Go.Proofs.YtliepcfgcglcmaaGreatW.PrintWords Go.Proofs.YtliepcfgcglcmaaGreatW.PrintLast Go.Proofs.YtliepcfgcglcmaaGreatW.PrintMore
set_option linter.unusedVariables false
set_option linter.unusedSimpArgs false
theorem Nk (n lo hi : Int) : Ej.f n lo hi = some (decide (lo ≤ n ∧ n ≤ hi)) := by
  unfold Ej.f
  by_cases h : n ≥ lo
  · rw [if_pos h]; simp [show lo ≤ n from h]
  · rw [if_neg h]; simp [show ¬ lo ≤ n from h]
theorem Qz {α : Type} (p : α → Bool) (l : List α) (n : Nat) (h : n < l.length) : (l.take (n + 1)).all p = ((l.take n).all p && p l[n]) := by
 rw [List.take_succ_eq_append_getElem h, List.all_append]; simp
theorem Ru {α : Type} (p : α → Bool) (l : List α) (n : Nat) (h : n < l.length) (hp : p l[n] = false) : l.all p = false := by
 rw [Bool.eq_false_iff]
 intro ha
 rw [List.all_eq_true] at ha
 rw [ha _ (List.getElem_mem h)] at hp
 cases hp
def Fm (l : List Int) (k : Int) : Bool := decide (1 ≤ (l.length : Int) ∧ (l.length : Int) ≤ 120) && l.all fun i => decide (-1 ≤ i ∧ i ≤ wrap64 (k - 1))
theorem Rs (l : List Int) (k : Int) : Gs.f l k = some (Fm l k) := rfl
theorem Zl (l : List Int) (m : Int) (hl : l.length ≤ 9223372036854775807) : ∀ d n : Nat, n + d = l.length → (l.take n).all (fun i => decide (-1 ≤ i ∧ i ≤ wrap64 (m - 1))) = true → Ev (fun k => Cr.l0 k l m (n : Int)) (Fm l m) := by
 intro d
 induction d with
 | zero =>
  intro n hn ha
  refine Ev.step (fun k => by rw [Cr.l0]) ?_
  refine Ca (by omega) (Ew (Nk _ _ _) ?_)
  rw [List.take_of_length_le (by omega)] at ha
  refine Ly ?_
  rw [Fm, ha, Bool.and_true]
 | succ d ih =>
  intro n hn ha
  have hlt : n < l.length := by omega
  refine Ev.step (fun k => by rw [Cr.l0]) ?_
  refine Aq (by omega) (Aq (by omega) (Ew (Nk _ _ _) ?_))
  rw [Er hlt]
  cases hq : decide (-1 ≤ l[n] ∧ l[n] ≤ wrap64 (m - 1)) with
  | true =>
   refine Aq rfl ?_
   rw [Dj (by omega)]
   exact ih (n + 1) (by omega) (by rw [Qz _ _ _ hlt, ha, hq]; rfl)
  | false =>
   refine Ca (by simp) (Ly ?_)
   rw [Fm, Ru _ l n hlt hq, Bool.and_false]
theorem Su (l : List Int) (m : Int) (hl : l.length ≤ 9223372036854775807) : Ev (fun k => Cr.f k l m) (Fm l m) := by
 unfold Cr.f
 exact Zl l m hl l.length 0 (by omega) (by simp)
theorem Nu {l : List Int} {k : Int} (h : Fm l k = true) : 1 ≤ l.length ∧ l.length ≤ 120 := by
 rw [Fm, Bool.and_eq_true] at h
 have := of_decide_eq_true h.1
 omega
theorem Tg {l : List Int} {k : Int} (h : Fm l k = true) {x : Int} (hx : x ∈ l) : -1 ≤ x ∧ x ≤ wrap64 (k - 1) := by
 rw [Fm, Bool.and_eq_true, List.all_eq_true] at h
 exact of_decide_eq_true (h.2 x hx)
theorem Pw {l : List Int} (h : Fm l 8 = true) {x : Int} (hx : x ∈ l) : -1 ≤ x ∧ x ≤ 7 := by
 have h1 := Tg h hx
 rw [Ek (by omega) (by omega)] at h1
 omega
theorem Za {l : List Int} {b : Int} (hb : 0 ≤ b) (h : ∀ x ∈ l, x ≤ b) : great l ≤ b := by
 have : ∀ (m : List Int) (a : Int), a ≤ b → (∀ x ∈ m, x ≤ b) → m.foldl mx a ≤ b := by
  intro m
  induction m with
  | nil => intro a ha _; exact ha
  | cons y m ih =>
   intro a ha hm
   refine ih _ ?_ fun x hx => hm x (List.mem_cons_of_mem _ hx)
   have := hm y List.mem_cons_self
   unfold mx; split <;> omega
 exact this l 0 hb h
theorem q1O (l : List Int) (x : Int) (hl : l.length ≤ 1048576) : ∀ d n : Nat, n + d = l.length →
    Ev (fun k => Eg.l0 k x (cnt x (l.take n)) l (l.length : Int) (n : Int)) (cnt x l) := by
  intro d
  induction d with
  | zero =>
    intro n hn
    rw [List.take_of_length_le (by omega)]
    exact Ev.step (fun k => by rw [Eg.l0]) (Ca (by omega) (Ds _))
  | succ d ih =>
    intro n hn
    have hlt : n < l.length := by omega
    have hb := Pl x (l.take n)
    rw [List.length_take] at hb
    have ih := ih (n + 1) (by omega)
    rw [Rc x l n hlt] at ih
    refine Ev.step (fun k => by rw [Eg.l0]) (Aq (by omega) (Aq (by omega) (Aq (by omega) ?_)))
    rw [Er hlt, Dj (by omega)]
    by_cases c : l[n] = x
    · rw [if_pos c] at ih
      refine Aq c ?_
      rw [Ek (by omega) (by omega)]
      exact ih
    · rw [if_neg c, Int.add_zero] at ih
      exact Ca c ih
theorem q1L (l : List Int) (x : Int) (hl : l.length ≤ 1048576) : Ev (fun k => Eg.f k l x) (cnt x l) := by
 unfold Eg.f
 exact q1O l x hl l.length 0 (by omega)
theorem q2g (l : List Int) (hl : l.length ≤ 1048576) (a : Int) : ∀ d n : Nat, n + d = l.length →
    Ev (fun k => Az.l0 k l ((l.take n).foldl mx a) (n : Int)) (l.foldl mx a) := by
  intro d
  induction d with
  | zero =>
    intro n hn
    rw [List.take_of_length_le (by omega)]
    exact Ev.step (fun k => by rw [Az.l0]) (Ca (by omega) (Ds _))
  | succ d ih =>
    intro n hn
    have hlt : n < l.length := by omega
    refine Ev.step (fun k => by rw [Az.l0]) (Aq (by omega) (Aq (by omega) ?_))
    rw [Er hlt, Dj (by omega)]
    have ih := ih (n + 1) (by omega)
    rw [List.take_succ_eq_append_getElem hlt, List.foldl_append] at ih
    exact ih
theorem Ts (a : Int) : mx a a = a := by unfold mx; split <;> rfl
theorem q3o (l : List Int) (hl : l.length ≤ 1048576) (h0 : 1 ≤ l.length) (hp : ∀ x ∈ l, 0 ≤ x) : Ev (fun k => Az.f k l) (great l) := by
 unfold Az.f
 refine Ca (by omega) (Aq (by omega) ?_)
 cases l with
 | nil => simp at h0
 | cons y l =>
  have hy := hp y List.mem_cons_self
  have h1 := q2g (y :: l) hl y l.length 1 (by simp only [List.length_cons]; omega)
  have e0 : great (y :: l) = (y :: l).foldl mx y := by
   have : mx 0 y = y := by unfold mx; split <;> omega
   simp only [great, List.foldl_cons, this, Ts]
  have e1 : ((y :: l).take 1).foldl mx y = y := by simp [Ts]
  rw [e1, ← e0] at h1
  exact h1
def q3p (i j : Int) : Int := 2 ^ ((max i j) * ((max i j) - 1) / 2 + min i j).toNat
def q3z (b i j : Int) : Bool := if i = j then true else Go.bits .and .i64 b (q3p i j) != 0
theorem Sr {l : List Int} {b i : Nat} {x : Int} (hb : b < l.length) : rd (l.set b x) (i : Nat) = if i = b then x else rd l (i : Nat) := by
  simp only [rd, Int.toNat_natCast, List.getD_eq_getElem?_getD, List.getElem?_set]
  by_cases h : b = i
  · subst h; simp [hb]
  · rw [if_neg h, if_neg (fun e => h e.symm)]
def neg : List Int → Nat
 | [] => 0
 | y :: l => (if y < 0 then 1 else 0) + neg l
theorem q0J (v : Int) (hv : 0 ≤ v) : ∀ (l : List Int) (n : Nat) (h : n < l.length), l[n] < 0 → neg (l.set n v) + 1 = neg l := by
 intro l
 induction l with
 | nil => intro n h; simp at h
 | cons y l ih =>
  intro n h hn
  cases n with
  | zero =>
   simp only [List.getElem_cons_zero] at hn
   simp only [List.set_cons_zero, neg]
   rw [if_neg (by omega), if_pos hn]
   omega
  | succ n =>
   simp only [List.getElem_cons_succ] at hn
   simp only [List.set_cons_succ, neg]
   have := ih n (by simpa using h) hn
   omega
def Zb (b h : Int) (j : Nat) (s : List Int × List Int) : List Int × List Int := if rd s.1 (j : Int) < 0 ∧ q3z b h (j : Int) = true then (s.1.set j (rd s.1 h + 1), s.2 ++ [(j : Int)]) else s
def inJ (b h : Int) : Nat → Nat → List Int × List Int → List Int × List Int
 | 0, _, s => s
 | d + 1, j, s => inJ b h d (j + 1) (Zb b h j s)
structure Bfs (a : Nat) (s : List Int × List Int) : Prop where
 len : s.1.length = a
 mem : ∀ x ∈ s.2, 0 ≤ x ∧ x < (a : Int) ∧ 0 ≤ rd s.1 x
 hi : ∀ i : Nat, i < a → rd s.1 (i : Int) ≤ (s.2.length : Int)
 num : s.2.length + neg s.1 ≤ a
theorem Bfs.step {a : Nat} {b h : Int} {j : Nat} {s : List Int × List Int} (B : Bfs a s) (hj : j < a) (hh : 0 ≤ h ∧ h < (a : Int) ∧ 0 ≤ rd s.1 h) : Bfs a (Zb b h j s) := by
 unfold Zb
 split
 ·
  next c =>
  have hl := B.len
  refine ⟨by rw [List.length_set]; exact hl, fun x hx => ?_, fun i hi => ?_, ?_⟩
  ·
   rcases List.mem_append.1 hx with hx | hx
   ·
    obtain ⟨h1, h2, h3⟩ := B.mem x hx
    obtain ⟨n, rfl⟩ : ∃ n : Nat, x = n := ⟨x.toNat, by omega⟩
    refine ⟨h1, h2, ?_⟩
    show 0 ≤ rd (s.1.set j _) (n : Int)
    rw [Sr (by omega)]
    split <;> omega
   ·
    rw [List.mem_singleton.1 hx]
    refine ⟨by omega, by omega, ?_⟩
    show 0 ≤ rd (s.1.set j _) (j : Int)
    rw [Sr (by omega), if_pos rfl]
    omega
  ·
   have h1 := B.hi i hi
   have h2 := B.hi h.toNat (by omega)
   rw [show ((h.toNat : Nat) : Int) = h by omega] at h2
   show rd (s.1.set j _) (i : Int) ≤ ((s.2 ++ [(j : Int)]).length : Int)
   rw [Sr (by omega), List.length_append, List.length_singleton]
   split <;> omega
  ·
   have c1 := c.1
   rw [Er (by omega)] at c1
   have := q0J (rd s.1 h + 1) (by omega) s.1 j (by omega) c1
   have := B.num
   show (s.2 ++ [(j : Int)]).length + neg (s.1.set j (rd s.1 h + 1)) ≤ a
   rw [List.length_append, List.length_singleton]
   omega
 ·
  exact B
theorem q0v {a : Nat} {b h : Int} {j : Nat} {s : List Int × List Int} (B : Bfs a s) (hj : j < a) (hh : 0 ≤ h ∧ h < (a : Int) ∧ 0 ≤ rd s.1 h) : 0 ≤ rd (Zb b h j s).1 h := by
 unfold Zb
 split
 ·
  have hl := B.len
  obtain ⟨n, rfl⟩ : ∃ n : Nat, h = n := ⟨h.toNat, by omega⟩
  show 0 ≤ rd (s.1.set j _) (n : Int)
  rw [Sr (by omega)]
  split <;> omega
 ·
  exact hh.2.2
theorem Bfs.inner {a : Nat} {b h : Int} : ∀ d j : Nat, j + d = a → ∀ s : List Int × List Int, Bfs a s → (0 ≤ h ∧ h < (a : Int) ∧ 0 ≤ rd s.1 h) → Bfs a (inJ b h d j s) := by
 intro d
 induction d with
 | zero => intro j _ s B _; exact B
 | succ d ih => intro j hj s B hh; exact ih (j + 1) (by omega) _ (B.step (by omega) hh) ⟨hh.1, hh.2.1, q0v B (by omega) hh⟩
def Pd (G : List Int) (x : Int) : List Int → List Int → List Int
 | [], B => x :: B
 | y :: ra, B => if rd G x < rd G y then Pd G x ra (y :: B) else (y :: ra).reverse ++ x :: B
def La (G : List Int) : Nat → List Int
 | 0 => []
 | n + 1 => Pd G (n : Int) (La G n).reverse []
theorem Yu (G : List Int) (x : Int) : ∀ ra B, (Pd G x ra B).length = ra.length + B.length + 1 := by
 intro ra
 induction ra with
 | nil => intro B; simp [Pd]
 | cons y ra ih =>
  intro B
  rw [Pd]
  split
  ·
   rw [ih, List.length_cons, List.length_cons]; omega
  ·
   simp only [List.length_append, List.length_reverse, List.length_cons]; omega
theorem Mx (G : List Int) : ∀ n, (La G n).length = n := by
 intro n
 induction n with
 | zero => rfl
 | succ n ih => rw [La, Yu, List.length_reverse, ih]; simp
theorem q1S (G : List Int) (x z : Int) : ∀ ra B, z ∈ Pd G x ra B ↔ z = x ∨ z ∈ ra ∨ z ∈ B := by
  intro ra
  induction ra with
  | nil => intro B; simp [Pd]
  | cons y ra ih =>
    intro B
    rw [Pd]
    split
    · rw [ih]
      simp only [List.mem_cons]
      constructor
      · rintro (h | h | h | h)
        · exact .inl h
        · exact .inr (.inl (.inr h))
        · exact .inr (.inl (.inl h))
        · exact .inr (.inr h)
      · rintro (h | (h | h) | h)
        · exact .inl h
        · exact .inr (.inr (.inl h))
        · exact .inr (.inl h)
        · exact .inr (.inr (.inr h))
    · simp only [List.mem_append, List.mem_reverse, List.mem_cons]
      constructor
      · rintro ((h | h) | h | h)
        · exact .inr (.inl (.inl h))
        · exact .inr (.inl (.inr h))
        · exact .inl h
        · exact .inr (.inr h)
      · rintro (h | (h | h) | h)
        · exact .inr (.inl h)
        · exact .inl (.inl h)
        · exact .inl (.inr h)
        · exact .inr (.inr h)
theorem Mr (G : List Int) : ∀ n (z : Int), z ∈ La G n ↔ 0 ≤ z ∧ z < (n : Int) := by
 intro n
 induction n with
 | zero => intro z; simp [La] <;> omega
 | succ n ih =>
  intro z
  rw [La, q1S, List.mem_reverse, ih]
  simp only [List.not_mem_nil, or_false]
  omega
def Nh (f : Int → Int) : List Int → Int
 | [] => 0
 | y :: l => f y + Nh f l
theorem Nx (f : Int → Int) (a b : List Int) : Nh f (a ++ b) = Nh f a + Nh f b := by
 induction a with
 | nil => simp [Nh]
 | cons y a ih => simp only [List.cons_append, Nh, ih]; omega
theorem Sf (f : Int → Int) (a : List Int) : Nh f a.reverse = Nh f a := by
 induction a with
 | nil => rfl
 | cons y a ih => rw [List.reverse_cons, Nx, ih]; simp only [Nh]; omega
theorem q2c (f : Int → Int) (G : List Int) (x : Int) : ∀ ra B, Nh f (Pd G x ra B) = f x + Nh f ra + Nh f B := by
 intro ra
 induction ra with
 | nil => intro B; simp [Pd, Nh]
 | cons y ra ih =>
  intro B
  rw [Pd]
  split
  ·
   rw [ih]; simp only [Nh]; omega
  ·
   rw [Nx, Sf]; simp only [Nh]; omega
theorem q1U (f : Int → Int) (G : List Int) : ∀ n, Nh f (La G n) = Nh (fun i => f i) ((List.range' 0 n).map fun (i : Nat) => (i : Int)) := by
 intro n
 induction n with
 | zero => rfl
 | succ n ih =>
  rw [La, q2c, Sf, ih, List.range'_1_concat, List.map_append, Nx]
  simp [Nh]
  try omega
theorem Yf (G : List Int) (x : Int) : ∀ ra B, (ra.reverse ++ B).Pairwise (fun a b => rd G a ≤ rd G b) → (∀ z ∈ B, rd G x ≤ rd G z) → (Pd G x ra B).Pairwise (fun a b => rd G a ≤ rd G b) := by
 intro ra
 induction ra with
 | nil =>
  intro B h hB
  rw [Pd, List.pairwise_cons]
  exact ⟨hB, by simpa using h⟩
 | cons y ra ih =>
  intro B h hB
  rw [Pd]
  split
  ·
   next c =>
   refine ih (y :: B) (by simpa using h) fun z hz => ?_
   rcases List.mem_cons.1 hz with rfl | hz
   ·
    omega
   ·
    exact hB z hz
  ·
   next c =>
   rw [List.pairwise_append] at h ⊢
   refine ⟨h.1, ?_, ?_⟩
   ·
    rw [List.pairwise_cons]
    exact ⟨hB, h.2.1⟩
   ·
    intro a ha b hb
    rcases List.mem_cons.1 hb with rfl | hb
    ·
     rw [List.mem_reverse, List.mem_cons] at ha
     rcases ha with rfl | ha
     ·
      omega
     ·
      have h1 := h.1
      rw [List.reverse_cons, List.pairwise_append] at h1
      have := h1.2.2 a (List.mem_reverse.2 ha) y (by simp)
      omega
    ·
     exact h.2.2 a ha b hb
theorem Ys (G : List Int) : ∀ n, (La G n).Pairwise (fun a b => rd G a ≤ rd G b) := by
 intro n
 induction n with
 | zero => exact List.Pairwise.nil
 | succ n ih => rw [La]; exact Yf G _ _ _ (by simpa using ih) (by simp)
theorem q0A (A B : List Int) (x : Int) : rd (A ++ x :: B) (A.length : Int) = x := by
 rw [Er (by simp)]
 simp
theorem Ui (A B : List Int) (x y : Int) : (A ++ x :: B).set A.length y = A ++ y :: B := by
 rw [List.set_append_right _ _ (Nat.le_refl _), Nat.sub_self, List.set_cons_zero]
theorem Rq (n m : Nat) (h : n < m) : (List.range' n (m - n)).map (fun (i : Nat) => (i : Int)) = (n : Int) :: (List.range' (n + 1) (m - (n + 1))).map (fun (i : Nat) => (i : Int)) := by
 obtain ⟨d, hd⟩ : ∃ d, m - n = d + 1 := ⟨m - n - 1, by omega⟩
 rw [hd, List.range'_succ, show m - (n + 1) = d by omega]
 rfl
theorem Yi (G : List Int) (hG : ∀ x ∈ G, 1 ≤ x ∧ x ≤ 40) (m i : Nat) (hm : m ≤ G.length) (hm8 : m ≤ 100) (hi : i < m) (x : Int) (hx : 0 ≤ x ∧ x < (G.length : Int)) (rest : List Int) (R : List Int) : ∀ ra B : List Int, ra.length + B.length = i → rest.length + i + 1 = m → (∀ z ∈ ra, 0 ≤ z ∧ z < (G.length : Int)) →
    Ev (fun k => insF.l0 (Lx G) k (Pd G x ra B ++ rest) 0 (m : Int) ((i + 1 : Nat) : Int)) R →
    Ev (fun k => insF.l1 (Lx G) k (ra.reverse ++ x :: (B ++ rest)) 0 (m : Int) (i : Int) (ra.length : Int)) R := by
  intro ra
  induction ra with
  | nil =>
    intro B hB hr hz hR
    refine Ev.step (fun k => by rw [insF.l1]) ?_
    rw [Dj (n := i) (by omega)]
    exact Ca (by simp) hR
  | cons y ra ih =>
    intro B hB hr hz hR
    rw [List.length_cons] at hB
    have hy := hz y List.mem_cons_self
    have gx := hG (rd G x) (Fs hx.1 hx.2)
    have gy := hG (rd G y) (Fs hy.1 hy.2)
    have ej : wrap64 (((y :: ra).length : Int) - 1) = (ra.length : Int) := by
      rw [List.length_cons, Ek (by omega) (by omega)]; omega
    have e1 : rd ((y :: ra).reverse ++ x :: (B ++ rest)) ((y :: ra).length : Int) = x := by
      have := q0A (y :: ra).reverse (B ++ rest) x
      rwa [List.length_reverse] at this
    have e2 : rd ((y :: ra).reverse ++ x :: (B ++ rest)) (ra.length : Int) = y := by
      have := q0A ra.reverse (x :: (B ++ rest)) y
      rw [List.length_reverse] at this
      rw [List.reverse_cons, List.append_assoc]
      exact this
    have hlen : ((y :: ra).reverse ++ x :: (B ++ rest)).length = m := by
      simp only [List.length_append, List.length_reverse, List.length_cons]; omega
    refine Ev.step (fun k => by rw [insF.l1]) ?_
    rw [ej, e1, e2, hlen]
    refine Aq (by rw [List.length_cons]; omega) (Aq (by omega) (Aq (by rw [List.length_cons]; omega) (Aq (by omega) (Aq (by omega) ?_))))
    rw [Pd] at hR
    by_cases c : rd G x < rd G y
    · rw [if_pos c] at hR
      refine Aq (by unfold Lx; rw [Ek (by omega) (by omega)]; omega) (Aq (by rw [List.length_cons]; omega) ?_)
      have e3 : (((y :: ra).reverse ++ x :: (B ++ rest)).set ((y :: ra).length : Int).toNat y).set (ra.length : Int).toNat x = ra.reverse ++ x :: ((y :: B) ++ rest) := by
        rw [Int.toNat_natCast, Int.toNat_natCast]
        have h1 := Ui (y :: ra).reverse (B ++ rest) x y
        rw [List.length_reverse] at h1
        rw [h1, List.reverse_cons, List.append_assoc]
        have h2 := Ui ra.reverse (y :: (B ++ rest)) y x
        rw [List.length_reverse] at h2
        exact h2
      rw [e3]
      exact ih (y :: B) (by rw [List.length_cons]; omega) hr (fun z hz' => hz z (List.mem_cons_of_mem _ hz')) hR
    · rw [if_neg c] at hR
      refine Ca (by unfold Lx; rw [Ek (by omega) (by omega)]; omega) ?_
      rw [Dj (n := i) (by omega)]
      rw [List.append_assoc] at hR
      exact hR
theorem Ta (G : List Int) (hG : ∀ x ∈ G, 1 ≤ x ∧ x ≤ 40) (m : Nat) (hm : m ≤ G.length) (hm8 : m ≤ 100) : ∀ d i : Nat, i + d = m →
    Ev (fun k => insF.l0 (Lx G) k (La G i ++ (List.range' i (m - i)).map fun (j : Nat) => (j : Int)) 0 (m : Int) (i : Int)) (La G m) := by
  intro d
  induction d with
  | zero =>
    intro i hi
    obtain rfl : i = m := by omega
    refine Ev.step (fun k => by rw [insF.l0]) ?_
    rw [Nat.sub_self]
    exact Ca (by omega) (Ly (by simp))
  | succ d ih =>
    intro i hi
    have hl := Mx G i
    have ih := ih (i + 1) (by omega)
    rw [La] at ih
    have h := Yi G hG m i hm hm8 (by omega) (i : Int) (by omega) _ _ (La G i).reverse [] (by rw [List.length_reverse, hl]; rfl) (by rw [List.length_map, List.length_range']; omega) (fun z hz => by
      have := (Mr G i z).1 (List.mem_reverse.1 hz); omega) ih
    rw [List.reverse_reverse, List.length_reverse, hl, List.nil_append] at h
    refine Ev.step (fun k => by rw [insF.l0]) ?_
    rw [Rq i m (by omega)]
    exact Aq (by omega) h
theorem Yc (G : List Int) (hG : ∀ x ∈ G, 1 ≤ x ∧ x ≤ 40) (h8 : 1 ≤ G.length ∧ G.length ≤ 8) : Ev (fun k => Cc.f k G) (La G G.length) := by
 have main : ∀ d n : Nat, n + d = G.length → Ev (fun k => Cc.l0 k G (G.length : Int) ((List.range' 0 n).map fun (j : Nat) => (j : Int)) (n : Int)) (La G G.length) := by
  intro d
  induction d with
  | zero =>
   intro n hn
   obtain rfl : n = G.length := by omega
   refine Ev.step (fun k => by rw [Cc.l0]) ?_
   refine Ca (by omega) (Aq ⟨by simp; omega, fun x hx => ?_⟩ ?_)
   ·
    obtain ⟨j, hj, rfl⟩ := List.mem_map.1 hx
    have := List.mem_range'_1.1 hj
    omega
   ·
    have h := Ta G hG G.length (Nat.le_refl _) (by omega) (G.length - 1) 1 (by omega)
    have e : La G 1 ++ (List.range' 1 (G.length - 1)).map (fun (j : Nat) => (j : Int)) = (List.range' 0 G.length).map (fun (j : Nat) => (j : Int)) := by
     have := Rq 0 G.length (by omega)
     rw [Nat.sub_zero] at this
     rw [this]
     rfl
    rw [e] at h
    rw [Ek (by omega) (by omega), show (((List.range' 0 G.length).map fun (j : Nat) => (j : Int)).length : Int) = (G.length : Int) by simp]
    exact h
  | succ d ih =>
   intro n hn
   refine Ev.step (fun k => by rw [Cc.l0]) ?_
   rw [Dj (by omega)]
   have ih := ih (n + 1) (by omega)
   rw [List.range'_1_concat, List.map_append] at ih
   simp only [List.map_cons, List.map_nil, Nat.zero_add] at ih
   exact Aq (by omega) (Aq (by simp; omega) ih)
 unfold Cc.f
 refine Ew (show Eb.f G = some (G.length : Int) from rfl) ?_
 exact main G.length 0 (by omega)
def Qc (G o : List Int) : List Int := o.map fun t => rd G t
theorem Zr (G : List Int) (hG : ∀ x ∈ G, 1 ≤ x ∧ x ≤ 40) (i : Nat) (hi : i < G.length) (hi8 : i ≤ 100) (R : List Int × List Int) : ∀ (ra B : List Int) (z : Int), ra.length + B.length = i → (∀ y ∈ ra, 0 ≤ y ∧ y < (G.length : Int)) →
    Ev (fun k => Al.l0 k (Pd G (i : Int) ra B) ((i + 1 : Nat) : Int) G) R →
    Ev (fun k => Al.l1 k (ra.reverse ++ z :: B) (i : Int) (ra.length : Int) G) R := by
  intro ra
  induction ra with
  | nil =>
    intro B z hB hz hR
    refine Ev.step (fun k => by rw [Al.l1]) ?_
    rw [Dj (n := i) (by omega)]
    refine Ca (by simp) (Aq (by simp) (Aq (by simp) ?_))
    exact hR
  | cons y ra ih =>
    intro B z hB hz hR
    rw [List.length_cons] at hB
    have hy := hz y List.mem_cons_self
    have ej : wrap64 (((y :: ra).length : Int) - 1) = (ra.length : Int) := by
      rw [List.length_cons, Ek (by omega) (by omega)]; omega
    have e2 : rd ((y :: ra).reverse ++ z :: B) (ra.length : Int) = y := by
      have := q0A ra.reverse (z :: B) y
      rw [List.length_reverse] at this
      rw [List.reverse_cons, List.append_assoc]
      exact this
    have hlen : ((y :: ra).reverse ++ z :: B).length = i + 1 := by
      simp only [List.length_append, List.length_reverse, List.length_cons]; omega
    have hset : ∀ v : Int, ((y :: ra).reverse ++ z :: B).set ((y :: ra).length : Int).toNat v = (y :: ra).reverse ++ v :: B := fun v => by
      have h1 := Ui (y :: ra).reverse B z v
      rw [List.length_reverse] at h1
      rw [Int.toNat_natCast]
      exact h1
    refine Ev.step (fun k => by rw [Al.l1]) ?_
    rw [ej, e2, hlen, hset, hset]
    refine Aq (by rw [List.length_cons]; omega) (Aq (by omega) (Aq (by omega) (Aq (by omega) (Aq (by omega) (Aq (by omega) (Aq (by omega) ?_))))))
    rw [Pd] at hR
    by_cases c : rd G (i : Int) < rd G y
    · rw [if_pos c] at hR
      refine Aq (by omega) (Aq (by rw [List.length_cons]; omega) (Aq (by rw [List.length_cons]; omega) ?_))
      have h := ih (y :: B) y (by rw [List.length_cons]; omega) (fun v hv => hz v (List.mem_cons_of_mem _ hv)) hR
      rw [List.reverse_cons, List.append_assoc]
      exact h
    · rw [if_neg c] at hR
      refine Ca (by omega) (Aq (by rw [List.length_cons]; omega) (Aq (by rw [List.length_cons]; omega) ?_))
      rw [Dj (n := i) (by omega)]
      exact hR
theorem Xl (G o : List Int) (ho : ∀ t ∈ o, 0 ≤ t ∧ t < (G.length : Int)) (h8 : o.length ≤ 100) : ∀ d n : Nat, n + d = o.length → Ev (fun k => Al.l2 k o (n : Int) G (Qc G (o.take n))) (Qc G o, o) := by
 intro d
 induction d with
 | zero =>
  intro n hn
  rw [List.take_of_length_le (by omega)]
  refine Ev.step (fun k => by rw [Al.l2]) ?_
  exact Ca (by omega) (Ds _)
 | succ d ih =>
  intro n hn
  have hlt : n < o.length := by omega
  have hm := ho _ (List.getElem_mem hlt)
  refine Ev.step (fun k => by rw [Al.l2]) ?_
  rw [Er hlt, Dj (by omega)]
  have ih := ih (n + 1) (by omega)
  rw [List.take_succ_eq_append_getElem hlt, Qc, List.map_append] at ih
  exact Aq (by omega) (Aq (by omega) (Aq (by omega) (Aq (by omega) (Aq (by rw [Qc, List.length_map, List.length_take]; omega) ih))))
theorem Rx (G : List Int) (hG : ∀ x ∈ G, 1 ≤ x ∧ x ≤ 40) (h8 : G.length ≤ 8) : Ev (fun k => Al.f k G) (Qc G (La G G.length), La G G.length) := by
 have main : ∀ d i : Nat, i + d = G.length → Ev (fun k => Al.l0 k (La G i) (i : Int) G) (Qc G (La G G.length), La G G.length) := by
  intro d
  induction d with
  | zero =>
   intro i hi
   obtain rfl : i = G.length := by omega
   have hl := Mx G G.length
   refine Ev.step (fun k => by rw [Al.l0]) (Ew (show Dt.f G = some (G.length : Int) from rfl) ?_)
   exact Ca (by omega) (Xl G _ (fun t ht => (Mr G _ t).1 ht) (by omega) G.length 0 (by omega))
  | succ d ih =>
   intro i hi
   have hl := Mx G i
   have ih := ih (i + 1) (by omega)
   rw [La] at ih
   have h := Zr G hG i (by omega) (by omega) _ (La G i).reverse [] (i : Int) (by rw [List.length_reverse, hl]; rfl) (fun y hy => by
    have := (Mr G i y).1 (List.mem_reverse.1 hy); omega) ih
   rw [List.reverse_reverse, List.length_reverse] at h
   refine Ev.step (fun k => by rw [Al.l0]) (Ew (show Dt.f G = some (G.length : Int) from rfl) ?_)
   exact Aq (by omega) (Aq (by omega) h)
 unfold Al.f
 exact main G.length 0 (by omega)
def Mq (g t : Nat) : Nat → Nat → List Int → List Int
 | 0, _, out => out
 | m + 1, p, out => Mq g t m (p + g) (out.set p (t : Int))
theorem Px (g t : Nat) : ∀ m p out, (Mq g t m p out).length = out.length := by
 intro m
 induction m with
 | zero => intro p out; rfl
 | succ m ih => intro p out; rw [Mq, ih, List.length_set]
theorem Uw (g t : Nat) (hg : 0 < g) : ∀ (m p : Nat) (out : List Int), p + m * g < out.length + g → ∀ s : Nat, s < out.length → rd (Mq g t m p out) (s : Int) = if (p ≤ s ∧ s < p + m * g ∧ (s - p) % g = 0) then (t : Int) else rd out (s : Int) := by
 intro m
 induction m with
 | zero =>
  intro p out _ s _
  rw [Mq, if_neg (by omega)]
 | succ m ih =>
  intro p out hp s hs
  have e : (m + 1) * g = m * g + g := Nat.succ_mul m g
  rw [Mq, ih (p + g) (out.set p (t : Int)) (by rw [List.length_set]; omega) s (by rw [List.length_set]; exact hs), Sr (by omega)]
  by_cases c : s = p
  ·
   subst c
   rw [if_neg (by omega), if_pos rfl, if_pos ⟨by omega, by omega, by simp⟩]
  ·
   rw [if_neg c]
   by_cases d : p + g ≤ s ∧ s < p + g + m * g ∧ (s - (p + g)) % g = 0
   ·
    rw [if_pos d]
    have e2 : (s - p) % g = 0 := by
     rw [show s - p = s - (p + g) + g by omega, Nat.add_mod_right]
     exact d.2.2
    rw [if_pos ⟨by omega, by omega, e2⟩]
   ·
    rw [if_neg d]
    by_cases f : p ≤ s ∧ s < p + (m + 1) * g ∧ (s - p) % g = 0
    ·
     exfalso
     obtain ⟨f1, f2, f3⟩ := f
     have f4 : g ≤ s - p := by
      rcases Nat.lt_or_ge (s - p) g with h | h
      ·
       rw [Nat.mod_eq_of_lt h] at f3; omega
      ·
       exact h
     refine d ⟨by omega, by omega, ?_⟩
     rw [show s - p = s - (p + g) + g by omega, Nat.add_mod_right] at f3
     exact f3
    ·
     rw [if_neg f]
def Per (out : List Int) (h : Nat) : Prop := ∀ s : Nat, s + h < out.length → (rd out (s : Int) < 0 ↔ rd out ((s + h : Nat) : Int) < 0)
theorem Per.mul {out : List Int} {h : Nat} (P : Per out h) : ∀ c s : Nat, s + c * h < out.length → (rd out (s : Int) < 0 ↔ rd out ((s + c * h : Nat) : Int) < 0) := by
 intro c
 induction c with
 | zero => intro s _; rw [Nat.zero_mul, Nat.add_zero]
 | succ c ih =>
  intro s hs
  have e : (c + 1) * h = c * h + h := Nat.succ_mul c h
  rw [ih s (by omega), P (s + c * h) (by omega), show s + c * h + h = s + (c + 1) * h by omega]
theorem Per.dvd {out : List Int} {h h' : Nat} (P : Per out h) (d : h ∣ h') : Per out h' := by
 obtain ⟨c, rfl⟩ := d
 intro s hs
 rw [Nat.mul_comm] at hs ⊢
 exact P.mul c s hs
def Dc (out : List Int) : Nat := out.findIdx (fun x => decide (x < 0))
theorem Me {out : List Int} (h : Dc out < out.length) : rd out (Dc out : Int) < 0 := by
 rw [Er h]
 have := List.findIdx_getElem (p := fun x => decide (x < 0)) (xs := out) (w := h)
 exact of_decide_eq_true this
theorem Sj {out : List Int} {s : Nat} (h : s < Dc out) (hs : s < out.length) : ¬ rd out (s : Int) < 0 := by
 rw [Er hs]
 have := List.not_of_lt_findIdx (p := fun x => decide (x < 0)) h
 intro hn
 simp [hn] at this
theorem Zh : ∀ (l : List Int), neg l = 0 ↔ ∀ x ∈ l, ¬ x < 0 := by
 intro l
 induction l with
 | nil => simp [neg]
 | cons y l ih =>
  simp only [neg, List.forall_mem_cons]
  rw [← ih]
  split <;> omega
theorem Xh (out : List Int) : Dc out < out.length ↔ 0 < neg out := by
 unfold Dc
 rw [List.findIdx_lt_length]
 constructor
 ·
  rintro ⟨x, hx, hp⟩
  rcases Nat.eq_zero_or_pos (neg out) with h | h
  ·
   exact absurd (of_decide_eq_true hp) ((Zh out).1 h x hx)
  ·
   exact h
 ·
  intro h
  by_cases c : ∃ x, x ∈ out ∧ x < 0
  ·
   obtain ⟨x, hx, hn⟩ := c
   exact ⟨x, hx, decide_eq_true hn⟩
  ·
   have := (Zh out).2 (fun x hx hn => c ⟨x, hx, hn⟩)
   omega
theorem Na {out : List Int} {h : Nat} (P : Per out h) (hh : 0 < h) (hf : Dc out < out.length) : Dc out < h := by
 rcases Nat.lt_or_ge (Dc out) h with c | c
 ·
  exact c
 ·
  exfalso
  have h1 := Me hf
  have h2 := P (Dc out - h) (by omega)
  rw [show Dc out - h + h = Dc out by omega] at h2
  exact Sj (s := Dc out - h) (by omega) (by omega) (h2.2 h1)
theorem q1j (g t : Nat) (hg : 0 < g) : ∀ (m p : Nat) (out : List Int), p + m * g < out.length + g → (∀ j, j < m → rd out ((p + j * g : Nat) : Int) < 0) → neg (Mq g t m p out) + m = neg out := by
 intro m
 induction m with
 | zero => intro p out _ _; rfl
 | succ m ih =>
  intro p out hp hf
  have e : (m + 1) * g = m * g + g := Nat.succ_mul m g
  have h0 := hf 0 (by omega)
  rw [Nat.zero_mul, Nat.add_zero, Er (by omega)] at h0
  have h1 := q0J (t : Int) (by omega) out p (by omega) h0
  have h2 := ih (p + g) (out.set p (t : Int)) (by rw [List.length_set]; omega) (fun j hj => by
   have h3 := hf (j + 1) (by omega)
   have e2 : (j + 1) * g = j * g + g := Nat.succ_mul j g
   rw [Sr (by omega), if_neg (by omega), show p + g + j * g = p + (j + 1) * g by omega]
   exact h3)
  rw [Mq]
  omega
structure Ud (out : List Int) (N h : Nat) : Prop where
 len : out.length = N
 per : Per out h
theorem Uz {out : List Int} {N h q : Nat} (P : Ud out N h) (hh : 0 < h) (hN : N = q * h) (t : Nat) (hf : Dc out < N) :
    Ud (Mq h t q (Dc out) out) N h ∧ neg (Mq h t q (Dc out) out) + q = neg out := by
  have hl := P.len
  have hs := Na P.per hh (by omega)
  have hfree := Me (out := out) (by omega)
  have hp : Dc out + q * h < out.length + h := by omega
  refine ⟨⟨by rw [Px]; exact hl, fun s hs2 => ?_⟩, q1j h t hh q _ out hp fun j hj => ?_⟩
  · rw [Px] at hs2
    rw [Uw h t hh q _ out hp s (by omega), Uw h t hh q _ out hp (s + h) (by omega)]
    have e : ∀ u : Nat, u < N → ((Dc out ≤ u ∧ u < Dc out + q * h ∧ (u - Dc out) % h = 0) ↔ u % h = Dc out) := fun u hu => by
      constructor
      · rintro ⟨h1, _, h3⟩
        have h4 : u = Dc out + (u - Dc out) := by omega
        obtain ⟨c, hc⟩ := Nat.dvd_of_mod_eq_zero h3
        rw [h4, hc, Nat.add_mul_mod_self_left, Nat.mod_eq_of_lt hs]
      · intro h1
        have h2 := Nat.mod_add_div u h
        rw [h1] at h2
        refine ⟨by omega, by omega, ?_⟩
        rw [show u - Dc out = h * (u / h) by omega, Nat.mul_mod_right]
    by_cases c : s % h = Dc out
    · rw [if_pos ((e s (by omega)).2 c), if_pos ((e (s + h) (by omega)).2 (by rw [Nat.add_mod_right]; exact c))]
    · rw [if_neg (fun h5 => c ((e s (by omega)).1 h5)), if_neg (fun h5 => c (by have := (e (s + h) (by omega)).1 h5; rwa [Nat.add_mod_right] at this))]
      exact P.per s (by omega)
  · have hjq : (j + 1) * h ≤ q * h := Nat.mul_le_mul_right h hj
    have e2 : (j + 1) * h = j * h + h := Nat.succ_mul j h
    exact (P.per.mul j (Dc out) (by omega)).1 hfree
def gre (G : List Int) (N : Nat) : List Int → List Int → Option (List Int)
 | [], out => some out
 | t :: ts, out => if Dc out < N then gre G N ts (Mq (rd G t).toNat t.toNat (N / (rd G t).toNat) (Dc out) out) else none
def need (G : List Int) (N : Nat) (t : Int) : Int := ((N / (rd G t).toNat : Nat) : Int)
theorem q1Y (G : List Int) (N : Nat) (hN : 0 < N) : ∀ (ts out : List Int), (∀ t ∈ ts, 0 ≤ t ∧ 0 < (rd G t).toNat ∧ (rd G t).toNat ∣ N) → ts.Pairwise (fun a b => (rd G a).toNat ∣ (rd G b).toNat) → (∀ h, ts.head? = some h → Ud out N (rd G h).toNat) → out.length = N →
    (gre G N ts out = none ↔ Nh (need G N) ts > (neg out : Int)) := by
  intro ts
  induction ts with
  | nil => intro out _ _ _ _; simp [gre, Nh]
  | cons t ts ih =>
    intro out ht hp hh hl
    obtain ⟨h0, h1, h2⟩ := ht t List.mem_cons_self
    have P := hh t rfl
    have hq : N = N / (rd G t).toNat * (rd G t).toNat := (Nat.div_mul_cancel h2).symm
    have hnn : ∀ l : List Int, 0 ≤ Nh (need G N) l := fun l => by
      induction l with
      | nil => exact Int.le_refl _
      | cons y l ih => exact Int.add_nonneg (Int.natCast_nonneg _) ih
    rw [gre, Nh]
    by_cases c : Dc out < N
    · rw [if_pos c]
      obtain ⟨P2, hn⟩ := Uz P h1 hq t.toNat c
      rw [List.pairwise_cons] at hp
      rw [ih _ (fun z hz => ht z (List.mem_cons_of_mem _ hz)) hp.2 (fun h hh2 => ⟨P2.len, P2.per.dvd (hp.1 h (List.mem_of_mem_head? hh2))⟩) P2.len]
      show _ ↔ ((N / (rd G t).toNat : Nat) : Int) + _ > _
      omega
    · rw [if_neg c]
      have : neg out = 0 := by
        rcases Nat.eq_zero_or_pos (neg out) with h | h
        · exact h
        · exact absurd ((Xh out).2 h) (by omega)
      have h3 := hnn ts
      have h4 : 0 < N / (rd G t).toNat := Nat.div_pos (Nat.le_of_dvd hN h2) h1
      constructor
      · intro _
        show ((N / (rd G t).toNat : Nat) : Int) + _ > _
        omega
      · intro _; rfl
theorem q1T (l : List Int) (x : Int) (hl : l.length ≤ 9223372036854775807) : ∀ d n : Nat, n + d = l.length → (∀ y ∈ l.take n, y ≠ x) → Ev (fun k => Ax.l0 k l x (l.length : Int) (n : Int)) (if x ∈ l then (l.idxOf x : Int) else -1) := by
 intro d
 induction d with
 | zero =>
  intro n hn hno
  refine Ev.step (fun k => by rw [Ax.l0]) (Ca (by omega) (Ly ?_))
  rw [List.take_of_length_le (by omega)] at hno
  rw [if_neg (fun h => hno x h rfl)]
 | succ d ih =>
  intro n hn hno
  have hlt : n < l.length := by omega
  refine Ev.step (fun k => by rw [Ax.l0]) (Aq (by omega) (Aq (by omega) (Aq (by omega) ?_)))
  rw [Er hlt]
  by_cases h : x = l[n]
  ·
   refine Aq h (Ly ?_)
   rw [if_pos (h ▸ List.getElem_mem hlt)]
   congr 2
   symm
   rw [List.idxOf, List.findIdx_eq hlt]
   refine ⟨by simp [h], fun j hj => ?_⟩
   have := hno l[j] (List.mem_take_iff_getElem.2 ⟨j, by omega, rfl⟩)
   simpa using this
  ·
   refine Ca h ?_
   rw [Dj (by omega)]
   refine ih (n + 1) (by omega) ?_
   rw [List.take_succ_eq_append_getElem hlt]
   intro y hy
   rcases List.mem_append.1 hy with hy | hy
   ·
    exact hno y hy
   ·
    rw [List.mem_singleton.1 hy]; exact fun e => h e.symm
theorem Zg (l : List Int) (x : Int) (hl : l.length ≤ 9223372036854775807) : Ev (fun k => Ax.f k l x) (if x ∈ l then (l.idxOf x : Int) else -1) := by
 unfold Ax.f
 exact q1T l x hl l.length 0 (by omega) (by simp)
theorem Yr (l : List Int) (x : Int) (hl : l.length ≤ 9223372036854775807) : Ev (fun k => Cf.f k l x) (l.contains x) := by
 unfold Cf.f
 refine Ea (Zg l x hl) (Ly ?_)
 by_cases h : x ∈ l
 ·
  rw [if_pos h, List.contains_eq_mem, decide_eq_true h]; simp
 ·
  rw [if_neg h, List.contains_eq_mem, decide_eq_false h]; simp
def Sg (out : List Int) : Prop := ∀ x ∈ out, -1 ≤ x
theorem q0r (g t : Nat) : ∀ m p out, Sg out → Sg (Mq g t m p out) := by
 intro m
 induction m with
 | zero => intro p out h; exact h
 | succ m ih =>
  intro p out h
  rw [Mq]
  refine ih _ _ fun x hx => ?_
  rcases List.mem_or_eq_of_mem_set hx with hx | rfl
  ·
   exact h x hx
  ·
   omega
theorem q1F (G o : List Int) (hG : ∀ x ∈ G, 1 ≤ x ∧ x ≤ 40) (t : Nat) (ht : t < G.length) (N : Nat) (hN : N ≤ 1000) (i : Nat) (hi : i ≤ 1000) (R : List Int) : ∀ (m p : Nat) (out : List Int), out.length = N → (∀ j, j < m → p + j * (rd G (t : Int)).toNat < N) → N ≤ p + m * (rd G (t : Int)).toNat → p + m * (rd G (t : Int)).toNat ≤ 100000 →
    Ev (fun k => Aw.l0 k (Mq (rd G (t : Int)).toNat t m p out) o (o.length : Int) ((i + 1 : Nat) : Int) G) R →
    Ev (fun k => Aw.l1 k out (t : Int) (p : Int) o (o.length : Int) (i : Int) G) R := by
  have hg := hG _ (Fs (l := G) (i := (t : Int)) (by omega) (by omega))
  intro m
  induction m with
  | zero =>
    intro p out hl hj hle hb hR
    refine Ev.step (fun k => by rw [Aw.l1]) ?_
    rw [Dj (by omega)]
    exact Ca (by omega) hR
  | succ m ih =>
    intro p out hl hj hle hb hR
    have h0 := hj 0 (by omega)
    have e : (m + 1) * (rd G (t : Int)).toNat = m * (rd G (t : Int)).toNat + (rd G (t : Int)).toNat := Nat.succ_mul _ _
    refine Ev.step (fun k => by rw [Aw.l1]) ?_
    rw [Int.toNat_natCast, Ek (x := (p : Int) + rd G (t : Int)) (by omega) (by omega), show (p : Int) + rd G (t : Int) = ((p + (rd G (t : Int)).toNat : Nat) : Int) by omega]
    refine Aq (by omega) (Aq (by omega) (Aq (by omega) (Aq (by omega) ?_)))
    exact ih (p + (rd G (t : Int)).toNat) _ (by rw [List.length_set]; exact hl) (fun j hj2 => by
      have h1 := hj (j + 1) (by omega)
      have e2 : (j + 1) * (rd G (t : Int)).toNat = j * (rd G (t : Int)).toNat + (rd G (t : Int)).toNat := Nat.succ_mul _ _
      omega) (by omega) (by omega) hR
theorem q0h {out : List Int} (h : Sg out) (hf : Dc out < out.length) : (if (-1 : Int) ∈ out then (out.idxOf (-1) : Int) else -1) = (Dc out : Int) := by
 have h1 := Me hf
 have h2 := h _ (Fs (l := out) (i := (Dc out : Int)) (by omega) (by omega))
 have h3 : rd out (Dc out : Int) = -1 := by omega
 rw [if_pos (by rw [← h3]; exact Fs (by omega) (by omega))]
 congr 1
 unfold Dc List.idxOf
 have : ∀ l : List Int, Sg l → l.findIdx (· == (-1 : Int)) = l.findIdx (fun x => decide (x < 0)) := by
  intro l
  induction l with
  | nil => intro _; rfl
  | cons y l ih =>
   intro hl
   have hy := hl y List.mem_cons_self
   have e : (y == (-1 : Int)) = decide (y < 0) := by
    by_cases c : y < 0
    ·
     rw [decide_eq_true c, beq_iff_eq]; omega
    ·
     rw [decide_eq_false c]; exact beq_eq_false_iff_ne.2 (by omega)
   rw [List.findIdx_cons, List.findIdx_cons, e, ih (fun x hx => hl x (List.mem_cons_of_mem _ hx))]
 exact this out h
structure q3q (G : List Int) (N : Nat) (ts : List Int) : Prop where
 mem : ∀ t ∈ ts, 0 ≤ t ∧ t < (G.length : Int)
 dvd : ∀ t ∈ ts, (rd G t).toNat ∣ N
 pw : ts.Pairwise (fun a b => (rd G a).toNat ∣ (rd G b).toNat)
theorem Zi {N g q f : Nat} (hg : 0 < g) (hq : N = q * g) (hf : f < g) : (∀ j, j < q → f + j * g < N) ∧ N ≤ f + q * g := by
 refine ⟨fun j hj => ?_, by omega⟩
 have h1 : (j + 1) * g ≤ q * g := Nat.mul_le_mul_right g hj
 have h2 : (j + 1) * g = j * g + g := Nat.succ_mul j g
 omega
theorem Wv (G o : List Int) (hG : ∀ x ∈ G, 1 ≤ x ∧ x ≤ 40) (N : Nat) (hN : N ≤ 40) (ho : o.length ≤ 8) : ∀ (ts : List Int) (i : Nat) (out : List Int), o.drop i = ts → i ≤ o.length → q3q G N ts → (∀ h, ts.head? = some h → Ud out N (rd G h).toNat) → out.length = N → Sg out → ∀ r, gre G N ts out = some r →
    Ev (fun k => Aw.l0 k out o (o.length : Int) (i : Int) G) r := by
  intro ts
  induction ts with
  | nil =>
    intro i out hd hi _ _ _ _ r hr
    have hlen : o.length - i = 0 := by rw [← List.length_drop, hd]; rfl
    rw [gre] at hr
    obtain rfl := Option.some.inj hr
    refine Ev.step (fun k => by rw [Aw.l0]) ?_
    exact Ca (by omega) (Ds _)
  | cons t ts ih =>
    intro i out hd hi hh hp hl hid r hr
    have hlen : o.length - i = ts.length + 1 := by rw [← List.length_drop, hd]; rfl
    have ht := hh.mem t List.mem_cons_self
    have hgt := hG _ (Fs ht.1 ht.2)
    have hdv := hh.dvd t List.mem_cons_self
    have P := hp t rfl
    have hro : rd o (i : Int) = t := by
      rw [Er (by omega)]
      have h1 : (o.drop i)[0]? = some t := by rw [hd]; rfl
      rw [List.getElem?_drop, Nat.add_zero] at h1
      exact (List.getElem?_eq_some_iff.1 h1).2
    have hq : N = N / (rd G t).toNat * (rd G t).toNat := (Nat.div_mul_cancel hdv).symm
    rw [gre] at hr
    by_cases c : Dc out < N
    · rw [if_pos c] at hr
      obtain ⟨P2, _⟩ := Uz P (by omega) hq t.toNat c
      have hs := Na P.per (by omega) (by omega)
      have hb := Zi (g := (rd G t).toNat) (by omega) hq hs
      have pw := hh.pw
      rw [List.pairwise_cons] at pw
      have hI := Zg out (-1) (by omega)
      rw [q0h hid (by omega)] at hI
      have hn := ih (i + 1) _ (by rw [← List.drop_drop, hd]; rfl) (by omega) ⟨fun z hz => hh.mem z (List.mem_cons_of_mem _ hz), fun z hz => hh.dvd z (List.mem_cons_of_mem _ hz), pw.2⟩ (fun h hh2 => ⟨P2.len, P2.per.dvd (pw.1 h (List.mem_of_mem_head? hh2))⟩) P2.len (q0r _ _ _ _ _ hid) r hr
      obtain ⟨tn, rfl⟩ : ∃ tn : Nat, t = tn := ⟨t.toNat, by omega⟩
      rw [Int.toNat_natCast] at hn
      refine Ev.step (fun k => by rw [Aw.l0]) ?_
      rw [hro]
      refine Aq (by omega) (Aq (by omega) (Aq (by omega) (Ea hI ?_)))
      exact q1F G o hG tn (by omega) N (by omega) i (by omega) r _ _ out hl hb.1 hb.2 (by omega) hn
    · rw [if_neg c] at hr
      exact absurd hr (by simp)
theorem Mu (m n : Nat) : Int.tdiv (m : Int) (n : Int) = ((m / n : Nat) : Int) := rfl
theorem Wd (m n : Nat) : Int.tmod (m : Int) (n : Int) = ((m % n : Nat) : Int) := rfl
theorem Yh (a b : Nat) (h : b ≠ 0) : Nat.gcd a b = Nat.gcd b (a % b) := by
 rw [Nat.gcd_comm a b, Nat.gcd_rec b a, Nat.gcd_comm]
theorem q0f : ∀ (b a : Nat), Ev (fun k => Cu.l0 k (a : Int) (b : Int)) ((Nat.gcd a b : Nat) : Int) := by
 intro b
 induction b using Nat.strongRecOn with
 | _ b ih =>
  intro a
  refine Ev.step (fun k => by rw [Cu.l0]) ?_
  by_cases h : b = 0
  ·
   subst h
   refine Aq rfl ?_
   rw [Nat.gcd_zero_right]
   exact Ds _
  ·
   refine Ca (by omega) ?_
   rw [Wd, Yh a b h]
   exact ih (a % b) (Nat.mod_lt _ (by omega)) b
theorem Rp (a b : Nat) : Ev (fun k => Cu.f k (a : Int) (b : Int)) ((Nat.gcd a b : Nat) : Int) := by
 unfold Cu.f
 exact q0f b a
theorem q1z : ∀ (b a : Nat), Ev (fun k => Df.l0 k (a : Int) (b : Int)) ((Nat.gcd a b : Nat) : Int) := by
 intro b
 induction b using Nat.strongRecOn with
 | _ b ih =>
  intro a
  refine Ev.step (fun k => by rw [Df.l0]) ?_
  by_cases h : b = 0
  ·
   subst h
   refine Aq rfl ?_
   rw [Nat.gcd_zero_right]
   exact Ds _
  ·
   refine Ca (by omega) ?_
   rw [Wd, Yh a b h]
   exact ih (a % b) (Nat.mod_lt _ (by omega)) b
theorem Wc (a b : Nat) : Ev (fun k => Df.f k (a : Int) (b : Int)) ((Nat.gcd a b : Nat) : Int) := by
 unfold Df.f
 exact q1z b a
theorem Xs (a b : Nat) : a / Nat.gcd a b * b = Nat.lcm a b := by
 rw [Nat.lcm, Nat.mul_comm a b, Nat.mul_div_assoc _ (Nat.gcd_dvd_left a b), Nat.mul_comm]
theorem q0G (a b : Nat) : Nat.lcm a b ≤ a * b := by
 rw [← Xs]; exact Nat.mul_le_mul_right _ (Nat.div_le_self _ _)
theorem q1x (a b : Nat) (ha : 0 < a) (h : a * b ≤ 9223372036854775807) : Ev (fun k => Fu.f k (a : Int) (b : Int)) ((Nat.lcm a b : Nat) : Int) := by
 unfold Fu.f
 have hg : 0 < Nat.gcd a b := Nat.gcd_pos_of_pos_left _ ha
 refine Ea (Wc a b) (Ca (by omega) (Ly ?_))
 have h0 : b = 0 ∨ a ≤ a * b := by
  rcases Nat.eq_zero_or_pos b with h0 | h0
  ·
   exact .inl h0
  ·
   exact .inr (Nat.le_mul_of_pos_right _ h0)
 have h1 := Nat.div_le_self a (Nat.gcd a b)
 have h2 := q0G a b
 rw [Mu]
 rcases h0 with h0 | h0
 ·
  subst h0
  rw [Int.natCast_zero, Int.mul_zero, Nat.lcm_zero_right]
  decide +kernel
 ·
  rw [Kg (Nat.le_trans h1 (Nat.le_trans h0 h)), ← Int.natCast_mul, Xs, Kg (Nat.le_trans h2 h)]
def Mt : Nat → List Int → Nat
 | a, [] => a
 | a, g :: l => Mt (Nat.lcm a g.toNat) l
theorem Yz (a : Nat) (l m : List Int) : Mt a (l ++ m) = Mt (Mt a l) m := by
 induction l generalizing a with
 | nil => rfl
 | cons g l ih => simp only [List.cons_append, Mt, ih]
theorem Qe (a : Nat) (l : List Int) (n : Nat) (h : n < l.length) : Mt a (l.take (n + 1)) = Nat.lcm (Mt a (l.take n)) (l[n]).toNat := by
 rw [List.take_succ_eq_append_getElem h, Yz]; rfl
theorem Yp (a : Nat) (ha : 0 < a) (l : List Int) (h : ∀ x ∈ l, 1 ≤ x) : 0 < Mt a l := by
 induction l generalizing a with
 | nil => exact ha
 | cons g l ih =>
  have := h g List.mem_cons_self
  exact ih _ (Nat.lcm_pos ha (by omega)) (fun x hx => h x (List.mem_cons_of_mem _ hx))
theorem q2K (l : List Int) (h : ∀ x ∈ l, 1 ≤ x ∧ x ≤ 60) : ∀ a, Mt a l ≤ a * 60 ^ l.length := by
 induction l with
 | nil => intro a; simp [Mt]
 | cons g l ih =>
  intro a
  have h1 := h g List.mem_cons_self
  have h2 := ih (fun x hx => h x (List.mem_cons_of_mem _ hx)) (Nat.lcm a g.toNat)
  have h3 : Nat.lcm a g.toNat ≤ a * 60 := Nat.le_trans (q0G _ _) (Nat.mul_le_mul_left _ (by omega))
  refine Nat.le_trans h2 ?_
  rw [List.length_cons, Nat.pow_succ, Nat.mul_comm (60 ^ l.length) 60, ← Nat.mul_assoc]
  exact Nat.mul_le_mul_right _ h3
theorem Yv {l : List Int} (h : ∀ x ∈ l, 1 ≤ x ∧ x ≤ 60) (hl : l.length ≤ 8) : Mt 1 l ≤ 167961600000000 := by
 have h1 := q2K l h 1
 have h2 : 60 ^ l.length ≤ 60 ^ 8 := Nat.pow_le_pow_right (by omega) hl
 omega
theorem Vs (a : Nat) (l : List Int) : a ∣ Mt a l := by
 induction l generalizing a with
 | nil => exact Nat.dvd_refl _
 | cons g l ih => exact Nat.dvd_trans (Nat.dvd_lcm_left _ _) (ih _)
theorem q2w (a : Nat) (l : List Int) (x : Int) (hx : x ∈ l) : x.toNat ∣ Mt a l := by
 induction l generalizing a with
 | nil => cases hx
 | cons g l ih =>
  rcases List.mem_cons.1 hx with rfl | hx
  ·
   exact Nat.dvd_trans (Nat.dvd_lcm_right _ _) (Vs _ _)
  ·
   exact ih _ hx
theorem q1Z (a : Nat) (l : List Int) (m : Nat) (ha : a ∣ m) (h : ∀ x ∈ l, x.toNat ∣ m) : Mt a l ∣ m := by
 induction l generalizing a with
 | nil => exact ha
 | cons g l ih => exact ih _ (Nat.lcm_dvd ha (h g List.mem_cons_self)) (fun x hx => h x (List.mem_cons_of_mem _ hx))
theorem Yq (l : List Int) (hl : l.length ≤ 8) (h : ∀ x ∈ l, 1 ≤ x ∧ x ≤ 60) : ∀ d n : Nat, n + d = l.length →
    Ev (fun k => Bl.l0 k ((Mt 1 (l.take n) : Nat) : Int) l (l.length : Int) (n : Int)) ((Mt 1 l : Nat) : Int) := by
  intro d
  induction d with
  | zero =>
    intro n hn
    rw [List.take_of_length_le (by omega)]
    refine Ev.step (fun k => by rw [Bl.l0]) ?_
    exact Ca (by omega) (Ds _)
  | succ d ih =>
    intro n hn
    have hlt : n < l.length := by omega
    have hx := h _ (List.getElem_mem hlt)
    have hm : ∀ x ∈ l.take n, 1 ≤ x ∧ x ≤ 60 := fun x hx => h x (List.mem_of_mem_take hx)
    have hp := Yp 1 (by omega) (l.take n) (fun x hx => (hm x hx).1)
    have hb := Yv hm (by rw [List.length_take]; omega)
    have hih := ih (n + 1) (by omega)
    rw [Qe _ _ _ hlt] at hih
    generalize Mt 1 (l.take n) = a at hp hb hih ⊢
    obtain ⟨g, hg⟩ : ∃ g : Nat, l[n] = (g : Int) := ⟨(l[n]).toNat, by omega⟩
    rw [hg, Int.toNat_natCast] at hih
    rw [hg] at hx
    have hgp : 0 < Nat.gcd a g := Nat.gcd_pos_of_pos_left _ hp
    have h1 := Nat.div_le_self a (Nat.gcd a g)
    have h2 : Nat.lcm a g ≤ a * 60 := Nat.le_trans (q0G _ _) (Nat.mul_le_mul_left _ (by omega))
    refine Ev.step (fun k => by rw [Bl.l0]) ?_
    refine Aq (by omega) (Aq (by omega) (Aq (by omega) ?_))
    rw [Er hlt, hg]
    refine Ea (Rp a g) (Ca (by omega) ?_)
    rw [Mu, Kg (Nat.le_trans h1 (by omega)), ← Int.natCast_mul, Xs, Kg (Nat.le_trans h2 (by omega)), Dj (by omega)]
    exact hih
theorem Te (l : List Int) (hl : l.length ≤ 8) (h : ∀ x ∈ l, 1 ≤ x ∧ x ≤ 60) : Ev (fun k => Bl.f k l) ((Mt 1 l : Nat) : Int) := by
 unfold Bl.f
 exact Yq l hl h l.length 0 (by omega)
end Go.Proofs.YtliepcfgcglcmaaGreat.Pure
end
section
namespace Go.Proofs.YtliepcfgcglcmaaGreat.Pure
set_option linter.unusedVariables false
set_option linter.unusedSimpArgs false
theorem Kz (m n : Nat) : Int.tmod (m : Int) (n : Int) = ((m % n : Nat) : Int) := rfl
end Go.Proofs.YtliepcfgcglcmaaGreat.Pure
end
section
namespace Go.Proofs.YtliepcfgcglcmaaGreat.Pure
open Go.RowKit Go.Proofs.YtliepcfgcglcmaaGreat.P Go.Proofs.YtliepcfgcglcmaaGreatW.PrintWords Go.Proofs.YtliepcfgcglcmaaGreatW.PrintLast Go.Proofs.YtliepcfgcglcmaaGreatW.PrintMore
set_option linter.unusedVariables false
set_option linter.unusedSimpArgs false
def Yj (a b : Int) : Bool := Int.tmod (mx a b) (mn a b) == 0
theorem Wk {a b : Int} (ha : 1 ≤ a) (hb : 1 ≤ b) : Yj a b = true ↔ (Int.tmod a b = 0 ∨ Int.tmod b a = 0) := by
 obtain ⟨x, rfl⟩ : ∃ x : Nat, a = x := ⟨a.toNat, by omega⟩
 obtain ⟨y, rfl⟩ : ∃ y : Nat, b = y := ⟨b.toNat, by omega⟩
 rw [Kz, Kz]
 unfold Yj mx mn
 rw [beq_iff_eq]
 by_cases c : (x : Int) < (y : Int)
 ·
  rw [if_pos c, if_neg (by omega), Kz]
  have : x % y = x := Nat.mod_eq_of_lt (by omega)
  omega
 ·
  rw [if_neg c]
  by_cases d : (y : Int) < (x : Int)
  ·
   rw [if_pos d, Kz]
   have : y % x = y := Nat.mod_eq_of_lt (by omega)
   omega
  ·
   rw [if_neg d]
   obtain rfl : x = y := by omega
   rw [Kz, Nat.mod_self]
   omega
theorem Wa {a b : Int} (ha : 1 ≤ a) (hb : 1 ≤ b) (h : Yj a b = true) (hab : a ≤ b) : a.toNat ∣ b.toNat := by
 rw [Wk ha hb] at h
 obtain ⟨x, rfl⟩ : ∃ x : Nat, a = x := ⟨a.toNat, by omega⟩
 obtain ⟨y, rfl⟩ : ∃ y : Nat, b = y := ⟨b.toNat, by omega⟩
 rw [Kz, Kz] at h
 rw [Int.toNat_natCast, Int.toNat_natCast]
 rcases h with h | h
 ·
  by_cases c : x = y
  ·
   subst c; exact Nat.dvd_refl _
  ·
   have : x % y = x := Nat.mod_eq_of_lt (by omega)
   omega
 ·
  exact Nat.dvd_of_mod_eq_zero (by omega)
def Pz (G : List Int) : Bool := G.all fun a => G.all fun b => Yj a b
theorem q0Y (G : List Int) : Pz G = true ↔ ∀ i j : Nat, i < G.length → j < G.length → Yj (rd G i) (rd G j) = true := by
 unfold Pz
 rw [List.all_eq_true]
 constructor
 ·
  intro h i j hi hj
  have := h _ (Fs (l := G) (i := (i : Int)) (by omega) (by omega))
  rw [List.all_eq_true] at this
  exact this _ (Fs (by omega) (by omega))
 ·
  intro h a ha
  rw [List.all_eq_true]
  intro b hb
  obtain ⟨i, hi, rfl⟩ := List.getElem_of_mem ha
  obtain ⟨j, hj, rfl⟩ := List.getElem_of_mem hb
  have := h i j hi hj
  rwa [Er hi, Er hj] at this
theorem Lr {G : List Int} (hG : ∀ x ∈ G, 1 ≤ x ∧ x ≤ 40) (h1 : 1 ≤ G.length) : great G ∈ G ∧ 1 ≤ great G ∧ great G ≤ 40 := by
 have hle := Za (l := G) (b := 40) (by omega) fun x hx => (hG x hx).2
 have hmem : ∀ (l : List Int) (a : Int), (∀ x ∈ l, 1 ≤ x) → l.foldl mx a = a ∨ l.foldl mx a ∈ l := by
  intro l
  induction l with
  | nil => intro a _; exact .inl rfl
  | cons y l ih =>
   intro a h
   rw [List.foldl_cons]
   rcases ih (mx a y) (fun x hx => h x (List.mem_cons_of_mem _ hx)) with h2 | h2
   ·
    rw [h2]
    unfold mx
    split
    ·
     exact .inr List.mem_cons_self
    ·
     exact .inl rfl
   ·
    exact .inr (List.mem_cons_of_mem _ h2)
 have h0 := Mi (l := G) (x := G[0]) (List.getElem_mem (by omega))
 have h2 := hG _ (List.getElem_mem (l := G) (n := 0) (by omega))
 refine ⟨?_, by omega, hle⟩
 rcases hmem G 0 (fun x hx => (hG x hx).1) with h | h
 ·
  unfold great at h0; omega
 ·
  exact h
theorem Qf {G : List Int} (hG : ∀ x ∈ G, 1 ≤ x ∧ x ≤ 40) (h1 : 1 ≤ G.length) (hh : Pz G = true) : ∀ x ∈ G, x.toNat ∣ (great G).toNat := fun x hx => by
 obtain ⟨hm, hg1, _⟩ := Lr hG h1
 unfold Pz at hh
 rw [List.all_eq_true] at hh
 have := hh x hx
 rw [List.all_eq_true] at this
 exact Wa (hG x hx).1 hg1 (this _ hm) (Mi hx)
theorem q2r {G : List Int} (hG : ∀ x ∈ G, 1 ≤ x ∧ x ≤ 40) (h1 : 1 ≤ G.length) (hh : Pz G = true) : Mt 1 G = (great G).toNat :=
 Nat.dvd_antisymm (q1Z 1 G _ (Nat.one_dvd _) (Qf hG h1 hh)) (q2w 1 G _ (Lr hG h1).1)
theorem Rn {G : List Int} (hG : ∀ x ∈ G, 1 ≤ x ∧ x ≤ 40) (h1 : 1 ≤ G.length) (hh : Pz G = true) : q3q G (great G).toNat (La G G.length) := by
 have hm : ∀ t ∈ La G G.length, 0 ≤ t ∧ t < (G.length : Int) := fun t ht => (Mr G _ t).1 ht
 refine ⟨hm, fun t ht => Qf hG h1 hh _ (Fs (hm t ht).1 (hm t ht).2), ?_⟩
 have hs := Ys G G.length
 rw [q0Y] at hh
 refine List.Pairwise.imp_of_mem (fun {a b} ha hb hab => ?_) hs
 have h2 := hm a ha
 have h3 := hm b hb
 have h4 := hh a.toNat b.toNat (by omega) (by omega)
 rw [show ((a.toNat : Nat) : Int) = a by omega, show ((b.toNat : Nat) : Int) = b by omega] at h4
 exact Wa (hG _ (Fs h2.1 h2.2)).1 (hG _ (Fs h3.1 h3.2)).1 h4 hab
theorem Sy (l : List Int) (hl : l.length ≤ 1048576) : Ev (fun k => Cs.f k l l) true := by
 have main : ∀ d n : Nat, n + d = l.length → Ev (fun k => Cs.l0 k l l (n : Int)) true := by
  intro d
  induction d with
  | zero =>
   intro n hn
   exact Ev.step (fun k => by rw [Cs.l0]) (Ca (by omega) (Ds _))
  | succ d ih =>
   intro n hn
   refine Ev.step (fun k => by rw [Cs.l0]) (Aq (by omega) (Aq (by omega) (Aq (by omega) (Aq rfl ?_))))
   rw [Dj (n := n) (by omega)]
   exact ih (n + 1) (by omega)
 unfold Cs.f
 exact Aq rfl (main l.length 0 (by omega))
def Ky (N : Nat) (l : List Int) : Nat := match l with | [] => 0 | g :: l => N / g.toNat + Ky N l
theorem Sv (N : Nat) (a b : List Int) : Ky N (a ++ b) = Ky N a + Ky N b := by
 induction a with
 | nil => simp [Ky]
 | cons y a ih => simp only [List.cons_append, Ky, ih]; omega
theorem q0K (N : Nat) (l : List Int) : Ky N l ≤ l.length * N := by
 induction l with
 | nil => simp [Ky]
 | cons y l ih =>
  have := Nat.div_le_self N y.toNat
  rw [Ky, List.length_cons, Nat.succ_mul]
  omega
theorem q2t (G : List Int) (N : Nat) : ∀ n : Nat, n ≤ G.length → Nh (fun i => need G N i) ((List.range' 0 n).map fun (i : Nat) => (i : Int)) = (Ky N (G.take n) : Int) := by
 intro n
 induction n with
 | zero => intro _; rfl
 | succ n ih =>
  intro hn
  have hlt : n < G.length := by omega
  rw [List.range'_1_concat, List.map_append, Nx, ih (by omega), List.take_succ_eq_append_getElem hlt, Sv, Int.natCast_add]
  congr 1
  simp only [List.map_cons, List.map_nil, Nh, Ky, Nat.zero_add, Nat.add_zero, Int.add_zero, need, Er hlt]
theorem q0y (G : List Int) (hG : ∀ x ∈ G, 1 ≤ x ∧ x ≤ 40) (h8 : G.length ≤ 8) (N : Nat) (hN : 1 ≤ N ∧ N ≤ 40) (R : Int × Int)
    (hR : R = (((Ky N G / Nat.gcd (Ky N G) N : Nat) : Int), ((N / Nat.gcd (Ky N G) N : Nat) : Int))) : ∀ d n : Nat, n + d = G.length →
    Ev (fun k => Cd.l0 k (N : Int) ((Ky N (G.take n) : Nat) : Int) G (G.length : Int) (n : Int)) R := by
  intro d
  induction d with
  | zero =>
    intro n hn
    rw [List.take_of_length_le (by omega)]
    have hs := q0K N G
    have hb : Ky N G ≤ 8 * 40 := Nat.le_trans hs (Nat.mul_le_mul h8 hN.2)
    have hg : 0 < Nat.gcd (Ky N G) N := Nat.gcd_pos_of_pos_right _ (by omega)
    have h1 := Nat.div_le_self (Ky N G) (Nat.gcd (Ky N G) N)
    have h2 := Nat.div_le_self N (Nat.gcd (Ky N G) N)
    refine Ev.step (fun k => by rw [Cd.l0]) ?_
    refine Ca (by omega) (Ea (Rp (Ky N G) N) (Ca (by omega) ?_))
    rw [Mu, Mu, Kg (by omega), Kg (by omega), hR]
    exact Ds _
  | succ d ih =>
    intro n hn
    have hlt : n < G.length := by omega
    have hg := hG _ (List.getElem_mem hlt)
    have hs := q0K N (G.take n)
    rw [List.length_take] at hs
    have hb : Ky N (G.take n) ≤ 8 * 40 := Nat.le_trans hs (Nat.mul_le_mul (by omega) hN.2)
    have h1 := Nat.div_le_self N (G[n]).toNat
    have ih := ih (n + 1) (by omega)
    rw [List.take_succ_eq_append_getElem hlt, Sv] at ih
    refine Ev.step (fun k => by rw [Cd.l0]) ?_
    rw [Er hlt, Dj (n := n) (by omega), show Int.tdiv (N : Int) G[n] = ((N / (G[n]).toNat : Nat) : Int) by
      conv => lhs; rw [show G[n] = ((G[n].toNat : Nat) : Int) by omega]
      exact Mu _ _]
    rw [Kg (n := N / (G[n]).toNat) (by omega), ← Int.natCast_add, Kg (by omega)]
    refine Aq (by omega) (Aq (by omega) (Aq (by omega) (Ca (by omega) ?_)))
    have e : Ky N (G.take n) + N / (G[n]).toNat = Ky N (G.take n) + Ky N [G[n]] := by simp [Ky]
    rw [e]
    exact ih
theorem q1i (G : List Int) (hG : ∀ x ∈ G, 1 ≤ x ∧ x ≤ 40) (h8 : 1 ≤ G.length ∧ G.length ≤ 8) (hh : Pz G = true) : Ev (fun k => Dx.f k G) (decide (Ky (great G).toNat G ≤ (great G).toNat)) := by
 obtain ⟨_, g1, g2⟩ := Lr hG h8.1
 have hm := Te G h8.2 (fun x hx => by have := hG x hx; omega)
 rw [q2r hG h8.1 hh] at hm
 have hd : Ev (fun k => Cd.f k G) (((Ky (great G).toNat G / Nat.gcd (Ky (great G).toNat G) (great G).toNat : Nat) : Int), (((great G).toNat / Nat.gcd (Ky (great G).toNat G) (great G).toNat : Nat) : Int)) := by
  unfold Cd.f
  exact Ea hm (q0y G hG h8.2 (great G).toNat (by omega) _ rfl G.length 0 (by omega))
 unfold Dx.f
 refine Ea hd (Ly ?_)
 congr 1
 have hg : 0 < Nat.gcd (Ky (great G).toNat G) (great G).toNat := Nat.gcd_pos_of_pos_right _ (by omega)
 have a1 := Nat.div_mul_cancel (Nat.gcd_dvd_left (Ky (great G).toNat G) (great G).toNat)
 have a2 := Nat.div_mul_cancel (Nat.gcd_dvd_right (Ky (great G).toNat G) (great G).toNat)
 apply decide_eq_decide.2
 constructor
 ·
  intro h
  have h2 := Nat.mul_le_mul_right (Nat.gcd (Ky (great G).toNat G) (great G).toNat) (Int.ofNat_le.1 h)
  omega
 ·
  intro h
  exact Int.ofNat_le.2 (Nat.div_le_div_right h)
def Np (G : List Int) : Option (List Int) := gre G (great G).toNat (La G G.length) (List.replicate (great G).toNat (-1))
theorem Qh (N h : Nat) : Ud (List.replicate N (-1)) N h := ⟨List.length_replicate, fun s hs => by
 rw [List.length_replicate] at hs
 rw [Er (by rw [List.length_replicate]; omega), Er (by rw [List.length_replicate]; omega)]
 simp⟩
theorem q1a (N : Nat) : neg (List.replicate N (-1)) = N := by
 induction N with
 | zero => rfl
 | succ N ih => rw [List.replicate_succ, neg, ih, if_pos (by omega)]; omega
theorem q0q (G : List Int) (hG : ∀ x ∈ G, 1 ≤ x ∧ x ≤ 40) (h8 : 1 ≤ G.length ∧ G.length ≤ 8) (hh : Pz G = true) : Np G = none ↔ ¬ Ky (great G).toNat G ≤ (great G).toNat := by
 obtain ⟨_, g1, g2⟩ := Lr hG h8.1
 have H := Rn hG h8.1 hh
 unfold Np
 rw [q1Y G _ (by omega) _ _ (fun t ht => ⟨(H.mem t ht).1, by have := hG _ (Fs (H.mem t ht).1 (H.mem t ht).2); omega, H.dvd t ht⟩) H.pw (fun h _ => Qh _ _) List.length_replicate, q1a, q1U]
 have := q2t G (great G).toNat G.length (Nat.le_refl _)
 rw [List.take_length] at this
 rw [this]
 omega
theorem q0a (N : Nat) : Sg (List.replicate N (-1)) := fun x hx => by
 rw [(List.mem_replicate.1 hx).2]; omega
theorem Zu (G : List Int) (hG : ∀ x ∈ G, 1 ≤ x ∧ x ≤ 40) (h8 : 1 ≤ G.length ∧ G.length ≤ 8) (hh : Pz G = true) (r : List Int) (hr : Np G = some r) : Ev (fun k => Aw.f k G) r := by
 obtain ⟨_, g1, g2⟩ := Lr hG h8.1
 have H := Rn hG h8.1 hh
 have ho := Mx G G.length
 unfold Aw.f
 refine Ea (q3o G (by omega) h8.1 (fun x hx => by have := hG x hx; omega)) (Ew (a := List.replicate (great G).toNat (-1)) (by
  unfold Dr.f
  rw [if_pos ⟨rfl, by omega, by omega⟩]
  rfl) (Ea (Yc G hG h8) ?_))
 exact Wv G _ hG (great G).toNat (by omega) (by omega) _ 0 _ rfl (by omega) H (fun h _ => Qh _ _) List.length_replicate (q0a _) r hr
theorem q0s (G : List Int) (N : Nat) : ∀ ts out r, gre G N ts out = some r → r.length = out.length := by
 intro ts
 induction ts with
 | nil => intro out r h; rw [gre] at h; obtain rfl := Option.some.inj h; rfl
 | cons t ts ih =>
  intro out r h
  rw [gre] at h
  split at h
  ·
   rw [ih _ _ h, Px]
  ·
   exact absurd h (by simp)
theorem Ur {x : Int} {l : List Int} {i : Nat} (h : i < (Ei x 0 l).length) : 0 ≤ rd (Ei x 0 l) i ∧ rd (Ei x 0 l) i < l.length := by
 rw [Er h]
 have := Lc x l 0 _ (List.getElem_mem h)
 omega
theorem Xu (l : List Int) (x : Int) (hl : l.length ≤ 1048576) : ∀ d n : Nat, n + d = l.length →
    Ev (fun k => Cw.l0 k l x (diffs (Ei x 0 (l.take n))) ((Ei x 0 (l.take n)).headD (-1)) ((Ei x 0 (l.take n)).getLastD (-1)) (n : Int)) (Ex l x) := by
  intro d
  induction d with
  | zero =>
    intro n hn
    rw [List.take_of_length_le (by omega)]
    refine Ev.step (fun k => by rw [Cw.l0]) (Ca (by omega) ?_)
    have hlen := Mb x l 0
    by_cases hp : Ei x 0 l = []
    · rw [hp]
      refine Ca (by simp) (Ly ?_)
      simp [Ex, hp, diffs]
    · have h1 := Lc x l 0 _ (So hp (-1))
      have h2 := Lc x l 0 _ (Pr hp (-1))
      refine Aq (by omega) (Aq (by rw [Lh]; omega) (Ly ?_))
      rw [Ek (x := (l.length : Int) - _) (by omega) (by omega), Ek (by omega) (by omega), Ex, if_neg hp]
  | succ d ih =>
    intro n hn
    have hlt : n < l.length := by omega
    refine Ev.step (fun k => by rw [Cw.l0]) (Aq (by omega) (Aq (by omega) ?_))
    rw [Er hlt, Dj (by omega)]
    have ih := ih (n + 1) (by omega)
    rw [Nc x l n hlt] at ih
    have hlen := Mb x (l.take n) 0
    rw [List.length_take] at hlen
    by_cases hx : l[n] = x
    · rw [if_pos hx] at ih
      refine Aq hx ?_
      by_cases hp : Ei x 0 (l.take n) = []
      · rw [hp] at ih ⊢
        exact Aq (by simp) (by simpa [diffs] using ih)
      · have h1 := Lc x (l.take n) 0 _ (So hp (-1))
        have h2 := Lc x (l.take n) 0 _ (Pr hp (-1))
        rw [List.length_take] at h1 h2
        refine Ca (by omega) (Aq (by rw [Lh]; omega) ?_)
        rw [Ek (by omega) (by omega)]
        rw [Uj _ _ (-1) hp] at ih
        have e1 : (Ei x 0 (l.take n) ++ [(n : Int)]).headD (-1) = (Ei x 0 (l.take n)).headD (-1) := by
          cases h : Ei x 0 (l.take n) with
          | nil => exact absurd h hp
          | cons => rfl
        have e2 : (Ei x 0 (l.take n) ++ [(n : Int)]).getLastD (-1) = (n : Int) := by simp
        rw [e1, e2] at ih
        exact ih
    · rw [if_neg hx, List.append_nil] at ih
      exact Ca hx ih
theorem Ya (l : List Int) (x : Int) (hl : l.length ≤ 1048576) : Ev (fun k => Cw.f k l x) (Ex l x) := by
 unfold Cw.f
 simpa [Ei, diffs] using Xu l x hl l.length 0 (by omega)
theorem Vp (l : List Int) (x : Int) (hl : l.length ≤ 1048576) : ∀ d n : Nat, n + d = (Ei x 0 l).length →
    Ev (fun k => Bw.l1 k l (Ei x 0 l) ((Ex l x).take n) (Ei x 0 l) ((Ei x 0 l).length : Int) (n : Int)) (Ex l x) := by
  intro d
  induction d with
  | zero =>
    intro n hn
    rw [List.take_of_length_le (by rw [Ko]; omega)]
    exact Ev.step (fun k => by rw [Bw.l1]) (Ca (by omega) (Ds _))
  | succ d ih =>
    intro n hn
    have hlen := Mb x l 0
    have hlt : n < (Ei x 0 l).length := by omega
    have hp : Ei x 0 l ≠ [] := fun h => by rw [h] at hlt; simp at hlt
    have hb := Ur hlt
    have ht : ((Ex l x).take n).length < 17592186044416 := by rw [List.length_take, Ko]; omega
    refine Ev.step (fun k => by rw [Bw.l1]) (Aq (by omega) (Aq (by omega) (Aq (by omega) ?_)))
    rw [Dj (by omega)]
    have hlt2 : n < (Ex l x).length := by rw [Ko]; exact hlt
    have ih := ih (n + 1) (by omega)
    rw [List.take_succ_eq_append_getElem hlt2] at ih
    by_cases h1 : n + 1 < (Ei x 0 l).length
    · have hb1 := Ur h1
      refine Aq (by omega) (Aq (by omega) (Aq ht ?_))
      rw [Ek (by omega) (by omega)]
      have e : (Ex l x)[n] = rd (Ei x 0 l) ((n + 1 : Nat) : Int) - rd (Ei x 0 l) (n : Int) := by
        have h2 : (Ex l x)[n]? = some (rd (Ei x 0 l) ((n + 1 : Nat) : Int) - rd (Ei x 0 l) (n : Int)) := by
          rw [Ex, if_neg hp, List.getElem?_append_left (by rw [Lh]; omega), Wb _ _ h1]
          simp only [rd, Int.toNat_natCast]
        rw [List.getElem?_eq_getElem hlt2] at h2
        exact Option.some.inj h2
      rw [e] at ih
      exact ih
    · have hb0 := Ur (x := x) (l := l) (i := 0) (by omega)
      refine Ca (by omega) (Aq (by omega) (Ew (show Fe.f l = some (l.length : Int) from rfl) (Aq ht ?_)))
      have hb0 : 0 ≤ rd (Ei x 0 l) 0 ∧ rd (Ei x 0 l) 0 < l.length := hb0
      rw [Ek (x := rd (Ei x 0 l) 0 + _) (by omega) (by omega), Ek (by omega) (by omega)]
      have e : (Ex l x)[n] = rd (Ei x 0 l) 0 + (l.length : Int) - rd (Ei x 0 l) (n : Int) := by
        have h2 : (Ex l x)[n]? = some (rd (Ei x 0 l) 0 + (l.length : Int) - rd (Ei x 0 l) (n : Int)) := by
          have hn1 : n = (diffs (Ei x 0 l)).length := by rw [Lh]; omega
          rw [Ex, if_neg hp, List.getElem?_append_right (by omega), show n - (diffs (Ei x 0 l)).length = 0 by omega, List.getElem?_cons_zero]
          congr 1
          have e1 : (Ei x 0 l).headD (-1) = rd (Ei x 0 l) 0 := by
            cases h : Ei x 0 l with
            | nil => exact absurd h hp
            | cons => rfl
          have e2 : (Ei x 0 l).getLastD (-1) = rd (Ei x 0 l) (n : Int) := by
            rw [Er hlt, List.getLastD_eq_getLast?, List.getLast?_eq_getElem?, show (Ei x 0 l).length - 1 = n by omega, List.getElem?_eq_getElem hlt]
            rfl
          rw [e1, e2]
          omega
        rw [List.getElem?_eq_getElem hlt2] at h2
        exact Option.some.inj h2
      rw [e] at ih
      exact ih
theorem Vq (l : List Int) (x : Int) (hl : l.length ≤ 1048576) : ∀ d n : Nat, n + d = l.length →
    Ev (fun k => Bw.l0 k l x (Ei x 0 (l.take n)) l (l.length : Int) (n : Int)) (Ex l x) := by
  intro d
  induction d with
  | zero =>
    intro n hn
    rw [List.take_of_length_le (by omega)]
    refine Ev.step (fun k => by rw [Bw.l0]) (Ca (by omega) ?_)
    exact Vp l x hl (Ei x 0 l).length 0 (by omega)
  | succ d ih =>
    intro n hn
    have hlt : n < l.length := by omega
    refine Ev.step (fun k => by rw [Bw.l0]) (Aq (by omega) (Aq (by omega) (Aq (by omega) ?_)))
    rw [Er hlt, Dj (by omega)]
    have ih := ih (n + 1) (by omega)
    rw [Nc x l n hlt] at ih
    have hlen := Mb x (l.take n) 0
    rw [List.length_take] at hlen
    by_cases hx : l[n] = x
    · rw [if_pos hx] at ih
      exact Aq hx (Aq (by omega) ih)
    · rw [if_neg hx, List.append_nil] at ih
      exact Ca hx ih
theorem Yd (l : List Int) (x : Int) (hl : l.length ≤ 1048576) : Ev (fun k => Bw.f k l x) (Ex l x) := by
 unfold Bw.f
 simpa [Ei] using Vq l x hl l.length 0 (by omega)
theorem St (l : List Int) (hl : l.length ≤ 1048576) : ∀ d n : Nat, n + d = l.length →
    Ev (fun k => Bn.l0 k l (great (l.take n)) (n : Int)) (great l) := by
  intro d
  induction d with
  | zero =>
    intro n hn
    rw [List.take_of_length_le (by omega)]
    exact Ev.step (fun k => by rw [Bn.l0]) (Ca (by omega) (Ds _))
  | succ d ih =>
    intro n hn
    have hlt : n < l.length := by omega
    refine Ev.step (fun k => by rw [Bn.l0]) (Aq (by omega) (Aq (by omega) ?_))
    rw [Er hlt, Dj (by omega), ← Qa l n hlt]
    exact ih (n + 1) (by omega)
theorem Qo (l : List Int) (x : Int) : (Ex l x).length ≤ l.length := by rw [Ko]; exact Mb x l 0
theorem Nm (l : List Int) (x : Int) (hl : l.length ≤ 1048576) : Ev (fun k => Bn.f k l x) (great (Ex l x)) := by
 unfold Bn.f
 exact Ea (Ya l x hl) (St _ (by have := Qo l x; omega) (Ex l x).length 0 (by omega))
theorem Yw (l : List Int) (hl : l.length ≤ 1048576) : ∀ d n : Nat, n + d = l.length →
    Ev (fun k => Cq.l0 k (great (l.take n)) l (l.length : Int) (n : Int)) (great l) := by
  intro d
  induction d with
  | zero =>
    intro n hn
    rw [List.take_of_length_le (by omega)]
    exact Ev.step (fun k => by rw [Cq.l0]) (Ca (by omega) (Ds _))
  | succ d ih =>
    intro n hn
    have hlt : n < l.length := by omega
    refine Ev.step (fun k => by rw [Cq.l0]) (Aq (by omega) (Aq (by omega) (Aq (by omega) ?_)))
    rw [Er hlt, Dj (by omega), ← Qa l n hlt]
    exact ih (n + 1) (by omega)
theorem Sw (l : List Int) (hl : l.length ≤ 1048576) : Ev (fun k => Cq.f k l) (great l) := by
 unfold Cq.f
 exact Yw l hl l.length 0 (by omega)
def Ng (G l : List Int) (i : Nat) : Bool := decide (1 ≤ great (Ex l i) ∧ great (Ex l i) ≤ rd G i)
theorem Vk (G l : List Int) (hG : G.length ≤ 1048576) (hl : l.length ≤ 1048576) : ∀ d n : Nat, n + d = G.length →
    Ev (fun k => Ck.l0 k l G (G.length : Int) (n : Int)) ((List.range' n d).all (Ng G l)) := by
  intro d
  induction d with
  | zero =>
    intro n hn
    exact Ev.step (fun k => by rw [Ck.l0]) (Ca (by omega) (Ds true))
  | succ d ih =>
    intro n hn
    refine Ev.step (fun k => by rw [Ck.l0]) (Aq (by omega) (Aq (by omega) (Aq (by omega) (Ea (Yd l n hl) ?_))))
    rw [List.range'_succ, List.all_cons, Dj (by omega)]
    have hw := Qo l (n : Int)
    by_cases hp : Ei (n : Int) 0 l = []
    · have h0 : Ex l (n : Int) = [] := by simp [Ex, hp]
      refine Aq (by rw [h0]; rfl) (Ly ?_)
      rw [Ng, h0, decide_eq_false (by simp [great]), Bool.false_and]
    · have hq := Us hp
      have h0 : (Ex l (n : Int)).length ≠ 0 := by
        rw [Ko]; exact fun h => hp (List.eq_nil_of_length_eq_zero h)
      refine Ca (by omega) (Ea (Sw _ (by omega)) ?_)
      by_cases hg : great (Ex l n) > rd G n
      · refine Aq hg (Ly ?_)
        rw [Ng, decide_eq_false (by omega), Bool.false_and]
      · refine Ca hg ?_
        rw [Ng, decide_eq_true (by omega), Bool.true_and]
        exact ih (n + 1) (by omega)
theorem q1D (G l : List Int) (hG : G.length ≤ 1048576) (hl : l.length ≤ 1048576) : Ev (fun k => Ck.f k G l) ((List.range' 0 G.length).all (Ng G l)) := by
 unfold Ck.f
 exact Vk G l hG hl G.length 0 (by omega)
structure Cyc (l : List Int) (x : Int) (g f : Nat) : Prop where
 small : f < g
 mult : g ∣ l.length
 pos : 0 < l.length
 rest : ∀ s : Nat, s < l.length → (rd l (s : Int) = x ↔ s % g = f)
def Lb (f g : Nat) (a c : Nat) : List Int := (List.range' a c).map fun j => ((f + j * g : Nat) : Int)
theorem Td (f g c : Nat) : Lb f g 0 c ++ [((f + c * g : Nat) : Int)] = Lb f g 0 (c + 1) := by
 simp [Lb, List.range'_1_concat]
theorem Pe {a b g : Nat} (h : a * g < b * g) : a < b := Nat.lt_of_mul_lt_mul_right h
theorem Zc {l : List Int} {x : Int} {g f : Nat} (C : Cyc l x g f) : ∀ n : Nat, n ≤ l.length → ∃ c, Ei x 0 (l.take n) = Lb f g 0 c ∧ n ≤ f + c * g ∧ (c = 0 ∨ f + c * g < n + g) := by
 have hg := C.small
 intro n
 induction n with
 | zero => intro _; exact ⟨0, by simp [Ei, Lb], by omega, .inl rfl⟩
 | succ n ih =>
  intro hn
  have hlt : n < l.length := by omega
  obtain ⟨c, e, h1, h2⟩ := ih (by omega)
  have hr := C.rest n hlt
  rw [Er hlt] at hr
  have hm : (c + 1) * g = c * g + g := Nat.succ_mul c g
  rw [Nc x l n hlt, e]
  by_cases hx : l[n] = x
  ·
   have h3 := hr.1 hx
   have h4 := Nat.mod_add_div n g
   rw [h3, Nat.mul_comm] at h4
   have h5 : n / g * g < (c + 1) * g := by omega
   have h6 : c * g < (n / g + 1) * g := by rw [Nat.succ_mul]; rcases h2 with rfl | h2 <;> omega
   have h7 : c = n / g := by have := Pe h5; have := Pe h6; omega
   rw [if_pos hx]
   have h8 : (n : Int) = ((f + c * g : Nat) : Int) := by rw [h7, h4]
   rw [h8, Td]
   have h9 : n = f + c * g := by rw [h7]; exact h4.symm
   exact ⟨c + 1, rfl, by omega, .inr (by omega)⟩
  ·
   rw [if_neg hx, List.append_nil]
   have h3 : n ≠ f + c * g := fun h => hx (hr.2 (by rw [h, Nat.add_mul_mod_self_right, Nat.mod_eq_of_lt hg]))
   exact ⟨c, rfl, by omega, by omega⟩
theorem Yn (f g : Nat) : ∀ (c a : Nat), diffs (Lb f g a (c + 1)) = List.replicate c (g : Int) := by
 intro c
 induction c with
 | zero => intro a; rfl
 | succ c ih =>
  intro a
  have h := ih (a + 1)
  have e : Lb f g a (c + 1 + 1) = ((f + a * g : Nat) : Int) :: Lb f g (a + 1) (c + 1) := by simp [Lb, List.range'_succ]
  have e2 : Lb f g (a + 1) (c + 1) = ((f + (a + 1) * g : Nat) : Int) :: Lb f g (a + 1 + 1) c := by simp [Lb, List.range'_succ]
  rw [e, e2, diffs, ← e2, h, List.replicate_succ]
  congr 1
  rw [Nat.succ_mul]; omega
theorem Wm {l : List Int} {x : Int} {g f : Nat} (C : Cyc l x g f) : Ex l x = List.replicate (l.length / g) (g : Int) := by
 have hg := C.small
 have hp := C.pos
 obtain ⟨c, e, h1, h2⟩ := Zc C l.length (Nat.le_refl _)
 rw [List.take_of_length_le (Nat.le_refl _)] at e
 have hq := Nat.div_mul_cancel C.mult
 have q1 : 0 < l.length / g := Nat.div_pos (Nat.le_of_dvd hp C.mult) (by omega)
 have h3 : (l.length / g - 1 + 1) * g = l.length := by rw [Nat.sub_add_cancel q1]; exact hq
 have h4 : (l.length / g - 1 + 1) * g = (l.length / g - 1) * g + g := Nat.succ_mul _ _
 have h5 : l.length / g - 1 < c := Pe (g := g) (by omega)
 have h6 : c < l.length / g + 1 := Pe (g := g) (by rw [Nat.succ_mul]; omega)
 obtain ⟨d, rfl⟩ : ∃ d, c = d + 1 := ⟨c - 1, by omega⟩
 have hc : l.length / g = d + 1 := by omega
 have hne : Ei x 0 l ≠ [] := by rw [e]; simp [Lb, List.range'_succ]
 rw [Ex, if_neg hne, e, Yn, hc, List.replicate_succ']
 have hh : (Lb f g 0 (d + 1)).headD (-1) = (f : Int) := by simp [Lb, List.range'_succ]
 have hl : (Lb f g 0 (d + 1)).getLastD (-1) = ((f + d * g : Nat) : Int) := by rw [← Td]; simp
 rw [hh, hl]
 have h7 : l.length = d * g + g := by rw [← hq, hc]; exact Nat.succ_mul _ _
 congr 2
 omega
theorem q1c (n : Nat) (hn : 0 < n) (x : Int) (hx : 0 ≤ x) : great (List.replicate n x) = x := by
 have h1 := Mi (l := List.replicate n x) (x := x) (List.mem_replicate.2 ⟨by omega, rfl⟩)
 have h2 := Za (l := List.replicate n x) hx (fun y hy => by rw [(List.mem_replicate.1 hy).2]; exact Int.le_refl _)
 omega
theorem q1v {l : List Int} {x : Int} {g f : Nat} (C : Cyc l x g f) : great (Ex l x) = (g : Int) := by
 rw [Wm C, q1c _ (Nat.div_pos (Nat.le_of_dvd C.pos C.mult) (by have := C.small; omega)) _ (by omega)]
theorem q1A {out : List Int} {N h : Nat} (P : Ud out N h) (hh : 0 < h) (hd : h ∣ N) (t : Nat) (hf : Dc out < N) :
    Dc out < h ∧ (∀ s : Nat, s < N → rd (Mq h t (N / h) (Dc out) out) (s : Int) = if s % h = Dc out then (t : Int) else rd out (s : Int)) ∧ (∀ s : Nat, s < N → s % h = Dc out → rd out (s : Int) < 0) := by
  have hl := P.len
  have hs := Na P.per hh (by omega)
  have hfree := Me (out := out) (by omega)
  have hq := Nat.div_mul_cancel hd
  refine ⟨hs, fun s hsn => ?_, fun s hsn hm => ?_⟩
  · rw [Uw h t hh (N / h) _ out (by omega) s (by omega)]
    by_cases c : s % h = Dc out
    · have h2 := Nat.mod_add_div s h
      rw [if_pos c, if_pos ⟨by omega, by omega, by rw [show s - Dc out = h * (s / h) by omega, Nat.mul_mod_right]⟩]
    · rw [if_neg c, if_neg]
      rintro ⟨h1, _, h3⟩
      obtain ⟨d, hd2⟩ := Nat.dvd_of_mod_eq_zero h3
      apply c
      rw [show s = Dc out + h * d by omega, Nat.add_mul_mod_self_left, Nat.mod_eq_of_lt hs]
  · have h2 := Nat.mod_add_div s h
    rw [hm, Nat.mul_comm] at h2
    have h3 := P.per.mul (s / h) (Dc out) (by omega)
    rw [h2] at h3
    exact h3.1 hfree
theorem q2j (G : List Int) (N : Nat) (hN : 0 < N) (hG : ∀ t, 0 ≤ t → t < (G.length : Int) → 0 < rd G t) : ∀ (ts out : List Int), q3q G N ts → (∀ h, ts.head? = some h → Ud out N (rd G h).toNat) → out.length = N →
    ∀ r, gre G N ts out = some r → (∀ t : Int, 0 ≤ t → t ∉ ts → ∀ s : Nat, s < N → (rd r (s : Int) = t ↔ rd out (s : Int) = t)) ∧
      ((ts.Nodup ∧ ∀ t ∈ ts, ∀ s : Nat, s < N → rd out (s : Int) ≠ t) → ∀ t ∈ ts, ∃ f : Nat, f < (rd G t).toNat ∧ ∀ s : Nat, s < N → (rd r (s : Int) = t ↔ s % (rd G t).toNat = f)) := by
  intro ts
  induction ts with
  | nil =>
    intro out _ _ _ r hr
    rw [gre] at hr
    obtain rfl := Option.some.inj hr
    exact ⟨fun t _ _ s _ => Iff.rfl, fun _ t ht => absurd ht (by simp)⟩
  | cons t ts ih =>
    intro out H hp hl r hr
    have ht := H.mem t List.mem_cons_self
    have hg := hG t ht.1 ht.2
    have hd := H.dvd t List.mem_cons_self
    have P := hp t rfl
    have pw := H.pw
    rw [List.pairwise_cons] at pw
    rw [gre] at hr
    by_cases c : Dc out < N
    · rw [if_pos c] at hr
      obtain ⟨hs, hrd, hfr⟩ := q1A P (by omega) hd t.toNat c
      obtain ⟨P2, _⟩ := Uz P (by omega) (Nat.div_mul_cancel hd).symm t.toNat c
      have e : ((t.toNat : Nat) : Int) = t := by omega
      rw [e] at hrd
      obtain ⟨k1, k2⟩ := ih _ ⟨fun z hz => H.mem z (List.mem_cons_of_mem _ hz), fun z hz => H.dvd z (List.mem_cons_of_mem _ hz), pw.2⟩ (fun h hh2 => ⟨P2.len, P2.per.dvd (pw.1 h (List.mem_of_mem_head? hh2))⟩) P2.len r hr
      refine ⟨fun u hu hun s hsn => ?_, ?_⟩
      · rw [k1 u hu (fun h => hun (List.mem_cons_of_mem _ h)) s hsn, hrd s hsn]
        by_cases cs : s % (rd G t).toNat = Dc out
        · rw [if_pos cs]
          have h1 := hfr s hsn cs
          have h2 : t ≠ u := fun h => hun (by rw [h]; exact List.mem_cons_self)
          constructor
          · intro h; exact absurd h h2
          · intro h; omega
        · rw [if_neg cs]
      · rintro ⟨hnd, hno⟩
        rw [List.nodup_cons] at hnd
        intro u hu
        rcases List.mem_cons.1 hu with rfl | hu
        · refine ⟨Dc out, hs, fun s hsn => ?_⟩
          rw [k1 u ht.1 hnd.1 s hsn, hrd s hsn]
          by_cases cs : s % (rd G u).toNat = Dc out
          · rw [if_pos cs]; exact ⟨fun _ => cs, fun _ => rfl⟩
          · rw [if_neg cs]
            exact ⟨fun h => absurd h (hno u List.mem_cons_self s hsn), fun h => absurd h cs⟩
        · refine k2 ⟨hnd.2, fun z hz s hsn => ?_⟩ u hu
          rw [hrd s hsn]
          split
          · intro h; exact hnd.1 (by rw [h]; exact hz)
          · exact hno z (List.mem_cons_of_mem _ hz) s hsn
    · rw [if_neg c] at hr
      exact absurd hr (by simp)
theorem q1u (G : List Int) (x : Int) : ∀ ra B, (Pd G x ra B).Perm (x :: (ra ++ B)) := by
 intro ra
 induction ra with
 | nil => intro B; exact List.Perm.refl _
 | cons y ra ih =>
  intro B
  rw [Pd]
  split
  ·
   exact (ih (y :: B)).trans (List.Perm.cons x List.perm_middle)
  ·
   exact List.perm_middle.trans (List.Perm.cons x ((List.reverse_perm (y :: ra)).append_right B))
theorem q0x (G : List Int) : ∀ n, (La G n).Nodup := by
 intro n
 induction n with
 | zero => exact List.nodup_nil
 | succ n ih =>
  rw [La, (q1u G _ _ _).nodup_iff, List.append_nil, List.nodup_cons]
  refine ⟨fun h => ?_, (List.reverse_perm _).nodup_iff.2 ih⟩
  have := (Mr G n _).1 (List.mem_reverse.1 h)
  omega
theorem q2V (G : List Int) (N : Nat) : ∀ (ts out r : List Int), gre G N ts out = some r → ∀ y ∈ r, y ∈ out ∨ ((y.toNat : Nat) : Int) = y ∧ ∃ t ∈ ts, y = t.toNat := by
 have hf : ∀ (g t m p : Nat) (out : List Int), ∀ y ∈ Mq g t m p out, y ∈ out ∨ y = (t : Int) := by
  intro g t m
  induction m with
  | zero => intro p out y hy; exact .inl hy
  | succ m ih =>
   intro p out y hy
   rw [Mq] at hy
   rcases ih _ _ y hy with h | h
   ·
    rcases List.mem_or_eq_of_mem_set h with h | h
    ·
     exact .inl h
    ·
     exact .inr h
   ·
    exact .inr h
 intro ts
 induction ts with
 | nil => intro out r h y hy; rw [gre] at h; obtain rfl := Option.some.inj h; exact .inl hy
 | cons t ts ih =>
  intro out r h y hy
  rw [gre] at h
  split at h
  ·
   rcases ih _ _ h y hy with h2 | ⟨h2, z, hz, e⟩
   ·
    rcases hf _ _ _ _ _ y h2 with h3 | h3
    ·
     exact .inl h3
    ·
     exact .inr ⟨by omega, t, List.mem_cons_self, h3⟩
   ·
    exact .inr ⟨h2, z, List.mem_cons_of_mem _ hz, e⟩
  ·
   exact absurd h (by simp)
theorem q1f {G r : List Int} (hr : Np G = some r) : ∀ y ∈ r, -1 ≤ y ∧ y < (G.length : Int) := fun y hy => by
 rcases q2V G _ _ _ _ hr y hy with h | ⟨_, t, ht, e⟩
 ·
  rw [(List.mem_replicate.1 h).2]; omega
 ·
  have := (Mr G _ t).1 ht
  omega
theorem Wh {G r : List Int} (hr : Np G = some r) : r.length = (great G).toNat := by
 have := q0s G _ _ _ _ hr
 rwa [List.length_replicate] at this
theorem q0Z {G : List Int} (hG : ∀ x ∈ G, 1 ≤ x ∧ x ≤ 40) (h1 : 1 ≤ G.length) (hh : Pz G = true) {r : List Int} (hr : Np G = some r) (i : Nat) (hi : i < G.length) : ∃ f, Cyc r (i : Int) (rd G (i : Int)).toNat f := by
 obtain ⟨_, g1, g2⟩ := Lr hG h1
 have H := Rn hG h1 hh
 have hl := Wh hr
 have hm := (Mr G G.length (i : Int)).2 (by omega)
 obtain ⟨_, k⟩ := q2j G (great G).toNat (by omega) (fun t h0 h2 => by have := hG _ (Fs h0 h2); omega) _ _ H (fun h _ => Qh _ _) List.length_replicate r hr
 obtain ⟨f, hf, hs⟩ := k ⟨q0x G _, fun t ht s hs => by
  have := (Mr G _ t).1 ht
  rw [Er (by rw [List.length_replicate]; exact hs), List.getElem_replicate]
  omega⟩ _ hm
 exact ⟨f, hf, by rw [hl]; exact H.dvd _ hm, by omega, fun s hs2 => hs s (by omega)⟩
theorem q2p (l : List Int) (hp : 0 < l.length) : ∀ (k s : Nat), s < k * l.length → rd (List.replicate k l).flatten (s : Int) = rd l ((s % l.length : Nat) : Int) := by
 intro k
 induction k with
 | zero => intro s hs; omega
 | succ k ih =>
  intro s hs
  have e : (k + 1) * l.length = k * l.length + l.length := Nat.succ_mul _ _
  have hlen : (List.replicate k l).flatten.length = k * l.length := by simp
  rw [List.replicate_succ, List.flatten_cons]
  rw [Er (by rw [List.length_append, hlen]; omega), Er (Nat.mod_lt _ hp)]
  by_cases c : s < l.length
  ·
   rw [List.getElem_append_left c]
   congr 1
   rw [Nat.mod_eq_of_lt c]
  ·
   have h := ih (s - l.length) (by omega)
   rw [Er (by omega), Er (Nat.mod_lt _ hp)] at h
   rw [List.getElem_append_right (by omega), h]
   congr 1
   rw [← Nat.mod_eq_sub_mod (by omega)]
theorem q0O {l : List Int} {x : Int} {g f : Nat} (C : Cyc l x g f) (k : Nat) (hk : 0 < k) : Cyc (List.replicate k l).flatten x g f := by
 have hp := C.pos
 have hlen : (List.replicate k l).flatten.length = k * l.length := by simp
 obtain ⟨q, hq⟩ := C.mult
 refine ⟨C.small, by rw [hlen]; exact Nat.dvd_mul_left_of_dvd C.mult k, by rw [hlen]; exact Nat.mul_pos hk hp, fun s hs => ?_⟩
 rw [q2p l hp k s (by omega), C.rest _ (Nat.mod_lt _ hp), hq, Nat.mod_mul_right_mod]
def Md (x m : Int) : List Int → Int → Int
 | [], k => k
 | y :: l, k => Md x m l (if y = x then Int.tmod (wrap64 (k + 1)) m else k)
theorem Nw (x last m : Int) : ∀ (a b : List Int) (k : Int), Ki x last m (a ++ b) k = Ki x last m a k ++ Ki x last m b (Md x m a k)
 | [], _, _ => rfl
 | y :: a, b, k => by
  rw [List.cons_append, Ki, Ki, Md]
  split
  ·
   rw [Nw x last m a b, List.cons_append]
  ·
   rw [Nw x last m a b, List.cons_append]
theorem Kr (x last m : Int) : ∀ (l : List Int) (k : Int), (Ki x last m l k).length = l.length
 | [], _ => rfl
 | y :: l, k => by
  rw [Ki]
  split
  ·
   rw [List.length_cons, List.length_cons, Kr x last m l]
  ·
   rw [List.length_cons, List.length_cons, Kr x last m l]
def Yb (x last : Int) (y k : Int) : Int := if y = x then (if 0 < k then wrap64 (last + k) else y) else y
theorem Wi (x last m y : Int) (l : List Int) (k : Int) : Ki x last m (y :: l) k = Yb x last y k :: Ki x last m l (Md x m [y] k) := by
 unfold Yb
 rw [Ki, Md]
 split <;> rfl
theorem q2B (x last m : Int) (l : List Int) (k : Int) (s : Nat) (hs : s < l.length) : rd (Ki x last m l k) (s : Int) = Yb x last (rd l (s : Int)) (Md x m (l.take s) k) := by
 have e : l = l.take s ++ l[s] :: l.drop (s + 1) := by rw [← List.drop_eq_getElem_cons hs, List.take_append_drop]
 have h1 : (Ki x last m (l.take s) k).length = s := by rw [Kr, List.length_take]; omega
 rw [Er (by rw [Kr]; exact hs), Er hs]
 have h2 : Ki x last m l k = Ki x last m (l.take s) k ++ (Yb x last l[s] (Md x m (l.take s) k) :: Ki x last m (l.drop (s + 1)) (Md x m [l[s]] (Md x m (l.take s) k))) := by
  rw [← Wi, ← Nw, ← e]
 have h3 : ∀ (q : List Int) (hq : s < q.length), q = Ki x last m (l.take s) k ++ (Yb x last l[s] (Md x m (l.take s) k) :: Ki x last m (l.drop (s + 1)) (Md x m [l[s]] (Md x m (l.take s) k))) → q[s] = Yb x last l[s] (Md x m (l.take s) k) := by
  intro q hq eq
  subst eq
  rw [List.getElem_append_right (by omega)]
  simp [h1]
 exact h3 _ _ h2
theorem Ua (x : Int) : ∀ (l : List Int) (o : Int) (k : Nat), k < 2 → Md x 2 l (k : Int) = (((k + (Ei x o l).length) % 2 : Nat) : Int)
 | [], _, k, hk => by
  rw [Md, Ei, List.length_nil, Nat.add_zero, Nat.mod_eq_of_lt hk]
 | y :: l, o, k, hk => by
  rw [Md, Ei]
  split
  ·
   rw [Dj (by omega), show (2 : Int) = ((2 : Nat) : Int) from rfl, Kz, show ((2 : Nat) : Int) = (2 : Int) from rfl, Ua x l (o + 1) ((k + 1) % 2) (Nat.mod_lt _ (by omega)), List.length_cons]
   congr 1
   omega
  ·
   exact Ua x l (o + 1) k hk
theorem q1o {l : List Int} {x : Int} {g f : Nat} (C : Cyc l x g f) (s q : Nat) (hs : s < l.length) (e : s = f + q * g) : (Ei x 0 (l.take s)).length = q := by
 obtain ⟨c, h1, h2, h3⟩ := Zc C s (by omega)
 have hg := C.small
 have hc : c = q := by
  have a1 : q ≤ c := Nat.le_of_mul_le_mul_right (by omega : q * g ≤ c * g) (by omega)
  rcases h3 with h3 | h3
  ·
   omega
  ·
   have a2 : c < q + 1 := Pe (g := g) (by rw [Nat.succ_mul]; omega)
   omega
 rw [h1, hc]
 simp [Lb]
theorem q0H {s f g q : Nat} (hf : f < g) (e : s = f + q * g) : s % (2 * g) = (if q % 2 = 0 then f else f + g) := by
 have hq := Nat.div_add_mod q 2
 split
 ·
  next h =>
  have : s = f + 2 * g * (q / 2) := by
   rw [e, Nat.mul_comm 2 g, Nat.mul_assoc, show 2 * (q / 2) = q by omega, Nat.mul_comm g q]
  rw [this, Nat.add_mul_mod_self_left, Nat.mod_eq_of_lt (by omega)]
 ·
  next h =>
  have : s = f + g + 2 * g * (q / 2) := by
   obtain ⟨p, hp⟩ : ∃ p, q = p + 1 := ⟨q - 1, by omega⟩
   rw [e, Nat.mul_comm 2 g, Nat.mul_assoc, show 2 * (q / 2) = p by omega, Nat.mul_comm g p, hp, Nat.succ_mul]; omega
  rw [this, Nat.add_mul_mod_self_left, Nat.mod_eq_of_lt (by omega)]
theorem Tu {s f g : Nat} (hf : f < g) (h : s % (2 * g) = f ∨ s % (2 * g) = f + g) : s % g = f := by
  have h1 : s % (2 * g) % g = s % g := by rw [Nat.mul_comm 2 g, Nat.mod_mul_right_mod]
  rcases h with h | h
  · rw [← h1, h, Nat.mod_eq_of_lt hf]
  · rw [← h1, h, Nat.add_mod_right, Nat.mod_eq_of_lt hf]
theorem Tv {l : List Int} {x : Int} {g f : Nat} (C : Cyc l x g f) (last : Int) (s : Nat) (hs : s < l.length) :
    rd (Ki x last 2 l 0) (s : Int) = if s % (2 * g) = f then x else if s % (2 * g) = f + g then wrap64 (last + 1) else rd l (s : Int) := by
  have hg := C.small
  rw [q2B x last 2 l 0 s hs, Yb]
  have hk := Ua x (l.take s) 0 0 (by omega)
  rw [show ((0 : Nat) : Int) = 0 from rfl, Nat.zero_add] at hk
  by_cases c : rd l (s : Int) = x
  · have hf := (C.rest s hs).1 c
    have e : s = f + (s / g) * g := by have := Nat.mod_add_div s g; rw [Nat.mul_comm] at this; omega
    rw [if_pos c, hk, q1o C s (s / g) hs e]
    have e2 := q0H hg e
    by_cases p : s / g % 2 = 0
    · rw [if_pos p] at e2
      rw [p, if_neg (by simp), if_pos e2, c]
    · rw [if_neg p] at e2
      rw [show s / g % 2 = 1 by omega, if_pos (by simp), if_neg (by omega), if_pos e2]
      rfl
  · have hf : s % g ≠ f := fun h => c ((C.rest s hs).2 h)
    rw [if_neg c, if_neg (fun h => hf (Tu hg (.inl h))), if_neg (fun h => hf (Tu hg (.inr h)))]
theorem q2C {l : List Int} {x : Int} {g f : Nat} (C : Cyc l x g f) (h2 : 2 * g ∣ l.length) (last : Int) (hx : wrap64 (last + 1) ≠ x) (hn : ∀ s : Nat, s < l.length → rd l (s : Int) ≠ wrap64 (last + 1)) :
    Cyc (Ki x last 2 l 0) x (2 * g) f ∧ Cyc (Ki x last 2 l 0) (wrap64 (last + 1)) (2 * g) (f + g) ∧ ∀ (z : Int) (g2 f2 : Nat), z ≠ x → z ≠ wrap64 (last + 1) → Cyc l z g2 f2 → Cyc (Ki x last 2 l 0) z g2 f2 := by
  have hg := C.small
  have hl := Kr x last 2 l 0
  have hp := C.pos
  refine ⟨⟨by omega, by rw [hl]; exact h2, by omega, fun s hs => ?_⟩, ⟨by omega, by rw [hl]; exact h2, by omega, fun s hs => ?_⟩, fun z g2 f2 z1 z2 D => ⟨D.small, by rw [hl]; exact D.mult, by omega, fun s hs => ?_⟩⟩
  · rw [hl] at hs
    rw [Tv C last s hs]
    by_cases a : s % (2 * g) = f
    · rw [if_pos a]; exact ⟨fun _ => a, fun _ => rfl⟩
    · rw [if_neg a]
      by_cases b : s % (2 * g) = f + g
      · rw [if_pos b]; exact ⟨fun h => absurd h hx, fun h => absurd h a⟩
      · rw [if_neg b]
        refine ⟨fun h => ?_, fun h => absurd h a⟩
        exfalso
        have hf := (C.rest s hs).1 h
        have e : s = f + (s / g) * g := by have := Nat.mod_add_div s g; rw [Nat.mul_comm] at this; omega
        have e2 := q0H hg e
        split at e2
        · exact a e2
        · exact b e2
  · rw [hl] at hs
    rw [Tv C last s hs]
    by_cases a : s % (2 * g) = f
    · rw [if_pos a]; exact ⟨fun h => absurd h.symm hx, fun h => by omega⟩
    · rw [if_neg a]
      by_cases b : s % (2 * g) = f + g
      · rw [if_pos b]; exact ⟨fun _ => b, fun _ => rfl⟩
      · rw [if_neg b]; exact ⟨fun h => absurd h (hn s hs), fun h => absurd h b⟩
  · rw [hl] at hs
    rw [Tv C last s hs]
    by_cases a : s % (2 * g) = f
    · have hf := (C.rest s hs).2 (Tu hg (.inl a))
      rw [if_pos a, ← hf]; exact D.rest s hs
    · rw [if_neg a]
      by_cases b : s % (2 * g) = f + g
      · have hf := (C.rest s hs).2 (Tu hg (.inr b))
        rw [if_pos b]
        refine ⟨fun h => absurd h.symm z2, fun h => ?_⟩
        have := (D.rest s hs).2 h
        exact absurd (this.symm.trans hf) z1
      · rw [if_neg b]; exact D.rest s hs
def q2Z (l : List Int) : Int := l.foldl mx (-1)
theorem q2P (l : List Int) (hl : l.length ≤ 1048576) (h0 : 1 ≤ l.length) (hp : ∀ x ∈ l, -1 ≤ x) : Ev (fun k => Az.f k l) (q2Z l) := by
 unfold Az.f
 refine Ca (by omega) (Aq (by omega) ?_)
 cases l with
 | nil => simp at h0
 | cons y l =>
  have hy := hp y List.mem_cons_self
  have h1 := q2g (y :: l) hl y l.length 1 (by simp only [List.length_cons]; omega)
  have e0 : q2Z (y :: l) = (y :: l).foldl mx y := by
   simp only [q2Z, List.foldl_cons]
   rw [show mx (-1) y = y by unfold mx; split <;> omega, Ts]
  have e1 : ((y :: l).take 1).foldl mx y = y := by simp [Ts]
  rw [e1, ← e0] at h1
  exact h1
def Dl (l : List Int) : Bool := decide (1 ≤ (l.length : Int) ∧ (l.length : Int) ≤ 8) && l.all fun g => decide (1 ≤ g ∧ g ≤ 40)
theorem Nl (l : List Int) : Fj.f l = some (Dl l) := rfl
theorem Eo (l : List Int) : Dl l = true ↔ (1 ≤ l.length ∧ l.length ≤ 8) ∧ (∀ x ∈ l, 1 ≤ x ∧ x ≤ 40) := by
 unfold Dl
 rw [Bool.and_eq_true, List.all_eq_true, decide_eq_true_iff]
 simp only [decide_eq_true_iff]
 constructor
 ·
  rintro ⟨h1, h2⟩; exact ⟨by omega, h2⟩
 ·
  rintro ⟨h1, h2⟩; exact ⟨by omega, h2⟩
theorem q2d (l : List Int) (hl : l.length ≤ 1048576) : ∀ d n : Nat, n + d = l.length → (l.take n).all (fun g => decide (1 ≤ g ∧ g ≤ 40)) = true → Ev (fun k => Cb.l0 k (n : Int) l) (Dl l) := by
 intro d
 induction d with
 | zero =>
  intro n hn ha
  refine Ev.step (fun k => by rw [Cb.l0]) ?_
  refine Ca (by omega) (Ew (show Dt.f l = some (l.length : Int) from rfl) (Ew (Nk _ _ _) (Ly ?_)))
  rw [List.take_of_length_le (by omega)] at ha
  rw [Dl, ha, Bool.and_true]
 | succ d ih =>
  intro n hn ha
  have hlt : n < l.length := by omega
  refine Ev.step (fun k => by rw [Cb.l0]) (Aq (by omega) (Aq (by omega) (Ew (Nk _ _ _) ?_)))
  rw [Er hlt]
  cases hq : decide (1 ≤ l[n] ∧ l[n] ≤ 40) with
  | true =>
   refine Aq rfl ?_
   rw [Dj (by omega)]
   exact ih (n + 1) (by omega) (by rw [Qz _ _ _ hlt, ha, hq]; rfl)
  | false =>
   refine Ca (by simp) (Ly ?_)
   rw [Dl, Ru _ l n hlt hq, Bool.and_false]
theorem Qs (l : List Int) (hl : l.length ≤ 1048576) : Ev (fun k => Cb.f k l) (Dl l) := by
 unfold Cb.f
 exact q2d l hl l.length 0 (by omega) (by simp)
theorem Zd (G l : List Int) : Gv.f G l = some (if Dl G = true then (if Fm l (G.length : Int) = true then 0 else 2) else 1) := by
 unfold Gv.f
 rw [show Eb.f G = some (G.length : Int) from rfl, Option.bind_some, Rs, Option.bind_some]
 unfold Dg.f
 rw [Nl, Option.bind_some]
 cases Dl G <;> cases Fm l (G.length : Int) <;> rfl
def Mc (G l : List Int) : Bool × Int := if Dl G = true then (if Fm l (G.length : Int) = true then ((List.range' 0 G.length).all (Ng G l), 0) else (false, 2)) else (false, 1)
theorem Pn (G l : List Int) : Ev (fun k => Dy.f k G l) (Mc G l) := by
 unfold Dy.f Mc
 refine Ew (Zd G l) ?_
 cases ht : Dl G with
 | false => exact Ca (by simp) (Ds _)
 | true =>
  obtain ⟨h8, hG⟩ := (Eo G).1 ht
  cases hl : Fm l (G.length : Int) with
  | false => exact Ca (by simp) (Ds _)
  | true =>
   have := Nu hl
   exact Aq (by simp) (Ea (q1D G l (by omega) (by omega)) (Ds _))
theorem Rk {l : List Int} {m : Nat} (hm : m ≤ 1000) (h : 1 ≤ l.length ∧ l.length ≤ 120) (hx : ∀ x ∈ l, -1 ≤ x ∧ x < (m : Int)) : Fm l (m : Int) = true := by
 rw [Fm, decide_eq_true (by omega), Bool.true_and, List.all_eq_true]
 intro x hxl
 have := hx x hxl
 rw [Ek (x := (m : Int) - 1) (by omega) (by omega)]
 exact decide_eq_true (by omega)
theorem Xb (l : List Int) : Fm l 8 = true ↔ (1 ≤ l.length ∧ l.length ≤ 120) ∧ ∀ x ∈ l, -1 ≤ x ∧ x ≤ 7 := by
 refine ⟨fun h => ⟨Nu h, fun x hx => Pw h hx⟩, fun h => ?_⟩
 exact Rk (m := 8) (by omega) h.1 (fun x hx => by have := h.2 x hx; omega)
theorem q1K (l : List Int) (c : Nat) (hl : 1 ≤ l.length ∧ l.length ≤ 1024) (hc : 1 ≤ c ∧ c ≤ 1024) : Dr.f l (c : Int) = some (List.replicate c l).flatten := by
 unfold Dr.f
 by_cases h : l.length = 1
 ·
  rw [if_pos ⟨h, by omega, by omega⟩, Int.toNat_natCast]
  obtain ⟨x, rfl⟩ := List.length_eq_one_iff.1 h
  rw [List.flatten_replicate_singleton]
  rfl
 ·
  rw [if_neg (fun h2 => h h2.1), if_pos ⟨hl, by omega⟩, Int.toNat_natCast]
theorem q0c {G r : List Int} (ht : Dl G = true) (hr : Np G = some r) : (1 ≤ r.length ∧ r.length ≤ 40) ∧ Fm r (G.length : Int) = true ∧ Fm r 8 = true := by
 obtain ⟨h8, hG⟩ := (Eo G).1 ht
 obtain ⟨_, g1, g2⟩ := Lr hG h8.1
 have hl := Wh hr
 have hm := q1f hr
 refine ⟨by omega, Rk (by omega) (by omega) hm, (Xb r).2 ⟨by omega, fun x hx => by have := hm x hx; omega⟩⟩
theorem Nv (l : List Int) : ∀ (a c : Int), l.foldl mx a ≤ c ↔ (a ≤ c ∧ ∀ x ∈ l, x ≤ c) := by
 induction l with
 | nil => intro a c; simp
 | cons y l ih =>
  intro a c
  rw [List.foldl_cons, ih, List.forall_mem_cons]
  have : mx a y ≤ c ↔ (a ≤ c ∧ y ≤ c) := by unfold mx; split <;> omega
  rw [this]
  exact ⟨fun ⟨⟨a, b⟩, c⟩ => ⟨a, b, c⟩, fun ⟨a, b, c⟩ => ⟨⟨a, b⟩, c⟩⟩
theorem Qr {l : List Int} {i : Int} (hi : 0 ≤ i) (hm : i ∈ l) (a : Int) (ha : a ≤ i) : l.foldl mx a = great l := by
 have h1 := Qk l a
 have h2 := Mi hm
 have h3 := h1.2 i hm
 have a1 : l.foldl mx a ≤ great l := (Nv l a _).2 ⟨by omega, fun x hx => Mi hx⟩
 have a2 : great l ≤ l.foldl mx a := (Nv l 0 _).2 ⟨by omega, h1.2⟩
 omega
theorem Um {x : Int} : ∀ {l : List Int}, cnt x l ≠ 0 → x ∈ l
 | [], h => absurd rfl h
 | y :: l, h => by
  by_cases e : y = x
  ·
   rw [e]; exact List.mem_cons_self
  ·
   rw [cnt, if_neg e, Int.zero_add] at h
   exact List.mem_cons_of_mem _ (Um h)
def Ka (l : List Int) (i m : Int) : Nat := m.toNat / Nat.gcd (cnt i l).toNat m.toNat
def Ps (l : List Int) (i m : Int) : List Int × Int := if Fm l 8 = true ∧ (0 ≤ i ∧ i ≤ 7) ∧ (2 ≤ m ∧ m ≤ 8) then (if cnt i l = 0 then ([], 4) else if 8 ≤ great l + m - 1 then ([], 3) else if 120 < ((Ka l i m * l.length : Nat) : Int) then ([], 3) else (Ki i (great l) m (List.replicate (Ka l i m) l).flatten 0, 0)) else ([], 2)
theorem Tb {l : List Int} (ht : Fm l 8 = true) : 0 ≤ great l ∧ great l ≤ 7 := by
 have h1 := Qk l 0
 refine ⟨h1.1, (Nv l 0 7).2 ⟨by omega, fun x hx => (Pw ht hx).2⟩⟩
theorem Vf {l : List Int} {i m : Int} (hm : 2 ≤ m ∧ m ≤ 8) : 1 ≤ Ka l i m ∧ Ka l i m ≤ 8 := by
 have hg : 0 < Nat.gcd (cnt i l).toNat m.toNat := Nat.gcd_pos_of_pos_right _ (by omega)
 have hd := Nat.gcd_dvd_right (cnt i l).toNat m.toNat
 exact ⟨Nat.div_pos (Nat.le_of_dvd (by omega) hd) hg, Nat.le_trans (Nat.div_le_self _ _) (by omega)⟩
theorem Ph (l : List Int) (i m : Int) : Ev (fun k => Dm.f k l i m) (Ps l i m) := by
 unfold Dm.f Ps
 refine Ew (Rs l 8) ?_
 cases ht : Fm l 8 with
 | false => rw [if_neg (fun h => absurd h.1 (by simp))]; exact Ca (by simp) (Ds _)
 | true =>
  have hl := Nu ht
  have hg := Tb ht
  refine Aq rfl (Ew (Mp _ _ _) ?_)
  by_cases c1 : 0 ≤ i ∧ i ≤ 7
  ·
   refine Aq (decide_eq_true c1) (Ew (Mp _ _ _) ?_)
   by_cases c2 : 2 ≤ m ∧ m ≤ 8
   ·
    rw [if_pos ⟨rfl, c1, c2⟩]
    have hc := Pl i l
    refine Aq (decide_eq_true c2) (Ea (q1L l i (by omega)) (Ea (q2P l (by omega) hl.1 (fun x hx => (Pw ht hx).1)) ?_))
    by_cases c3 : cnt i l = 0
    ·
     rw [if_pos c3]; exact Aq c3 (Ds _)
    ·
     rw [if_neg c3]
     have hi := Um c3
     rw [show q2Z l = great l from Qr c1.1 hi (-1) (by omega)]
     have h8 := Vf (l := l) (i := i) c2
     have hb : Ka l i m * l.length ≤ 8 * 120 := Nat.mul_le_mul h8.2 hl.2
     have ed := Rp (cnt i l).toNat m.toNat
     rw [show (((cnt i l).toNat : Nat) : Int) = cnt i l by omega, show ((m.toNat : Nat) : Int) = m by omega] at ed
     have hg0 : 0 < Nat.gcd (cnt i l).toNat m.toNat := Nat.gcd_pos_of_pos_right _ (by omega)
     have et : wrap64 (Int.tdiv m ((Nat.gcd (cnt i l).toNat m.toNat : Nat) : Int)) = ((Ka l i m : Nat) : Int) := by
      have : Int.tdiv m ((Nat.gcd (cnt i l).toNat m.toNat : Nat) : Int) = ((Ka l i m : Nat) : Int) := by
       conv => lhs; rw [show m = ((m.toNat : Nat) : Int) by omega]
       exact Mu _ _
      rw [this, Kg (by omega)]
     refine Ca c3 (Ea ed (Ca (by omega) ?_))
     rw [et, Ek (x := great l + m) (by omega) (by omega), Ek (x := great l + m - 1) (by omega) (by omega), ← Int.natCast_mul, Kg (n := Ka l i m * l.length) (by omega)]
     by_cases c4 : 8 ≤ great l + m - 1
     ·
      exact q2i (Aq c4 (Ds _)) (by rw [if_pos c4])
     ·
      refine Ca c4 ?_
      by_cases c5 : 120 < ((Ka l i m * l.length : Nat) : Int)
      ·
       exact q2i (Aq c5 (Ds _)) (by rw [if_neg c4, if_pos c5])
      ·
       rw [show (if 8 ≤ great l + m - 1 then (([] : List Int), (3 : Int)) else if 120 < ((Ka l i m * l.length : Nat) : Int) then ([], 3) else (Ki i (great l) m (List.replicate (Ka l i m) l).flatten 0, 0)) = (Ki i (great l) m (List.replicate (Ka l i m) l).flatten 0, 0) by rw [if_neg c4, if_neg c5]]
       have hf : (List.replicate (Ka l i m) l).flatten.length = Ka l i m * l.length := by simp
       have h1 : 1 * 1 ≤ Ka l i m * l.length := Nat.mul_le_mul h8.1 hl.1
       exact Ca c5 (Ew (q1K l (Ka l i m) (by omega) (by omega)) (Aq (by omega) (Ds _)))
   ·
    rw [if_neg (fun h => c2 h.2.2)]
    exact Ca (by rw [decide_eq_false c2]; simp) (Ds _)
  ·
   rw [if_neg (fun h => c1 h.2.1)]
   exact Ca (by rw [decide_eq_false c1]; simp) (Ds _)
theorem q0X (x m y : Int) (l : List Int) (k : Int) : Md x m (y :: l) k = Md x m l (Md x m [y] k) := rfl
theorem Ue (l : List Int) (hl : l.length ≤ 120) (x m last t : Int) (hm : m ≠ 0) (R : List Int × Int) : ∀ d n : Nat, n + d = l.length → ∀ (O : List Int) (kk : Int), O.length + d ≤ 1000 →
    Ev (fun k => Aj.l1 k l x m last (wrap64 (t - 1)) (O ++ Ki x last m (l.drop n) kk) (Md x m (l.drop n) kk)) R → Ev (fun k => Aj.l2 k l x m last t O kk (n : Int)) R := by
  intro d
  induction d with
  | zero =>
    intro n hn O kk hO h
    rw [List.drop_of_length_le (by omega), Ki, Md, List.append_nil] at h
    exact Ev.step (fun k => by rw [Aj.l2]) (Ca (by omega) h)
  | succ d ih =>
    intro n hn O kk hO h
    have hlt : n < l.length := by omega
    rw [List.drop_eq_getElem_cons hlt, Wi, q0X, Yb] at h
    refine Ev.step (fun k => by rw [Aj.l2]) (Aq (by omega) (Aq (by omega) ?_))
    rw [Er hlt, Dj (by omega)]
    have go : ∀ (y kn : Int), y = (if l[n] = x then (if 0 < kk then wrap64 (last + kk) else l[n]) else l[n]) → kn = Md x m [l[n]] kk → Ev (fun k => Aj.l2 k l x m last t (O ++ [y]) kn ((n + 1 : Nat) : Int)) R := by
      intro y kn e1 e2
      refine ih (n + 1) (by omega) (O ++ [y]) kn (by rw [List.length_append, List.length_singleton]; omega) ?_
      rw [List.append_assoc, e1, e2]
      exact h
    by_cases c : l[n] = x
    · refine Aq c ?_
      by_cases d1 : kk > 0
      · exact Aq d1 (Ca hm (Aq (by omega) (go _ _ (by rw [if_pos c, if_pos d1]) (by rw [Md, if_pos c, Md]))))
      · exact Ca d1 (Ca hm (Aq (by omega) (go _ _ (by rw [if_pos c, if_neg d1]) (by rw [Md, if_pos c, Md]))))
    · exact Ca c (Aq (by omega) (go _ _ (by rw [if_neg c]) (by rw [Md, if_neg c, Md])))
theorem Tz (l : List Int) (hl : l.length ≤ 120) (x m last : Int) (hm : m ≠ 0) : ∀ (d : Nat) (O : List Int) (kk : Int), d ≤ 8 → O.length + d * l.length ≤ 1000 →
    Ev (fun k => Aj.l1 k l x m last (d : Int) O kk) (O ++ Ki x last m (List.replicate d l).flatten kk, 0) := by
  intro d
  induction d with
  | zero =>
    intro O kk _ _
    refine Ev.step (fun k => by rw [Aj.l1]) (Ca (by omega) ?_)
    rw [List.replicate_zero, List.flatten_nil, Ki, List.append_nil]
    exact Ds _
  | succ d ih =>
    intro O kk hd hO
    rw [Nat.succ_mul] at hO
    refine Ev.step (fun k => by rw [Aj.l1]) (Aq (by omega) ?_)
    refine Ue l hl x m last ((d + 1 : Nat) : Int) hm _ l.length 0 (by omega) O kk (by omega) ?_
    rw [List.drop_zero, Ek (by omega) (by omega), show ((d + 1 : Nat) : Int) - 1 = (d : Int) by omega, List.replicate_succ, List.flatten_cons, Nw, ← List.append_assoc]
    exact ih (O ++ Ki x last m l kk) (Md x m l kk) (by omega) (by rw [List.length_append, Kr]; omega)
theorem Ss (l : List Int) (hl0 : l.length ≤ 1048576) (i m : Int) : Ev (fun k => Aj.f k l i m) (Ps l i m) := by
 unfold Aj.f Ps
 refine Ea (Su l 8 (by omega)) ?_
 cases ht : Fm l 8 with
 | false => rw [if_neg (fun h => absurd h.1 (by simp))]; exact Ca (by simp) (Ev.step (fun k => by rw [Aj.j0]) (Aq rfl (Ds _)))
 | true =>
  have hl := Nu ht
  have hg := Tb ht
  refine Aq rfl (Ew (Nk _ _ _) ?_)
  by_cases c1 : 0 ≤ i ∧ i ≤ 7
  ·
   refine Aq (decide_eq_true c1) (Ew (Nk _ _ _) (Ev.step (fun k => by rw [Aj.j0]) ?_))
   by_cases c2 : 2 ≤ m ∧ m ≤ 8
   ·
    rw [if_pos ⟨rfl, c1, c2⟩, decide_eq_true c2]
    refine Ca (by simp) ?_
    have main : ∀ d n : Nat, n + d = l.length → Ev (fun k => Aj.l0 k l i m (cnt i (l.take n)) ((l.take n).foldl mx i) (n : Int)) (if cnt i l = 0 then ([], 4) else if 8 ≤ great l + m - 1 then ([], 3) else if 120 < ((Ka l i m * l.length : Nat) : Int) then ([], 3) else (Ki i (great l) m (List.replicate (Ka l i m) l).flatten 0, 0)) := by
     intro d
     induction d with
     | zero =>
      intro n hn
      rw [List.take_of_length_le (by omega)]
      refine Ev.step (fun k => by rw [Aj.l0]) (Ca (by omega) ?_)
      have hc := Pl i l
      by_cases c3 : cnt i l = 0
      ·
       rw [if_pos c3]; exact Aq c3 (Ds _)
      ·
       rw [if_neg c3]
       have hi := Um c3
       rw [Qr c1.1 hi i (by omega)]
       have h8 := Vf (l := l) (i := i) c2
       have hb : Ka l i m * l.length ≤ 8 * 120 := Nat.mul_le_mul h8.2 hl.2
       have ed := Wc (cnt i l).toNat m.toNat
       rw [show (((cnt i l).toNat : Nat) : Int) = cnt i l by omega, show ((m.toNat : Nat) : Int) = m by omega] at ed
       have hg0 : 0 < Nat.gcd (cnt i l).toNat m.toNat := Nat.gcd_pos_of_pos_right _ (by omega)
       have et : wrap64 (Int.tdiv m ((Nat.gcd (cnt i l).toNat m.toNat : Nat) : Int)) = ((Ka l i m : Nat) : Int) := by
        have : Int.tdiv m ((Nat.gcd (cnt i l).toNat m.toNat : Nat) : Int) = ((Ka l i m : Nat) : Int) := by
         conv => lhs; rw [show m = ((m.toNat : Nat) : Int) by omega]
         exact Mu _ _
        rw [this, Kg (by omega)]
       refine Ca c3 (Ea ed (Ca (by omega) ?_))
       rw [et, Ek (x := great l + m) (by omega) (by omega), Ek (x := great l + m - 1) (by omega) (by omega), ← Int.natCast_mul, Kg (n := Ka l i m * l.length) (by omega)]
       by_cases c4 : 8 ≤ great l + m - 1
       ·
        rw [if_pos c4]
        exact Aq (show great l + m - 1 ≥ 8 from c4) (Ev.step (fun k => by rw [Aj.j2]) (Aq rfl (Ds _)))
       ·
        rw [if_neg c4]
        refine Ca (show ¬ great l + m - 1 ≥ 8 from c4) (Ev.step (fun k => by rw [Aj.j2]) ?_)
        by_cases c5 : 120 < ((Ka l i m * l.length : Nat) : Int)
        ·
         rw [if_pos c5]; exact Aq (decide_eq_true c5) (Ds _)
        ·
         rw [if_neg c5]
         refine Ca (fun h => c5 (of_decide_eq_true h)) ?_
         have h := Tz l hl.2 i m (great l) (by omega) (Ka l i m) [] 0 h8.2 (by simp; omega)
         rw [List.nil_append] at h
         exact h
     | succ d ih =>
      intro n hn
      have hlt : n < l.length := by omega
      have hc := Pl i (l.take n)
      rw [List.length_take] at hc
      have ih := ih (n + 1) (by omega)
      rw [Rc _ _ _ hlt, List.take_succ_eq_append_getElem hlt, List.foldl_append] at ih
      refine Ev.step (fun k => by rw [Aj.l0]) (Aq (by omega) (Aq (by omega) ?_))
      rw [Er hlt, Dj (n := n) (by omega)]
      by_cases c : l[n] = i
      ·
       rw [if_pos c] at ih
       rw [Ek (x := cnt i (l.take n) + 1) (by omega) (by omega)]
       exact Aq c ih
      ·
       rw [if_neg c, Int.add_zero] at ih
       exact Ca c ih
    exact main l.length 0 (by omega)
   ·
    rw [if_neg (fun h => c2 h.2.2), decide_eq_false c2]
    exact Aq rfl (Ds _)
  ·
   rw [if_neg (fun h => c1 h.2.1)]
   exact Ca (by rw [decide_eq_false c1]; simp) (Ev.step (fun k => by rw [Aj.j0]) (Aq rfl (Ds _)))
def EvP {β : Type} (A : Nat → Option β) (P : β → Prop) : Prop := ∃ r, Ev A r ∧ P r
theorem Gc {β : Type} {P : β → Prop} {r : β} (h : P r) : EvP (fun _ => some r) P := ⟨r, Ev.now r, h⟩
theorem Uh {β : Type} {A : Nat → Option β} {P Q : β → Prop} (h : EvP A P) (k : ∀ r, P r → Q r) : EvP A Q := by
 obtain ⟨r, e, p⟩ := h; exact ⟨r, e, k r p⟩
theorem Fh {α β : Type} {g : Nat → Option α} {f : Nat → α → Option β} {Q : α → Prop} {P : β → Prop} (h : EvP g Q) (k : ∀ a, Q a → EvP (fun n => f n a) P) : EvP (fun n => (g n).bind (f n)) P := by
 obtain ⟨a, e, q⟩ := h
 obtain ⟨r, e2, p⟩ := k a q
 exact ⟨r, Ev.bind e e2, p⟩
theorem Lv {α β : Type} {g : Nat → Option α} {f : Nat → α → Option β} {a : α} {P : β → Prop} (h : Ev g a) (k : EvP (fun n => f n a) P) : EvP (fun n => (g n).bind (f n)) P := by
 obtain ⟨r, e2, p⟩ := k
 exact ⟨r, Ev.bind h e2, p⟩
theorem Lq {α β : Type} {g : Option α} {f : Nat → α → Option β} {a : α} {P : β → Prop} (h : g = some a) (k : EvP (fun n => f n a) P) : EvP (fun n => g.bind (f n)) P := by subst h; exact k
theorem Fi {β : Type} {c : Prop} [Decidable c] {A B : Nat → Option β} {P : β → Prop} (h : c) (k : EvP A P) : EvP (fun n => if c then A n else B n) P := by
 obtain ⟨r, e, p⟩ := k; exact ⟨r, Ev.congr (fun n => if_pos h) e, p⟩
theorem Lp {β : Type} {c : Prop} [Decidable c] {A B : Nat → Option β} {P : β → Prop} (h : ¬ c) (k : EvP B P) : EvP (fun n => if c then A n else B n) P := by
 obtain ⟨r, e, p⟩ := k; exact ⟨r, Ev.congr (fun n => if_neg h) e, p⟩
theorem Gz {β : Type} {c : Prop} [Decidable c] {A B : Nat → Option β} {P : β → Prop} (h1 : c → EvP A P) (h2 : ¬ c → EvP B P) : EvP (fun n => if c then A n else B n) P := by
  by_cases h : c
  · exact Fi h (h1 h)
  · exact Lp h (h2 h)
theorem Gj {β : Type} {g f : Nat → Option β} {P : β → Prop} (h : ∀ k, g (k + 1) = f k) (k : EvP f P) : EvP g P := by
 obtain ⟨r, e, p⟩ := k; exact ⟨r, Ev.step h e, p⟩
theorem Vh {A : Nat → Option Bool} (h : EvP A (fun r => r = true)) : Ev A true := by
 obtain ⟨r, e, p⟩ := h; subst p; exact e
theorem Zz {β : Type} {A : Nat → Option β} {P : β → Prop} {r : β} (h : Ev A r) (p : P r) : EvP A P := ⟨r, h, p⟩
theorem Sd (l : List Int) (hl : l.length < 17592186044416) : Fc.f l = some l := by
 unfold Fc.f
 simp only [Option.bind_some, List.nil_append, List.length_nil, Nat.zero_add]
 rw [if_pos hl]
theorem q2J (l : List Int) (hl : l.length < 17592186044416) : Fd.f l = some l := by
 unfold Fd.f
 rw [if_pos hl]
def Kp (b : List Int) : Prop := (∀ x ∈ b, 0 ≤ x ∧ x ≤ 255) ∧ b.length ≤ 4096
def Ok (b : List Int) (i : Int) : Prop := 0 ≤ i ∧ i ≤ (b.length : Int)
theorem q0E (x : Int) : 0 ≤ Go.bits .and .u64 x 16777215 ∧ Go.bits .and .u64 x 16777215 ≤ 16777215 := by
 have h : (BitVec.ofInt 64 x &&& BitVec.ofInt 64 16777215).toNat ≤ 16777215 := by
  rw [BitVec.toNat_and]
  exact Nat.le_trans Nat.and_le_right (by decide)
 show 0 ≤ IntKind.u64.wrap ((BitVec.ofInt 64 x &&& BitVec.ofInt 64 16777215).toNat : Int) ∧ IntKind.u64.wrap ((BitVec.ofInt 64 x &&& BitVec.ofInt 64 16777215).toNat : Int) ≤ 16777215
 generalize (BitVec.ofInt 64 x &&& BitVec.ofInt 64 16777215).toNat = n at h
 have e : IntKind.u64.wrap (n : Int) = (n : Int) := by
  show (n : Int) % 18446744073709551616 = (n : Int)
  omega
 rw [e]
 omega
theorem Uf {b : List Int} (hb : Kp b) {i : Int} (hi : Ok b i) (h n : Int) :
    ∃ v i2 h2, Bf.f b i h n = some (v, i2, h2) ∧ 0 ≤ v ∧ (1 ≤ n → v < n) ∧ (n < 1 → v = 0) ∧ Ok b i2 := by
  unfold Bf.f
  by_cases c : n < 1
  · rw [if_pos c]; exact ⟨_, _, _, rfl, by omega, fun _ => by omega, fun _ => rfl, hi⟩
  rw [if_neg c]
  have hy := q0E (IntKind.u64.wrap ((IntKind.u64.wrap (h * 6364136223846793005)) + 1442695040888963407) / 8589934592)
  generalize Go.bits .and .u64 (IntKind.u64.wrap ((IntKind.u64.wrap (h * 6364136223846793005)) + 1442695040888963407) / 8589934592) 16777215 = y at hy ⊢
  rw [Ek (x := y) (by omega) (by omega)]
  have hl := hb.2
  obtain ⟨h0, h1⟩ := hi
  by_cases d : i < (b.length : Int)
  · have hx := hb.1 _ (Fs (l := b) (i := i) h0 d)
    rw [if_pos d, if_pos h0, if_neg (by omega), Ek (x := rd b i) (by omega) (by omega), Ek (x := y + rd b i) (by omega) (by omega), Ek (x := i + 1) (by omega) (by omega)]
    exact ⟨_, _, _, rfl, Int.tmod_nonneg _ (by omega), fun _ => Int.tmod_lt_of_pos _ (by omega), fun h => absurd h c, by constructor <;> omega⟩
  · rw [if_neg d, if_neg (by omega)]
    exact ⟨_, _, _, rfl, Int.tmod_nonneg _ (by omega), fun _ => Int.tmod_lt_of_pos _ (by omega), fun h => absurd h c, ⟨h0, h1⟩⟩
theorem Gi {β : Type} {b : List Int} (hb : Kp b) {i : Int} (hi : Ok b i) {h n : Int} {f : Nat → Int × Int × Int → Option β} {P : β → Prop}
    (k : ∀ v i2 h2, 0 ≤ v → (1 ≤ n → v < n) → (n < 1 → v = 0) → Ok b i2 → EvP (fun m => f m (v, i2, h2)) P) : EvP (fun m => (Bf.f b i h n).bind (f m)) P := by
  obtain ⟨v, i2, h2, e, h1, h3, h4, h5⟩ := Uf hb hi h n
  exact Lq e (k v i2 h2 h1 h3 h4 h5)
theorem Ll {β : Type} {b : List Int} (hb : Kp b) {i : Int} (hi : Ok b i) {h : Int} {l : List Int} (hl : 1 ≤ l.length) {f : Nat → Int × Int × Int → Option β} {P : β → Prop}
    (k : ∀ v i2 h2, v ∈ l → Ok b i2 → EvP (fun m => f m (v, i2, h2)) P) : EvP (fun m => (Co.f b i h l).bind (f m)) P := by
  obtain ⟨v, i2, h2, e, h1, h3, h4, h5⟩ := Uf hb hi h (l.length : Int)
  refine Lq (a := (rd l v, i2, h2)) ?_ (k _ i2 h2 (Fs h1 (h3 (by omega))) h5)
  unfold Co.f
  rw [e, Option.bind_some, if_pos h1, if_pos (h3 (by omega))]
theorem Xw (b : List Int) (hl : b.length ≤ 4096) : EvP (fun k => Bj.f k b) (fun r => r.1 = b ∧ r.2.1 = 0) := by
 have main : ∀ d n : Nat, n + d = b.length → ∀ h : Int, EvP (fun k => Bj.l0 k b (n : Int) b 0 h) (fun r => r.1 = b ∧ r.2.1 = 0) := by
  intro d
  induction d with
  | zero =>
   intro n hn h
   exact Gj (fun k => by rw [Bj.l0]) (Lp (by omega) (Gc ⟨rfl, rfl⟩))
  | succ d ih =>
   intro n hn h
   refine Gj (fun k => by rw [Bj.l0]) (Fi (by omega) (Fi (by omega) (Fi (by omega) ?_)))
   rw [Dj (n := n) (by omega)]
   exact ih (n + 1) (by omega) _
 unfold Bj.f
 exact main b.length 0 (by omega) _
theorem Qn {β : Type} {b : List Int} (hb : Kp b) {f : Nat → List Int × Int × Int → Option β} {P : β → Prop}
    (k : ∀ h, EvP (fun m => f m (b, 0, h)) P) : EvP (fun m => (Bj.f m b).bind (f m)) P := by
  refine Fh (Xw b hb.2) ?_
  rintro ⟨b2, i, h⟩ ⟨h1, h2⟩
  cases h1; cases h2
  exact k h
theorem Qp (b : List Int) : Ok b 0 := by constructor <;> omega
theorem Xp {b : List Int} (hb : Kp b) (x1 x6 : Int) : ∀ (d : Nat) (l : List Int) (i h : Int), d ≤ 100000 → l.length + d ≤ 100000 → Ok b i →
    EvP (fun k => Bg.l0 k x1 l x6 (d : Int) b i h) (fun r => r.1.length = l.length + d ∧ Ok b r.2.1 ∧ ∀ x ∈ r.1, x ∈ l ∨ -1 ≤ x ∧ (x < x1 ∨ x ≤ 0)) := by
  intro d
  induction d with
  | zero =>
    intro l i h _ _ hi
    exact Gj (fun k => by rw [Bg.l0]) (Lp (by omega) (Gc ⟨rfl, hi, fun x hx => .inl hx⟩))
  | succ d ih =>
    intro l i h hd hl hi
    refine Gj (fun k => by rw [Bg.l0]) ?_
    refine Fi (by omega) (Gi hb hi fun v i2 h2 v0 v1 v2 hi2 => Gi hb hi2 fun u i3 h3 u0 u1 u2 hi3 => ?_)
    rw [Ek (x := ((d + 1 : Nat) : Int) - 1) (by omega) (by omega), show ((d + 1 : Nat) : Int) - 1 = (d : Int) by omega]
    have fin : ∀ z : Int, -1 ≤ z ∧ (z < x1 ∨ z ≤ 0) → EvP (fun k => Bg.l0 k x1 (l ++ [z]) x6 (d : Int) b i3 h3) (fun r => r.1.length = l.length + (d + 1) ∧ Ok b r.2.1 ∧ ∀ x ∈ r.1, x ∈ l ∨ -1 ≤ x ∧ (x < x1 ∨ x ≤ 0)) := fun z hz => by
      refine Uh (ih (l ++ [z]) i3 h3 (by omega) (by rw [List.length_append, List.length_singleton]; omega) hi3) ?_
      rintro r ⟨r1, r2, r3⟩
      rw [List.length_append, List.length_singleton] at r1
      refine ⟨by omega, r2, fun x hx => ?_⟩
      rcases r3 x hx with hx | hx
      · rcases List.mem_append.1 hx with hx | hx
        · exact .inl hx
        · rw [List.mem_singleton.1 hx]; exact .inr hz
      · exact .inr hx
    refine Gz (fun _ => Fi (by omega) (fin _ (by omega))) (fun _ => Fi (by omega) (fin _ ?_))
    show -1 ≤ v ∧ (v < x1 ∨ v ≤ 0)
    by_cases c : 1 ≤ x1
    · have := v1 c; omega
    · have := v2 (by omega); omega
theorem Rb {b : List Int} (hb : Kp b) {i : Int} (hi : Ok b i) (h x1 : Int) : EvP (fun k => Bg.f k b i h x1) (fun r => (1 ≤ r.1.length ∧ r.1.length ≤ 120) ∧ Ok b r.2.1 ∧ ∀ x ∈ r.1, -1 ≤ x ∧ (x < x1 ∨ x ≤ 0)) := by
 unfold Bg.f
 refine Ll hb hi (by decide) fun v i2 h2 hv hi2 => Ll hb hi2 (by decide) fun u i3 h3 hu hi3 => Gi hb hi3 fun t i4 h4 t0 t1 t2 hi4 => ?_
 have hu2 : 1 ≤ u ∧ u ≤ 120 := by simp at hu; omega
 have ht := t1 (by omega)
 obtain ⟨m, rfl⟩ : ∃ m : Nat, t = m := ⟨t.toNat, by omega⟩
 show EvP (fun k => Bg.l0 k x1 [] v (wrap64 (1 + (m : Int))) b i4 h4) _
 rw [Ek (by omega) (by omega), show 1 + (m : Int) = ((m + 1 : Nat) : Int) by omega]
 refine Uh (Xp hb x1 v (m + 1) [] i4 h4 (by omega) (by simp; omega) hi4) ?_
 rintro r ⟨r1, r2, r3⟩
 simp only [List.length_nil] at r1
 exact ⟨by omega, r2, fun x hx => by rcases r3 x hx with h | h; exact absurd h (by simp); exact h⟩
theorem q0j {b : List Int} (hb : Kp b) {i : Int} (hi : Ok b i) (h : Int) (m : Nat) (hm : m ≤ 1000) : EvP (fun k => Bx.f k b i h (m : Int)) (fun r => r.1.length = m ∧ Ok b r.2.1) := by
 have main : ∀ (d n : Nat) (l : List Int) (i h : Int), n + d = m → l.length = n → Ok b i → EvP (fun k => Bx.l0 k (m : Int) (n : Int) b i h l) (fun r => r.1.length = m ∧ Ok b r.2.1) := by
  intro d
  induction d with
  | zero =>
   intro n l i h hn hl hi
   exact Gj (fun k => by rw [Bx.l0]) (Lp (by omega) (Gc ⟨by show l.length = m; omega, hi⟩))
  | succ d ih =>
   intro n l i h hn hl hi
   refine Gj (fun k => by rw [Bx.l0]) ?_
   refine Fi (by omega) (Ll hb hi (by decide) fun v i2 h2 hv hi2 => Gi hb hi2 fun u i3 h3 u0 u1 u2 hi3 => Fi (by omega) ?_)
   rw [Dj (n := n) (by omega)]
   exact ih (n + 1) _ i3 h3 (by omega) (by rw [List.length_append, List.length_singleton]; omega) hi3
 unfold Bx.f
 exact main m 0 [] i h (by omega) rfl hi
theorem Rd {b : List Int} (hb : Kp b) (m : Nat) (hm : m ≤ 1000) (x5 : List Int) (h5 : x5.length ≤ 120) : ∀ (d n : Nat) (l : List Int) (i h : Int), n + d = m → l.length = n → Ok b i →
    EvP (fun k => Ah.l1 k (m : Int) x5 (n : Int) b i h l) (fun r => r.1.length = m ∧ r.2.1.length = x5.length ∧ Ok b r.2.2.1) := by
  intro d
  induction d with
  | zero =>
    intro n l i h hn hl hi
    exact Gj (fun k => by rw [Ah.l1]) (Lp (by omega) (Gc ⟨by show l.length = m; omega, rfl, hi⟩))
  | succ d ih =>
    intro n l i h hn hl hi
    have fin : ∀ x9 : Int, EvP (fun k => Ah.j3 k (m : Int) x5 (n : Int) x9 b i h l) (fun r => r.1.length = m ∧ r.2.1.length = x5.length ∧ Ok b r.2.2.1) := fun x9 => by
      refine Gj (fun k => by rw [Ah.j3]) ?_
      refine Gi hb hi fun v i2 h2 v0 v1 v2 hi2 => Gz (fun _ => Gi hb hi2 fun u i3 h3 u0 u1 u2 hi3 => Fi (by omega) ?_) (fun _ => Fi (by omega) ?_)
      · rw [Dj (n := n) (by omega)]
        exact ih (n + 1) _ i3 h3 (by omega) (by rw [List.length_append, List.length_singleton]; omega) hi3
      · rw [Dj (n := n) (by omega)]
        exact ih (n + 1) _ i2 h2 (by omega) (by rw [List.length_append, List.length_singleton]; omega) hi2
    refine Gj (fun k => by rw [Ah.l1]) (Fi (by omega) (Lv (Nm x5 n (by omega)) ?_))
    exact Gz (fun _ => fin _) (fun _ => fin _)
theorem Vy {b : List Int} (hb : Kp b) (m : Nat) (hm : m ≤ 1000) (N : Nat) (hN : N ≤ 120) : ∀ (d n : Nat) (l : List Int) (i h : Int), n + d = m → l.length = N → Ok b i →
    EvP (fun k => Ah.l0 k (m : Int) l (n : Int) b i h) (fun r => r.1.length = m ∧ r.2.1.length = N ∧ Ok b r.2.2.1) := by
  intro d
  induction d with
  | zero =>
    intro n l i h hn hl hi
    refine Gj (fun k => by rw [Ah.l0]) (Lp (by omega) (Gj (fun k => by rw [Ah.j1]) (Lp (by simp) ?_)))
    have := Rd hb m hm l (by omega) m 0 [] i h (by omega) rfl hi
    rw [hl] at this
    exact this
  | succ d ih =>
    intro n l i h hn hl hi
    refine Gj (fun k => by rw [Ah.l0]) (Fi (by omega) (Gj (fun k => by rw [Ah.j1]) ?_))
    by_cases c : (n : Int) < (l.length : Int)
    · rw [decide_eq_true c]
      refine Fi rfl (Lv (Nm l n (by omega)) ?_)
      refine Gz (fun _ => Fi (by omega) (Fi (by omega) ?_)) (fun _ => ?_)
      · rw [Dj (n := n) (by omega)]
        exact ih (n + 1) _ i h (by omega) (by rw [List.length_set]; exact hl) hi
      · rw [Dj (n := n) (by omega)]
        exact ih (n + 1) _ i h (by omega) hl hi
    · rw [decide_eq_false c]
      refine Lp (by simp) ?_
      have := Rd hb m hm l (by omega) m 0 [] i h (by omega) rfl hi
      rw [hl] at this
      exact this
theorem Qg {b : List Int} (hb : Kp b) {i : Int} (hi : Ok b i) (h : Int) : EvP (fun k => Ah.f k b i h) (fun r => (1 ≤ r.1.length ∧ r.1.length ≤ 8) ∧ (1 ≤ r.2.1.length ∧ r.2.1.length ≤ 120) ∧ Ok b r.2.2.1) := by
 unfold Ah.f
 refine Ll hb hi (by decide) fun v i2 h2 hv hi2 => Gi hb hi2 fun u i3 h3 u0 u1 u2 hi3 => ?_
 have hv2 : 1 ≤ v ∧ v ≤ 8 := by simp at hv; omega
 have hu := u1 (by omega)
 obtain ⟨m, rfl⟩ : ∃ m : Nat, u = m := ⟨u.toNat, by omega⟩
 show EvP (fun k => (Bg.f k b i3 h3 (wrap64 (1 + (m : Int)))).bind fun bt111 => (Ah.l0 k (wrap64 (1 + (m : Int))) bt111.1 0 b bt111.2.1 bt111.2.2)) _
 rw [Ek (by omega) (by omega), show 1 + (m : Int) = ((m + 1 : Nat) : Int) by omega]
 refine Fh (Rb hb hi3 h3 _) ?_
 rintro ⟨l, i4, h4⟩ ⟨r1, r2, r3⟩
 refine Uh (Vy hb (m + 1) (by omega) l.length r1.2 (m + 1) 0 l i4 h4 (by omega) rfl r2) ?_
 rintro r ⟨q1, q2, q3⟩
 have r1' : 1 ≤ l.length ∧ l.length ≤ 120 := r1
 exact ⟨by omega, by omega, q3⟩
theorem Ry {b : List Int} (hb : Kp b) {i : Int} (hi : Ok b i) (h : Int) : EvP (fun k => Du.f k b i h) (fun r => (1 ≤ r.1.length ∧ r.1.length ≤ 8) ∧ Ok b r.2.1) := by
 unfold Du.f
 refine Gi hb hi fun v i2 h2 v0 v1 v2 hi2 => Gz (fun _ => Fh (Qg hb hi2 h2) fun r hr => Gc ⟨hr.1, hr.2.2⟩) (fun _ => Ll hb hi2 (by decide) fun u i3 h3 hu hi3 => Gi hb hi3 fun t i4 h4 t0 t1 t2 hi4 => ?_)
 have hu2 : 1 ≤ u ∧ u ≤ 8 := by simp at hu; omega
 have ht := t1 (by omega)
 obtain ⟨m, rfl⟩ : ∃ m : Nat, t = m := ⟨t.toNat, by omega⟩
 show EvP (fun k => (Bx.f k b i4 h4 (wrap64 (1 + (m : Int)))).bind fun bt123 => some (bt123.1, bt123.2.1, bt123.2.2)) _
 rw [Ek (by omega) (by omega), show 1 + (m : Int) = ((m + 1 : Nat) : Int) by omega]
 refine Fh (q0j hb hi4 h4 (m + 1) (by omega)) fun r hr => Gc ⟨?_, hr.2⟩
 have := hr.1
 show 1 ≤ r.1.length ∧ r.1.length ≤ 8
 omega
theorem Mm {b : List Int} (hb : Kp b) {i : Int} (hi : Ok b i) (h : Int) (l : List Int) (hl : 1 ≤ l.length ∧ l.length ≤ 1000) : EvP (fun k => Bm.f k b i h l) (fun r => r.1.length ≤ 1000 ∧ Ok b r.2.1) := by
 have loop : ∀ (d : Nat) (x : List Int) (i h : Int), x.length ≤ 1000 → x.length + d ≥ 9 → Ok b i → EvP (fun k => Bm.l0 k b i h x) (fun r => r.1.length ≤ 1000 ∧ Ok b r.2.1) := by
  intro d
  induction d with
  | zero =>
   intro x i h hx h9 hi
   exact Gj (fun k => by rw [Bm.l0]) (Lp (by omega) (Gc ⟨hx, hi⟩))
  | succ d ih =>
   intro x i h hx h9 hi
   refine Gj (fun k => by rw [Bm.l0]) (Gz (fun c => Fi (by omega) ?_) (fun c => Gc ⟨hx, hi⟩))
   exact ih _ i h (by rw [List.length_append, List.length_singleton]; omega) (by rw [List.length_append, List.length_singleton]; omega) hi
 unfold Bm.f
 refine Lq (Sd l (by omega)) (Gi hb hi fun v i2 h2 v0 v1 v2 hi2 => Gz (fun _ => Gc ⟨by simp, hi2⟩) (fun _ => Gz (fun _ => ?_) (fun _ => Gz (fun _ => loop 9 l i2 h2 hl.2 (by omega) hi2) (fun _ => Gc ⟨hl.2, hi2⟩))))
 refine Lq (show Dt.f l = some (l.length : Int) from rfl) (Gi hb hi2 fun u i3 h3 u0 u1 u2 hi3 => Ll hb hi3 (by decide) fun t i4 h4 ht hi4 => Fi u0 (Fi (u1 (by omega)) (Gc ⟨?_, hi4⟩)))
 show (l.set _ _).length ≤ 1000
 rw [List.length_set]; omega
theorem q1C {b : List Int} (hb : Kp b) {i : Int} (hi : Ok b i) (h : Int) : EvP (fun k => Ft.f k b i h) (fun r => r.1.length ≤ 1000 ∧ Ok b r.2.1) := by
 unfold Ft.f
 exact Fh (Ry hb hi h) fun r hr => Fh (Mm hb hr.2 _ _ ⟨hr.1.1, by have := hr.1.2; omega⟩) fun q hq => Gc hq
theorem Rz {β : Type} {b : List Int} (hb : Kp b) {i : Int} (hi : Ok b i) {h : Int} {a : Int} {f : Nat → Int × Int × Int → Option β} {P : β → Prop}
    (k : ∀ v i2 h2, Ok b i2 → (v = -1 ∨ v = wrap64 (a + 1) ∨ v = 1099511627776 ∨ v = -4611686018427387904 ∨ (0 ≤ v ∧ (1 ≤ wrap64 (a + 1) → v < wrap64 (a + 1)) ∧ (wrap64 (a + 1) < 1 → v = 0))) → EvP (fun m => f m (v, i2, h2)) P) : EvP (fun m => (El.f b i h a).bind (f m)) P := by
  obtain ⟨v, i2, h2, e, h1, h3, h4, h5⟩ := Uf hb hi h 14
  by_cases c : v = 0
  · obtain ⟨u, i3, h6, e2, q1, q3, q4, q5⟩ := Uf hb h5 h2 (([(-1), wrap64 (a + 1), 1099511627776, (-4611686018427387904)] : List Int).length : Int)
    have hu : u < 4 := q3 (by show (1 : Int) ≤ 4; decide)
    refine Lq (a := (rd [(-1), wrap64 (a + 1), 1099511627776, (-4611686018427387904)] u, i3, h6)) ?_ (k _ i3 h6 q5 ?_)
    · unfold El.f
      rw [e, Option.bind_some, if_pos c]
      unfold Co.f
      rw [e2, Option.bind_some, if_pos q1, if_pos (show u < (([(-1), wrap64 (a + 1), 1099511627776, (-4611686018427387904)] : List Int).length : Int) from hu), Option.bind_some]
    · have hm := Fs (l := [(-1), wrap64 (a + 1), 1099511627776, (-4611686018427387904)]) q1 (show u < (([(-1), wrap64 (a + 1), 1099511627776, (-4611686018427387904)] : List Int).length : Int) from hu)
      simp only [List.mem_cons, List.mem_nil_iff, or_false] at hm
      rcases hm with h | h | h | h
      · exact .inl h
      · exact .inr (.inl h)
      · exact .inr (.inr (.inl h))
      · exact .inr (.inr (.inr (.inl h)))
  · obtain ⟨u, i3, h6, e2, q1, q3, q4, q5⟩ := Uf hb h5 h2 (wrap64 (a + 1))
    refine Lq (a := (u, i3, h6)) ?_ (k _ i3 h6 q5 (.inr (.inr (.inr (.inr ⟨q1, q3, q4⟩)))))
    unfold El.f
    rw [e, Option.bind_some, if_neg c, e2, Option.bind_some]
end Go.Proofs.YtliepcfgcglcmaaGreat.Pure
end
section
namespace Go.Proofs.YtliepcfgcglcmaaGreat.Pure
set_option linter.unusedVariables false
set_option linter.unusedSimpArgs false
theorem mem_of_mem_take {α : Type} {l : List α} {n : Nat} {x : α} (h : x ∈ l.take n) : x ∈ l := List.mem_of_mem_take h
end Go.Proofs.YtliepcfgcglcmaaGreat.Pure
end
section
namespace Go.Proofs.YtliepcfgcglcmaaGreat.Pure
open Go.RowKit Go.Proofs.YtliepcfgcglcmaaGreat.P Go.Proofs.YtliepcfgcglcmaaGreatW.PrintWords Go.Proofs.YtliepcfgcglcmaaGreatW.PrintLast Go.Proofs.YtliepcfgcglcmaaGreatW.PrintMore
set_option linter.unusedVariables false
set_option linter.unusedSimpArgs false
theorem Py {b : List Int} (hb : Kp b) {i : Int} (hi : Ok b i) (h : Int) (l : List Int) (hl : 1 ≤ l.length ∧ l.length ≤ 1000) : EvP (fun k => Br.f k b i h l) (fun r => r.1.length ≤ 1000 ∧ Ok b r.2.1) := by
 have loop : ∀ (d : Nat) (x : List Int) (i h : Int), x.length ≤ 1000 → x.length + d ≥ 121 → Ok b i → EvP (fun k => Br.l0 k x b i h) (fun r => r.1.length ≤ 1000 ∧ Ok b r.2.1) := by
  intro d
  induction d with
  | zero =>
   intro x i h hx h9 hi
   exact Gj (fun k => by rw [Br.l0]) (Lp (by omega) (Gc ⟨hx, hi⟩))
  | succ d ih =>
   intro x i h hx h9 hi
   refine Gj (fun k => by rw [Br.l0]) (Gz (fun c => Fi (by omega) ?_) (fun c => Gc ⟨hx, hi⟩))
   exact ih _ i h (by rw [List.length_append, List.length_singleton]; omega) (by rw [List.length_append, List.length_singleton]; omega) hi
 unfold Br.f
 refine Lq (Sd l (by omega)) (Gi hb hi fun v i2 h2 v0 v1 v2 hi2 => Gz (fun _ => Gc ⟨by simp, hi2⟩) (fun _ => Gz (fun _ => ?_) (fun _ => Gz (fun _ => loop 121 l i2 h2 hl.2 (by omega) hi2) (fun _ => Gc ⟨hl.2, hi2⟩))))
 refine Gi hb hi2 fun u i3 h3 u0 u1 u2 hi3 => Ll hb hi3 (by decide) fun t i4 h4 ht hi4 => Fi u0 (Fi (u1 (by omega)) (Gc ⟨?_, hi4⟩))
 show (l.set _ _).length ≤ 1000
 rw [List.length_set]; omega
theorem q3r (a b : Int) : Gq.f a b = some (decide (a < b)) := by
 unfold Gq.f Fr.f
 rw [Option.bind_some, bne_self_eq_false]
 rfl
def inG (G l : List Int) : Prop := ∀ x ∈ l, 0 ≤ x ∧ x < (G.length : Int)
theorem q1W (G l : List Int) (i : Int) (h0 : 0 ≤ i) (h : i < (l.length : Int)) : rd (l.map fun t => rd G t) i = rd G (rd l i) := by
 obtain ⟨n, rfl⟩ : ∃ n : Nat, i = n := ⟨i.toNat, by omega⟩
 rw [Er (by rw [List.length_map]; omega), Er (by omega), List.getElem_map]
theorem q0R (G l : List Int) (i : Nat) (x : Int) : (l.map fun t => rd G t).set i (rd G x) = (l.set i x).map fun t => rd G t := by
 rw [List.map_set]
theorem q1B {G : List Int} (hG : ∀ x ∈ G, 1 ≤ x ∧ x ≤ 40) {x y : Int} (hx : 0 ≤ x ∧ x < (G.length : Int)) (hy : 0 ≤ y ∧ y < (G.length : Int)) : Lx G x y < 0 ↔ rd G x < rd G y := by
 have h1 := hG _ (Fs hx.1 hx.2)
 have h2 := hG _ (Fs hy.1 hy.2)
 unfold Lx
 rw [Ek (by omega) (by omega)]
 omega
theorem q1J {G : List Int} (hG : ∀ x ∈ G, 1 ≤ x ∧ x ≤ 40) : ∀ k : Nat,
    (∀ (l : List Int) (a b i : Int) (r : List Int), inG G l → insF.l0 (Lx G) k l a b i = some r → Ac.l0 k (l.map fun t => rd G t) a b i = some (r.map fun t => rd G t)) ∧
    (∀ (l : List Int) (a b i j : Int) (r : List Int), inG G l → insF.l1 (Lx G) k l a b i j = some r → Ac.l1 k (l.map fun t => rd G t) a b i j = some (r.map fun t => rd G t)) := by
  intro k
  induction k with
  | zero => exact ⟨fun l a b i r _ h => by simp [insF.l0] at h, fun l a b i j r _ h => by simp [insF.l1] at h⟩
  | succ k ih =>
    obtain ⟨ih0, ih1⟩ := ih
    constructor
    · intro l a b i r hl h
      rw [insF.l0] at h
      rw [Ac.l0]
      by_cases c : i < b
      · rw [if_pos c] at h ⊢
        exact ih1 _ _ _ _ _ _ hl h
      · rw [if_neg c] at h ⊢
        rw [Option.some.inj h]
    · intro l a b i j r hl h
      rw [insF.l1] at h
      rw [Ac.l1, List.length_map]
      by_cases c : j > a
      · rw [if_pos c] at h ⊢
        by_cases c1 : 0 ≤ j
        · rw [if_pos c1] at h ⊢
          by_cases c2 : j < (l.length : Int)
          · rw [if_pos c2] at h ⊢
            by_cases c3 : 0 ≤ wrap64 (j - 1)
            · rw [if_pos c3] at h ⊢
              by_cases c4 : wrap64 (j - 1) < (l.length : Int)
              · rw [if_pos c4] at h ⊢
                have m1 := hl _ (Fs c1 c2)
                have m2 := hl _ (Fs c3 c4)
                have hlt := q1B hG m1 m2
                rw [q1W G l _ c1 c2, q1W G l _ c3 c4, q3r, Option.bind_some]
                by_cases c5 : Lx G (rd l j) (rd l (wrap64 (j - 1))) < 0
                · rw [if_pos c5] at h
                  rw [decide_eq_true (hlt.1 c5), if_pos rfl]
                  by_cases c6 : wrap64 (j - 1) ≠ j
                  · rw [if_pos c6] at h
                    rw [q0R, q0R]
                    refine ih1 _ _ _ _ _ _ ?_ h
                    intro x hx
                    rcases Zn hx with rfl | rfl | hx
                    · exact m2
                    · exact m1
                    · exact hl x hx
                  · rw [if_neg c6] at h
                    exact absurd h (by simp)
                · rw [if_neg c5] at h
                  rw [decide_eq_false (fun q => c5 (hlt.2 q)), if_neg (by simp)]
                  exact ih0 _ _ _ _ _ hl h
              · rw [if_neg c4] at h
                exact absurd h (by simp)
            · rw [if_neg c3] at h
              exact absurd h (by simp)
          · rw [if_neg c2] at h
            exact absurd h (by simp)
        · rw [if_neg c1] at h
          exact absurd h (by simp)
      · rw [if_neg c] at h ⊢
        exact ih0 _ _ _ _ _ hl h
theorem q3k {α β : Type} {f : Nat → Option α} {g : Nat → Option β} {r : α} {s : β} (h : Ev f r) (k : ∀ n, f n = some r → g n = some s) : Ev g s := by
 obtain ⟨K, hK⟩ := h
 exact ⟨K, fun n hn => k n (hK n hn)⟩
def Ma (G : List Int) : List Int := Qc G (La G G.length)
theorem Kq (G : List Int) : (Ma G).length = G.length := by
 unfold Ma Qc
 rw [List.length_map, Mx]
theorem Qq (G : List Int) (hG : ∀ x ∈ G, 1 ≤ x ∧ x ≤ 40) (h8 : 1 ≤ G.length ∧ G.length ≤ 8) : Ev (fun k => Ac.f k G 0 (G.length : Int)) (Ma G) := by
 have h := Ta G hG G.length (Nat.le_refl _) (by omega) (G.length - 1) 1 (by omega)
 have e : La G 1 ++ (List.range' 1 (G.length - 1)).map (fun (j : Nat) => (j : Int)) = (List.range' 0 G.length).map (fun (j : Nat) => (j : Int)) := by
  have := Rq 0 G.length (by omega)
  rw [Nat.sub_zero] at this
  rw [this]
  rfl
 rw [e] at h
 have hin : inG G ((List.range' 0 G.length).map fun (j : Nat) => (j : Int)) := fun x hx => by
  obtain ⟨j, hj, rfl⟩ := List.mem_map.1 hx
  have := List.mem_range'_1.1 hj
  omega
 have hmap : ((List.range' 0 G.length).map fun (j : Nat) => (j : Int)).map (fun t => rd G t) = G := by
  refine List.ext_getElem (by simp) fun i h1 h2 => ?_
  simp only [List.getElem_map, List.getElem_range', Nat.zero_add, Nat.one_mul]
  exact Er h2
 refine q3k h fun k hk => ?_
 unfold Ac.f
 have := (q1J hG k).1 _ _ _ _ _ hin hk
 rw [hmap] at this
 rw [Ek (x := 0 + 1) (by omega) (by omega)]
 exact this
def Uc (a b : List Int) : Nat → Nat → Bool
 | 0, _ => true
 | d + 1, i => if rd b (i : Int) < rd a (i : Int) then false else Uc a b d (i + 1)
def Pg (G H : List Int) : Bool × Int := if Dl G = true ∧ Dl H = true then (if (G.length : Int) < (H.length : Int) then (false, 0) else (Uc (Ma G) (Ma H) H.length 0, 0)) else (false, 1)
theorem Th (a b : List Int) (h : b.length ≤ a.length) (h8 : a.length ≤ 8) : ∀ d n : Nat, n + d = b.length → Ev (fun k => Dh.l0 k a b (n : Int)) (Uc a b d n, 0) := by
 intro d
 induction d with
 | zero =>
  intro n hn
  refine Ev.step (fun k => by rw [Dh.l0]) ?_
  exact Ca (by omega) (Ds _)
 | succ d ih =>
  intro n hn
  refine Ev.step (fun k => by rw [Dh.l0]) (Aq (by omega) (Aq (by omega) (Aq (by omega) ?_)))
  rw [Uc, Dj (by omega)]
  by_cases c : rd b (n : Int) < rd a (n : Int)
  ·
   rw [if_pos c]; exact Aq c (Ds _)
  ·
   rw [if_neg c]; exact Ca c (ih (n + 1) (by omega))
theorem Tp (a b : List Int) (h : b.length ≤ a.length) (h8 : a.length ≤ 8) : ∀ d n : Nat, n + d = b.length → Ev (fun k => Cn.l0 k (n : Int) a b) (Uc a b d n, 0) := by
 intro d
 induction d with
 | zero =>
  intro n hn
  refine Ev.step (fun k => by rw [Cn.l0]) ?_
  exact Ca (by omega) (Ds _)
 | succ d ih =>
  intro n hn
  refine Ev.step (fun k => by rw [Cn.l0]) (Aq (by omega) (Aq (by omega) (Aq (by omega) ?_)))
  rw [Uc, Dj (by omega)]
  by_cases c : rd b (n : Int) < rd a (n : Int)
  ·
   rw [if_pos c]; exact Aq c (Ds _)
  ·
   rw [if_neg c]; exact Ca c (ih (n + 1) (by omega))
theorem Xc (G H : List Int) : Ev (fun k => Dh.f k G H) (Pg G H) := by
 unfold Dh.f
 refine Ew (Nl G) ?_
 cases ht : Dl G with
 | false =>
  have e : Pg G H = (false, 1) := by rw [Pg, if_neg (fun q => by rw [ht] at q; exact absurd q.1 (by simp))]
  rw [e]
  exact Ca (by simp) (Ds _)
 | true =>
  refine Aq rfl (Ew (Nl H) ?_)
  cases hu : Dl H with
  | false =>
   have e : Pg G H = (false, 1) := by rw [Pg, if_neg (fun q => by rw [hu] at q; exact absurd q.2 (by simp))]
   rw [e]
   exact Ca (by simp) (Ds _)
  | true =>
   obtain ⟨h8, hG⟩ := (Eo G).1 ht
   obtain ⟨k8, hH⟩ := (Eo H).1 hu
   refine Aq rfl (Ew (show Eb.f G = some (G.length : Int) from rfl) (Ew (show Eb.f H = some (H.length : Int) from rfl) ?_))
   have e0 : Pg G H = (if (G.length : Int) < (H.length : Int) then (false, 0) else (Uc (Ma G) (Ma H) H.length 0, 0)) := by rw [Pg, if_pos ⟨ht, hu⟩]
   rw [e0]
   by_cases c : (G.length : Int) < (H.length : Int)
   ·
    rw [if_pos c]; exact Aq c (Ds _)
   ·
    rw [if_neg c]
    refine Ca c (Aq ⟨by omega, by omega⟩ (Ea (Qq G hG h8) (Ea (Qq H hH k8) ?_)))
    have h := Th (Ma G) (Ma H) (by rw [Kq, Kq]; omega) (by rw [Kq]; omega) H.length 0 (by rw [Kq]; omega)
    exact h
theorem Xf (G H : List Int) (hg : G.length ≤ 1048576) (hh : H.length ≤ 1048576) : Ev (fun k => Cn.f k G H) (Pg G H) := by
 unfold Cn.f
 refine Ea (Qs G hg) ?_
 cases ht : Dl G with
 | false =>
  have e : Pg G H = (false, 1) := by rw [Pg, if_neg (fun q => by rw [ht] at q; exact absurd q.1 (by simp))]
  rw [e]
  refine Ca (by simp) (Ev.step (fun k => by rw [Cn.j0]) ?_)
  exact Aq rfl (Ds _)
 | true =>
  refine Aq rfl (Ea (Qs H hh) ?_)
  refine Ev.step (fun k => by rw [Cn.j0]) ?_
  cases hu : Dl H with
  | false =>
   have e : Pg G H = (false, 1) := by rw [Pg, if_neg (fun q => by rw [hu] at q; exact absurd q.2 (by simp))]
   rw [e]
   exact Aq rfl (Ds _)
  | true =>
   obtain ⟨h8, hG⟩ := (Eo G).1 ht
   obtain ⟨k8, hH⟩ := (Eo H).1 hu
   refine Ca (by simp) (Ea (Rx G hG h8.2) (Ea (Rx H hH k8.2) ?_))
   have e0 : Pg G H = (if (G.length : Int) < (H.length : Int) then (false, 0) else (Uc (Ma G) (Ma H) H.length 0, 0)) := by rw [Pg, if_pos ⟨ht, hu⟩]
   rw [e0]
   have l1 := Kq G
   have l2 := Kq H
   by_cases c : (G.length : Int) < (H.length : Int)
   ·
    rw [if_pos c]; exact Aq (show ((Ma G).length : Int) < ((Ma H).length : Int) by omega) (Ds _)
   ·
    rw [if_neg c]
    refine Ca (show ¬ ((Ma G).length : Int) < ((Ma H).length : Int) by omega) ?_
    have h := Tp (Ma G) (Ma H) (by omega) (by omega) H.length 0 (by omega)
    exact h
def dbl (g : Int) : Nat → Int → Int
 | 0, n => n
 | f + 1, n => if 2 * n ≤ g then dbl g f (2 * n) else n
theorem q2v (g : Int) : ∀ (f : Nat) (n : Int), 1 ≤ n → n ≤ g → n ≤ dbl g f n ∧ dbl g f n ≤ g ∧ ∃ j : Nat, dbl g f n = n * ((2 ^ j : Nat) : Int) := by
 intro f
 induction f with
 | zero => intro n h1 h2; exact ⟨Int.le_refl _, h2, 0, by simp [dbl]⟩
 | succ f ih =>
  intro n h1 h2
  rw [dbl]
  by_cases c : 2 * n ≤ g
  ·
   rw [if_pos c]
   obtain ⟨a, b, j, e⟩ := ih (2 * n) (by omega) c
   exact ⟨by omega, b, j + 1, by rw [e, Nat.pow_succ, Int.natCast_mul, Int.mul_comm 2 n, Int.mul_assoc, Int.mul_comm ((2 ^ j : Nat) : Int)]; rfl⟩
  ·
   rw [if_neg c]
   exact ⟨Int.le_refl _, h2, 0, by simp⟩
def Kw (G : List Int) (x : Int) : List Int := G.map fun g => dbl g 40 x
theorem Nz (G : List Int) (x : Int) : (Kw G x).length = G.length := List.length_map _
theorem Uq {G : List Int} {x : Int} (hG : ∀ g ∈ G, 1 ≤ g ∧ g ≤ 40) (h1 : 1 ≤ x) (hx : ∀ g ∈ G, x ≤ g) : ∀ y ∈ Kw G x, (1 ≤ y ∧ y ≤ 40) ∧ ∃ j : Nat, y = x * ((2 ^ j : Nat) : Int) := fun y hy => by
 obtain ⟨g, hg, rfl⟩ := List.mem_map.1 hy
 have hg2 := hG g hg
 obtain ⟨a, b, j, e⟩ := q2v g 40 x h1 (hx g hg)
 exact ⟨by omega, j, e⟩
theorem Wy {G : List Int} {x : Int} (hG : ∀ g ∈ G, 1 ≤ g ∧ g ≤ 40) (h1 : 1 ≤ x) (hx : ∀ g ∈ G, x ≤ g) : ∀ y ∈ Kw G x, 1 ≤ y ∧ y ≤ 40 := fun y hy => (Uq hG h1 hx y hy).1
theorem q0S (x i j : Nat) (h : i ≤ j) : x * 2 ^ j % (x * 2 ^ i) = 0 := by
 apply Nat.mod_eq_zero_of_dvd
 exact Nat.mul_dvd_mul (Nat.dvd_refl _) (Nat.pow_dvd_pow 2 h)
theorem We {G : List Int} {x : Int} (hG : ∀ g ∈ G, 1 ≤ g ∧ g ≤ 40) (h1 : 1 ≤ x) (hx : ∀ g ∈ G, x ≤ g) : Pz (Kw G x) = true := by
 unfold Pz
 rw [List.all_eq_true]
 intro a ha
 rw [List.all_eq_true]
 intro b hb
 obtain ⟨⟨a1, a2⟩, i, ea⟩ := Uq hG h1 hx a ha
 obtain ⟨⟨b1, b2⟩, j, eb⟩ := Uq hG h1 hx b hb
 rw [Wk a1 b1]
 obtain ⟨n, rfl⟩ : ∃ n : Nat, x = n := ⟨x.toNat, by omega⟩
 rw [← Int.natCast_mul] at ea eb
 rw [ea, eb, Kz, Kz]
 rcases Nat.le_total i j with h | h
 ·
  right; rw [q0S n i j h]; rfl
 ·
  left; rw [q0S n j i h]; rfl
theorem Zo (G : List Int) (x g : Int) (hg : g ≤ 40) (i : Nat) (out R : List Int) (hi : i ≤ 1000) (ho : out.length ≤ 1000) : ∀ (f : Nat) (n : Int), 1 ≤ n → n ≤ g → g < n + f →
    Ev (fun k => Bd.l0 k x G (G.length : Int) ((i + 1 : Nat) : Int) (out ++ [dbl g f n])) R →
    Ev (fun k => Bd.l1 k x g n G (G.length : Int) (i : Int) out) R := by
  intro f
  induction f with
  | zero => intro n h1 h2 h3; omega
  | succ f ih =>
    intro n h1 h2 h3 hR
    rw [dbl] at hR
    refine Ev.step (fun k => by rw [Bd.l1]) ?_
    rw [Ek (x := 2 * n) (by omega) (by omega), Ek (x := n * 2) (by omega) (by omega), Dj (n := i) (by omega)]
    by_cases c : 2 * n ≤ g
    · rw [if_pos c] at hR
      rw [Int.mul_comm n 2]
      exact Aq c (ih (2 * n) (by omega) c (by omega) hR)
    · rw [if_neg c] at hR
      exact Ca c (Aq (by omega) hR)
theorem Yy (G : List Int) (hG : ∀ g ∈ G, 1 ≤ g ∧ g ≤ 40) (h8 : G.length ≤ 8) (x : Int) (h1 : 1 ≤ x) (hx : ∀ g ∈ G, x ≤ g) : Ev (fun k => Bd.f k G x) (Kw G x) := by
 have main : ∀ d n : Nat, n + d = G.length → Ev (fun k => Bd.l0 k x G (G.length : Int) (n : Int) (Kw (G.take n) x)) (Kw G x) := by
  intro d
  induction d with
  | zero =>
   intro n hn
   rw [List.take_of_length_le (by omega)]
   exact Ev.step (fun k => by rw [Bd.l0]) (Ca (by omega) (Ds _))
  | succ d ih =>
   intro n hn
   have hlt : n < G.length := by omega
   have hg := hG _ (List.getElem_mem hlt)
   have hxg := hx _ (List.getElem_mem hlt)
   have ih := ih (n + 1) (by omega)
   have e : Kw (G.take (n + 1)) x = Kw (G.take n) x ++ [dbl G[n] 40 x] := by
    rw [List.take_succ_eq_append_getElem hlt, Kw, List.map_append]; rfl
   rw [e] at ih
   have hl : (Kw (G.take n) x).length ≤ 8 := by rw [Nz, List.length_take]; omega
   refine Ev.step (fun k => by rw [Bd.l0]) ?_
   rw [Er hlt]
   exact Aq (by omega) (Aq (by omega) (Aq (by omega) (Zo G x _ hg.2 n _ _ (by omega) (by omega) 40 x h1 hxg (by omega) ih)))
 unfold Bd.f
 exact main G.length 0 (by omega)
def Lw : List Int → Int
 | [] => 0
 | y :: l => l.foldl mn y
theorem q2k (l : List Int) : ∀ (a x : Int), x ≤ l.foldl mn a ↔ (x ≤ a ∧ ∀ g ∈ l, x ≤ g) := by
 induction l with
 | nil => intro a x; simp
 | cons y l ih =>
  intro a x
  rw [List.foldl_cons, ih, List.forall_mem_cons]
  have : x ≤ mn a y ↔ (x ≤ a ∧ x ≤ y) := by unfold mn; split <;> omega
  rw [this]
  exact ⟨fun ⟨⟨a, b⟩, c⟩ => ⟨a, b, c⟩, fun ⟨a, b, c⟩ => ⟨⟨a, b⟩, c⟩⟩
theorem Sn {l : List Int} (h : 1 ≤ l.length) (x : Int) : x ≤ Lw l ↔ ∀ g ∈ l, x ≤ g := by
 cases l with
 | nil => simp at h
 | cons y l => rw [Lw, q2k, List.forall_mem_cons]
theorem q2Y (l : List Int) (hl : l.length ≤ 1048576) (a : Int) : ∀ d n : Nat, n + d = l.length →
    Ev (fun k => Ba.l0 k l ((l.take n).foldl mn a) (n : Int)) (l.foldl mn a) := by
  intro d
  induction d with
  | zero =>
    intro n hn
    rw [List.take_of_length_le (by omega)]
    exact Ev.step (fun k => by rw [Ba.l0]) (Ca (by omega) (Ds _))
  | succ d ih =>
    intro n hn
    have hlt : n < l.length := by omega
    refine Ev.step (fun k => by rw [Ba.l0]) (Aq (by omega) (Aq (by omega) ?_))
    rw [Er hlt, Dj (by omega)]
    have ih := ih (n + 1) (by omega)
    rw [List.take_succ_eq_append_getElem hlt, List.foldl_append] at ih
    exact ih
theorem q2n (l : List Int) (hl : l.length ≤ 1048576) (h0 : 1 ≤ l.length) : Ev (fun k => Ba.f k l) (Lw l) := by
 unfold Ba.f
 refine Ca (by omega) (Aq (by omega) ?_)
 cases l with
 | nil => simp at h0
 | cons y l =>
  have h1 := q2Y (y :: l) hl y l.length 1 (by simp only [List.length_cons]; omega)
  have es : mn y y = y := by unfold mn; split <;> rfl
  have e0 : Lw (y :: l) = (y :: l).foldl mn y := by rw [Lw, List.foldl_cons, es]
  have e1 : ((y :: l).take 1).foldl mn y = y := by simp [es]
  rw [e1, ← e0] at h1
  exact h1
theorem q1h {G : List Int} (hG : ∀ x ∈ G, 1 ≤ x ∧ x ≤ 40) (h8 : 1 ≤ G.length ∧ G.length ≤ 8) {x : Int} (h1 : 1 ≤ x) (hx : ∀ g ∈ G, x ≤ g) :
    Ev (fun k => Dx.f k (Kw G x)) (Np (Kw G x)).isSome ∧ (∀ r, Np (Kw G x) = some r → Ev (fun k => Aw.f k (Kw G x)) r) := by
  have hh := We hG h1 hx
  have hm := Wy hG h1 hx
  have hl : 1 ≤ (Kw G x).length ∧ (Kw G x).length ≤ 8 := by rw [Nz]; exact h8
  have hn := q0q _ hm hl hh
  refine ⟨q2i (q1i _ hm hl hh) ?_, fun r hr => Zu _ hm hl hh r hr⟩
  cases hr : Np (Kw G x) with
  | none => rw [Option.isSome_none]; exact decide_eq_false (hn.1 hr)
  | some r =>
    rw [Option.isSome_some]
    refine decide_eq_true ?_
    by_cases c : Ky (great (Kw G x)).toNat (Kw G x) ≤ (great (Kw G x)).toNat
    · exact c
    · exact absurd (hn.2 c) (by rw [hr]; simp)
theorem Qb (G : List Int) : Dg.f G true = some (if Dl G = true then 0 else 1) := by
 unfold Dg.f
 rw [Nl, Option.bind_some]
 cases Dl G <;> rfl
def Zy (G : List Int) : Nat → Int → List Int × Int × Int
 | 0, _ => ([], 0, 4)
 | f + 1, x => if x ≤ Lw G then (match Np (Kw G x) with | some r => (r, x, 0) | none => Zy G f (x + 1)) else ([], 0, 4)
def Si (G : List Int) : List Int × Int × Int := if Dl G = true then Zy G 41 1 else ([], 0, 1)
theorem q1t {G : List Int} (h1 : 1 ≤ G.length) (hG : ∀ x ∈ G, 1 ≤ x ∧ x ≤ 40) : Lw G ≤ 40 := by
 have := (Sn h1 (Lw G)).1 (Int.le_refl _) _ (List.getElem_mem (l := G) (n := 0) (by omega))
 have := (hG _ (List.getElem_mem (l := G) (n := 0) (by omega))).2
 omega
theorem Yx (G : List Int) (hG : ∀ x ∈ G, 1 ≤ x ∧ x ≤ 40) (h8 : 1 ≤ G.length ∧ G.length ≤ 8) : ∀ (f : Nat) (x : Int), 1 ≤ x → x + f = 42 → 1 ≤ f →
    Ev (fun k => Ci.l0 k x G) (Zy G f x) := by
  have hle := q1t h8.1 hG
  intro f
  induction f with
  | zero => intro x _ _ h; omega
  | succ f ih =>
    intro x h1 h2 _
    rw [Zy]
    refine Ev.step (fun k => by rw [Ci.l0]) (Ea (q2n G (by omega) h8.1) ?_)
    by_cases c : x ≤ Lw G
    · have hx := (Sn h8.1 x).1 c
      obtain ⟨h3, h4⟩ := q1h hG h8 h1 hx
      rw [if_pos c]
      refine Aq c (Ea (Yy G hG h8.2 x h1 hx) (Ea h3 ?_))
      cases hr : Np (Kw G x) with
      | none =>
        rw [Ek (x := x + 1) (by omega) (by omega)]
        exact Ca (by simp) (ih (x + 1) (by omega) (by omega) (by omega))
      | some r => exact Aq rfl (Ea (h4 r hr) (Ds _))
    · rw [if_neg c]
      exact Ca c (Ds _)
theorem Tm (G : List Int) : Ev (fun k => Ci.f k G) (Si G) := by
 unfold Ci.f Si
 refine Ew (Qb G) ?_
 cases ht : Dl G with
 | false => exact Ca (by simp) (Ds _)
 | true =>
  obtain ⟨h8, hG⟩ := (Eo G).1 ht
  rw [if_pos rfl, if_pos rfl]
  exact Aq rfl (Yx G hG h8 41 1 (by omega) (by omega) (by omega))
def Rv (G : List Int) : List Int × List Int × Int := if Dl G = true then (Ma G, La G G.length, 0) else ([], [], 1)
theorem Qi (G : List Int) : Ev (fun k => Et.f k G) (Rv G) := by
 unfold Et.f
 refine Ew (Qb G) ?_
 cases ht : Dl G with
 | false =>
  have e : Rv G = ([], [], 1) := by rw [Rv, if_neg (fun q => by rw [ht] at q; exact absurd q (by simp))]
  rw [e]
  exact Ca (by simp) (Ds _)
 | true =>
  obtain ⟨h8, hG⟩ := (Eo G).1 ht
  have e : Rv G = (Ma G, La G G.length, 0) := by rw [Rv, if_pos ht]
  rw [e]
  exact Aq rfl (Aq (by omega) (Ea (Qq G hG h8) (Ea (Yc G hG h8) (Ds _))))
theorem q1H {G : List Int} (hG : ∀ x ∈ G, 1 ≤ x ∧ x ≤ 40) (h8 : G.length ≤ 8) (n : Nat) : 1 ≤ Mt 1 (G.take n) ∧ Mt 1 (G.take n) ≤ 167961600000000 := by
 have h1 := Yp 1 (by omega) (G.take n) (fun x hx => (hG x (List.mem_of_mem_take hx)).1)
 have h2 := Yv (l := G.take n) (fun x hx => by have := hG x (List.mem_of_mem_take hx); omega) (by rw [List.length_take]; omega)
 omega
def Mg (G : List Int) (i j : Int) : Int := Int.tdiv (mn (rd G i) (rd G j)) 2
def Nf (G : List Int) (i j : Int) : List Int := (G.set i.toNat (Mg G i j)).take j.toNat ++ (G.set i.toNat (Mg G i j)).drop (j + 1).toNat
def Mo (G : List Int) (i j : Int) : List Int × Int := if Dl G = true then (if 0 ≤ i ∧ i < j ∧ j < (G.length : Int) then (if rd G i = 1 ∨ rd G j = 1 then ([], 5) else (Nf G i j, 0)) else ([], 2)) else ([], 1)
theorem Zk (G : List Int) (a : Int) (hl : G.length ≤ 1048576) : Ey.f G a = some (decide (0 ≤ a ∧ a < (G.length : Int))) := by
 unfold Ey.f
 rw [show Eb.f G = some (G.length : Int) from rfl, Option.bind_some, Mp, Option.bind_some, Ek (by omega) (by omega)]
 congr 1
 exact decide_eq_decide.2 (by omega)
theorem Pc (G : List Int) (b : Bool) : Dg.f G b = some (if Dl G = true then (if b = true then 0 else 2) else 1) := by
 unfold Dg.f
 rw [Nl, Option.bind_some]
 cases Dl G <;> cases b <;> rfl
theorem Uo {G : List Int} (hG : ∀ x ∈ G, 1 ≤ x ∧ x ≤ 40) {i j : Int} (hi : 0 ≤ i ∧ i < (G.length : Int)) (hj : 0 ≤ j ∧ j < (G.length : Int)) : (0 ≤ Mg G i j ∧ Mg G i j ≤ 20) ∧ wrap64 (Mg G i j) = Mg G i j ∧ 2 * Mg G i j ≤ rd G i ∧ 2 * Mg G i j ≤ rd G j ∧ (rd G i ≠ 1 → rd G j ≠ 1 → 1 ≤ Mg G i j) := by
 have h1 := hG _ (Fs (l := G) (i := i) hi.1 hi.2)
 have h2 := hG _ (Fs (l := G) (i := j) hj.1 hj.2)
 unfold Mg
 have hm : 1 ≤ mn (rd G i) (rd G j) ∧ mn (rd G i) (rd G j) ≤ rd G i ∧ mn (rd G i) (rd G j) ≤ rd G j ∧ (mn (rd G i) (rd G j) = rd G i ∨ mn (rd G i) (rd G j) = rd G j) := by
  unfold mn; split <;> omega
 obtain ⟨n, hn⟩ : ∃ n : Nat, mn (rd G i) (rd G j) = n := ⟨(mn (rd G i) (rd G j)).toNat, by omega⟩
 rw [hn] at hm ⊢
 rw [show (2 : Int) = ((2 : Nat) : Int) from rfl, Mu]
 refine ⟨by omega, Kg (by omega), ?_, ?_, fun a b => ?_⟩ <;> omega
theorem q2e (X : List Int) (j : Int) (h0 : 0 ≤ j) (h1 : j < (X.length : Int)) (hl : X.length ≤ 1048576) : Ee.f X j (wrap64 (j + 1)) = some (X.take j.toNat ++ X.drop (j + 1).toNat) := by
 unfold Ee.f
 rw [Ek (by omega) (by omega), if_pos (by omega)]
theorem Tw {G : List Int} {i j : Int} (ht : Dl G = false) : Mo G i j = ([], 1) := by rw [Mo, if_neg (by rw [ht]; simp)]
theorem Tr {G : List Int} {i j : Int} (ht : Dl G = true) (h : ¬ (0 ≤ i ∧ i < j ∧ j < (G.length : Int))) : Mo G i j = ([], 2) := by rw [Mo, if_pos ht, if_neg h]
theorem Sc {G : List Int} {i j : Int} (ht : Dl G = true) (h : 0 ≤ i ∧ i < j ∧ j < (G.length : Int)) (h5 : rd G i = 1 ∨ rd G j = 1) : Mo G i j = ([], 5) := by rw [Mo, if_pos ht, if_pos h, if_pos h5]
theorem Xd {G : List Int} {i j : Int} (ht : Dl G = true) (h : 0 ≤ i ∧ i < j ∧ j < (G.length : Int)) (h5 : ¬ (rd G i = 1 ∨ rd G j = 1)) : Mo G i j = (Nf G i j, 0) := by rw [Mo, if_pos ht, if_pos h, if_neg h5]
end Go.Proofs.YtliepcfgcglcmaaGreat.Pure
end
