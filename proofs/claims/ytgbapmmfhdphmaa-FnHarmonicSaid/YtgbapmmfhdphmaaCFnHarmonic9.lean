/- Lessened gaps are at most the gaps, harmonic turns serve their tasks, and turns by powers and by one number serve. -/
import Derived.Test.YtgbapmmfhdphmaaCFnHarmonic8
section
namespace Go.Proofs.Ytgbapmmfhdphmaa.P
open Go.RowKit Go.Proofs.YtgbapmmfhdphmaaW.PrintWords Go.Proofs.YtgbapmmfhdphmaaW.PrintLast Go.Proofs.YtgbapmmfhdphmaaW.PrintMore
attribute [local go_sem] max2_int min2_int max_two min_two max_three min_three max_four min_four   -- for this text's walks alone
set_option linter.unusedVariables false
set_option linter.unusedSimpArgs false
/-- THE ONE PURE STATEMENT of laws_FnHarmonic: yours. -/
def laws_FnHarmonic.Pure : Prop := ∀ (l0 : List Int), l0.length ≤ maxLen → l0.length * 1 ≤ 140737488351232 → (∀ x ∈ l0, (Lit.int .u8 x).wf = true) → ∃ k, laws_FnHarmonic.f k l0 = some true
theorem laws_FnHarmonic.walk (P : laws_FnHarmonic.Pure) (a0 : Option Addr) (len0 cap0 : Nat) (z0 : List Int) (w : World) (w0 : (a0 = none ∧ len0 = 0 ∧ cap0 = 0 ∧ z0 = []) ∨ ∃ x, a0 = some x ∧ len0 ≤ cap0 ∧ cap0 ≤ maxLen ∧ z0.length = cap0 ∧ (∀ i, i < z0.length → w.cell? (x.add i) = some (.int .u8 (z0.getD i 0))) ∧ ∀ n ∈ z0, (Lit.int .u8 n).wf = true) (y0 : len0 * 1 ≤ 140737488351232) :
    Calls Try.prog 3 #[.slice a0 len0 cap0] w fun e w' => e = .returned (.bool true) ∧ Below w.heap.size w w' := by
 obtain ⟨l0, rfl, hr0, hm0, hw0, hc0⟩ := ReadsInt.ofRowC w0
 obtain ⟨k, h⟩ := P l0 hm0 y0 hw0
 refine (laws_FnHarmonic.calls k _ _ l0 true w (Kd.C_of_reads (d := (0 : Int)) (h1 := fun _ => rfl) hr0) hc0 h).mono ?_
 rintro e w' ⟨rfl, hd⟩
 exact ⟨rfl, hd⟩
end Go.Proofs.Ytgbapmmfhdphmaa.P
end
section
namespace Go.Proofs.Ytgbapmmfhdphmaa.Pure
open Go.RowKit Go.Proofs.Ytgbapmmfhdphmaa.P Go.Proofs.YtgbapmmfhdphmaaW.PrintWords Go.Proofs.YtgbapmmfhdphmaaW.PrintLast Go.Proofs.YtgbapmmfhdphmaaW.PrintMore
set_option linter.unusedVariables false
set_option linter.unusedSimpArgs false
theorem l01In_f (n lo hi : Int) : spec_l01In.f n lo hi = some (decide (lo ≤ n ∧ n ≤ hi)) := by
  unfold spec_l01In.f
  by_cases h : n ≥ lo
  · rw [if_pos h]; simp [show lo ≤ n from h]
  · rw [if_neg h]; simp [show ¬ lo ≤ n from h]
theorem all_take_succ {α : Type} (p : α → Bool) (l : List α) (n : Nat) (h : n < l.length) : (l.take (n + 1)).all p = ((l.take n).all p && p l[n]) := by
  rw [List.take_succ_eq_append_getElem h, List.all_append]; simp
theorem all_false_at {α : Type} (p : α → Bool) (l : List α) (n : Nat) (h : n < l.length) (hp : p l[n] = false) : l.all p = false := by
  rw [Bool.eq_false_iff]
  intro ha
  rw [List.all_eq_true] at ha
  rw [ha _ (List.getElem_mem h)] at hp
  cases hp
end Go.Proofs.Ytgbapmmfhdphmaa.Pure
end
section
namespace Go.Proofs.Ytgbapmmfhdphmaa.Pure
open Go.RowKit Go.Proofs.Ytgbapmmfhdphmaa.P Go.Proofs.YtgbapmmfhdphmaaW.PrintWords Go.Proofs.YtgbapmmfhdphmaaW.PrintLast Go.Proofs.YtgbapmmfhdphmaaW.PrintMore
set_option linter.unusedVariables false
set_option linter.unusedSimpArgs false
theorem ev_pos {α : Type} {c : Prop} [Decidable c] {A B : Nat → Option α} {r : α} (h : c) (e : Ev A r) : Ev (fun n => if c then A n else B n) r := Ev.congr (fun n => if_pos h) e
theorem ev_neg {α : Type} {c : Prop} [Decidable c] {A B : Nat → Option α} {r : α} (h : ¬ c) (e : Ev B r) : Ev (fun n => if c then A n else B n) r := Ev.congr (fun n => if_neg h) e
theorem ev_now {α : Type} (r : α) : Ev (fun _ => some r) r := Ev.now r
theorem ev_is {α : Type} {g : Option α} {r : α} (h : g = some r) : Ev (fun _ => g) r := by subst h; exact Ev.now r
theorem ev_bind {α β : Type} {g : Nat → Option α} {f : Nat → α → Option β} {a : α} {r : β} (h : Ev g a) (k : Ev (fun n => f n a) r) : Ev (fun n => (g n).bind (f n)) r := Ev.bind h k
theorem ev_fix {α β : Type} {g : Option α} {f : Nat → α → Option β} {a : α} {r : β} (h : g = some a) (k : Ev (fun n => f n a) r) : Ev (fun n => g.bind (f n)) r := by subst h; exact k
theorem ev_rounds {α : Type} {g : Nat → Option α} {r : α} (h : Ev g r) : ∃ k, g k = some r := h.rounds
theorem ev_eq {α : Type} {g : Nat → Option α} {r r' : α} (h : Ev g r) (e : r = r') : Ev g r' := e ▸ h
theorem wrap_id {x : Int} (h1 : -9223372036854775808 ≤ x) (h2 : x ≤ 9223372036854775807) : wrap64 x = x := by unfold wrap64; omega
theorem wrap_succ {n : Nat} (h : n + 1 ≤ 9223372036854775807) : wrap64 ((n : Int) + 1) = ((n + 1 : Nat) : Int) := by rw [wrap_id (by omega) (by omega)]; omega
theorem rd_nat {l : List Int} {n : Nat} (h : n < l.length) : rd l (n : Int) = l[n] := by simp [rd, h]
theorem wrap_nat {n : Nat} (h : n ≤ 9223372036854775807) : wrap64 (n : Int) = n := wrap_id (by omega) (by omega)
end Go.Proofs.Ytgbapmmfhdphmaa.Pure
end
section
namespace Go.Proofs.Ytgbapmmfhdphmaa.Pure
open Go.RowKit Go.Proofs.Ytgbapmmfhdphmaa.P Go.Proofs.YtgbapmmfhdphmaaW.PrintWords Go.Proofs.YtgbapmmfhdphmaaW.PrintLast Go.Proofs.YtgbapmmfhdphmaaW.PrintMore
set_option linter.unusedVariables false
set_option linter.unusedSimpArgs false
theorem tdiv_nat (m n : Nat) : Int.tdiv (m : Int) (n : Int) = ((m / n : Nat) : Int) := rfl
theorem tmod_nat' (m n : Nat) : Int.tmod (m : Int) (n : Int) = ((m % n : Nat) : Int) := rfl
theorem gcd_step (a b : Nat) (h : b ≠ 0) : Nat.gcd a b = Nat.gcd b (a % b) := by
  rw [Nat.gcd_comm a b, Nat.gcd_rec b a, Nat.gcd_comm]
theorem divisor_l0 : ∀ (b a : Nat), Ev (fun k => impl_divisor.l0 k (a : Int) (b : Int)) ((Nat.gcd a b : Nat) : Int) := by
  intro b
  induction b using Nat.strongRecOn with
  | _ b ih =>
    intro a
    refine Ev.step (fun k => by rw [impl_divisor.l0]) ?_
    by_cases h : b = 0
    · subst h
      refine ev_pos rfl ?_
      rw [Nat.gcd_zero_right]
      exact ev_now _
    · refine ev_neg (by omega) ?_
      rw [tmod_nat', gcd_step a b h]
      exact ih (a % b) (Nat.mod_lt _ (by omega)) b
theorem divisor_ev (a b : Nat) : Ev (fun k => impl_divisor.f k (a : Int) (b : Int)) ((Nat.gcd a b : Nat) : Int) := by
  unfold impl_divisor.f
  exact divisor_l0 b a
theorem lcm_div (a b : Nat) : a / Nat.gcd a b * b = Nat.lcm a b := by
  rw [Nat.lcm, Nat.mul_comm a b, Nat.mul_div_assoc _ (Nat.gcd_dvd_left a b), Nat.mul_comm]
theorem lcm_le (a b : Nat) : Nat.lcm a b ≤ a * b := by
  rw [← lcm_div]; exact Nat.mul_le_mul_right _ (Nat.div_le_self _ _)
end Go.Proofs.Ytgbapmmfhdphmaa.Pure
end
section
namespace Go.Proofs.Ytgbapmmfhdphmaa.Pure
set_option linter.unusedVariables false
set_option linter.unusedSimpArgs false
/-- the slots at which turns hold x, counted from o -/
def posOf (x : Int) : Int → List Int → List Int
  | _, [] => []
  | o, y :: l => if y = x then o :: posOf x (o + 1) l else posOf x (o + 1) l
theorem posOf_append (x : Int) (l m : List Int) : ∀ o, posOf x o (l ++ m) = posOf x o l ++ posOf x (o + l.length) m := by
  induction l with
  | nil => intro o; simp [posOf]
  | cons y l ih =>
    intro o
    simp only [List.cons_append, posOf, ih, List.length_cons]
    rw [show o + ((l.length + 1 : Nat) : Int) = o + 1 + (l.length : Int) by omega]
    split <;> simp
theorem posOf_take_succ (x : Int) (l : List Int) (n : Nat) (h : n < l.length) : posOf x 0 (l.take (n + 1)) = posOf x 0 (l.take n) ++ (if l[n] = x then [(n : Int)] else []) := by
  rw [List.take_succ_eq_append_getElem h, posOf_append]
  congr 1
  rw [List.length_take, Nat.min_eq_left (by omega)]
  simp [posOf]
theorem posOf_range (x : Int) (l : List Int) : ∀ o, ∀ y ∈ posOf x o l, o ≤ y ∧ y < o + l.length := by
  induction l with
  | nil => intro o y hy; simp [posOf] at hy
  | cons z l ih =>
    intro o y hy
    simp only [posOf] at hy
    simp only [List.length_cons]
    split at hy
    · rcases List.mem_cons.1 hy with rfl | hy
      · omega
      · have := ih _ _ hy; omega
    · have := ih _ _ hy; omega
theorem posOf_length (x : Int) (l : List Int) : ∀ o, (posOf x o l).length ≤ l.length := by
  induction l with
  | nil => intro o; simp [posOf]
  | cons z l ih =>
    intro o
    simp only [posOf]
    have := ih (o + 1)
    split <;> simp only [List.length_cons] <;> omega
/-- the differences of neighbours -/
def diffs : List Int → List Int
  | a :: b :: t => (b - a) :: diffs (b :: t)
  | [_] => []
  | [] => []
theorem diffs_length : ∀ p : List Int, (diffs p).length = p.length - 1
  | a :: b :: t => by simp only [diffs, List.length_cons, diffs_length (b :: t)]; omega
  | [_] => rfl
  | [] => rfl
theorem diffs_get : ∀ (p : List Int) (i : Nat), i + 1 < p.length → (diffs p)[i]? = some (p.getD (i + 1) 0 - p.getD i 0)
  | a :: b :: t, 0, _ => by simp [diffs]
  | a :: b :: t, i + 1, h => by
    simp only [diffs, List.getElem?_cons_succ]
    rw [diffs_get (b :: t) i (by simp only [List.length_cons] at h ⊢; omega)]
    simp
  | [_], i, h => by simp at h
  | [], i, h => by simp at h
theorem diffs_snoc : ∀ (p : List Int) (n d : Int), p ≠ [] → diffs (p ++ [n]) = diffs p ++ [n - p.getLastD d]
  | [], _, _, h => absurd rfl h
  | [a], n, d, _ => by simp [diffs]
  | a :: b :: t, n, d, _ => by
    have := diffs_snoc (b :: t) n d (by simp)
    simp only [List.cons_append, diffs] at this ⊢
    rw [this]
    simp
/-- the waits of x in turns, round and round -/
def waitsOf (l : List Int) (x : Int) : List Int :=
  if posOf x 0 l = [] then [] else diffs (posOf x 0 l) ++ [(l.length : Int) - (posOf x 0 l).getLastD (-1) + (posOf x 0 l).headD (-1)]
theorem headD_mem {p : List Int} (h : p ≠ []) (d : Int) : p.headD d ∈ p := by cases p with | nil => exact absurd rfl h | cons a t => simp
theorem getLastD_mem {p : List Int} (h : p ≠ []) (d : Int) : p.getLastD d ∈ p := by
  cases p with
  | nil => exact absurd rfl h
  | cons a t => simp only [List.getLastD_cons]; exact List.getLastD_mem_cons
theorem waitsOf_length (l : List Int) (x : Int) : (waitsOf l x).length = (posOf x 0 l).length := by
  unfold waitsOf
  split
  · next h => rw [h]
  · next h =>
    have : 0 < (posOf x 0 l).length := List.length_pos_iff.2 h
    rw [List.length_append, diffs_length, List.length_singleton]; omega
end Go.Proofs.Ytgbapmmfhdphmaa.Pure
end
section
namespace Go.Proofs.Ytgbapmmfhdphmaa.Pure
open Go.RowKit Go.Proofs.Ytgbapmmfhdphmaa.P Go.Proofs.YtgbapmmfhdphmaaW.PrintWords Go.Proofs.YtgbapmmfhdphmaaW.PrintLast Go.Proofs.YtgbapmmfhdphmaaW.PrintMore
set_option linter.unusedVariables false
set_option linter.unusedSimpArgs false
/-- the greatest of a list, and 0 -/
def great (l : List Int) : Int := l.foldl mx 0
theorem le_mx (a b : Int) : a ≤ mx a b ∧ b ≤ mx a b := by unfold mx; split <;> omega
theorem le_foldl_mx (l : List Int) : ∀ a, a ≤ l.foldl mx a ∧ ∀ x ∈ l, x ≤ l.foldl mx a := by
  induction l with
  | nil => intro a; simp
  | cons y l ih =>
    intro a
    have h := ih (mx a y)
    have h2 := le_mx a y
    simp only [List.foldl_cons]
    refine ⟨by omega, ?_⟩
    intro x hx
    rcases List.mem_cons.1 hx with rfl | hx
    · omega
    · exact h.2 x hx
theorem great_take_succ (l : List Int) (n : Nat) (h : n < l.length) : great (l.take (n + 1)) = mx (great (l.take n)) l[n] := by
  rw [List.take_succ_eq_append_getElem h, great, List.foldl_append]; rfl
theorem great_pos {l : List Int} {x : Int} (h : x ∈ l) : x ≤ great l := (le_foldl_mx l 0).2 x h
theorem great_wait_pos {l : List Int} {x : Int} (h : posOf x 0 l ≠ []) : 1 ≤ great (waitsOf l x) := by
  have h1 := posOf_range x l 0 _ (headD_mem h (-1))
  have h2 := posOf_range x l 0 _ (getLastD_mem h (-1))
  have h3 : (l.length : Int) - (posOf x 0 l).getLastD (-1) + (posOf x 0 l).headD (-1) ∈ waitsOf l x := by
    rw [waitsOf, if_neg h]; simp
  have := great_pos h3
  omega
end Go.Proofs.Ytgbapmmfhdphmaa.Pure
end
section
namespace Go.Proofs.Ytgbapmmfhdphmaa.Pure
open Go.RowKit Go.Proofs.Ytgbapmmfhdphmaa.P Go.Proofs.YtgbapmmfhdphmaaW.PrintWords Go.Proofs.YtgbapmmfhdphmaaW.PrintLast Go.Proofs.YtgbapmmfhdphmaaW.PrintMore
set_option linter.unusedVariables false
set_option linter.unusedSimpArgs false
def isTurns (l : List Int) (k : Int) : Bool := decide (1 ≤ (l.length : Int) ∧ (l.length : Int) ≤ 120) && l.all fun i => decide (-1 ≤ i ∧ i ≤ wrap64 (k - 1))
theorem areTurns_f (l : List Int) (k : Int) : impl_areTurns.f l k = some (isTurns l k) := rfl
theorem isTurns_len {l : List Int} {k : Int} (h : isTurns l k = true) : 1 ≤ l.length ∧ l.length ≤ 120 := by
  rw [isTurns, Bool.and_eq_true] at h
  have := of_decide_eq_true h.1
  omega
theorem isTurns_mem {l : List Int} {k : Int} (h : isTurns l k = true) {x : Int} (hx : x ∈ l) : -1 ≤ x ∧ x ≤ wrap64 (k - 1) := by
  rw [isTurns, Bool.and_eq_true, List.all_eq_true] at h
  exact of_decide_eq_true (h.2 x hx)
end Go.Proofs.Ytgbapmmfhdphmaa.Pure
end
section
namespace Go.Proofs.Ytgbapmmfhdphmaa.Pure
open Go.RowKit Go.Proofs.Ytgbapmmfhdphmaa.P Go.Proofs.YtgbapmmfhdphmaaW.PrintWords Go.Proofs.YtgbapmmfhdphmaaW.PrintLast Go.Proofs.YtgbapmmfhdphmaaW.PrintMore
set_option linter.unusedVariables false
set_option linter.unusedSimpArgs false
theorem isTurns8_mem {l : List Int} (h : isTurns l 8 = true) {x : Int} (hx : x ∈ l) : -1 ≤ x ∧ x ≤ 7 := by
  have h1 := isTurns_mem h hx
  rw [wrap_id (by omega) (by omega)] at h1
  omega
theorem great_le {l : List Int} {b : Int} (hb : 0 ≤ b) (h : ∀ x ∈ l, x ≤ b) : great l ≤ b := by
  have : ∀ (m : List Int) (a : Int), a ≤ b → (∀ x ∈ m, x ≤ b) → m.foldl mx a ≤ b := by
    intro m
    induction m with
    | nil => intro a ha _; exact ha
    | cons y m ih =>
      intro a ha hm
      refine ih _ ?_ fun x hx => hm x (List.mem_cons_of_mem _ hx)
      have := hm y List.mem_cons_self
      unfold mx; split <;> omega
  exact this l 0 hb h
theorem Max_l0 (l : List Int) (hl : l.length ≤ 1048576) (a : Int) : ∀ d n : Nat, n + d = l.length →
    Ev (fun k => slices_Max_Sint64_int64.l0 k l ((l.take n).foldl mx a) (n : Int)) (l.foldl mx a) := by
  intro d
  induction d with
  | zero =>
    intro n hn
    rw [List.take_of_length_le (by omega)]
    exact Ev.step (fun k => by rw [slices_Max_Sint64_int64.l0]) (ev_neg (by omega) (ev_now _))
  | succ d ih =>
    intro n hn
    have hlt : n < l.length := by omega
    refine Ev.step (fun k => by rw [slices_Max_Sint64_int64.l0]) (ev_pos (by omega) (ev_pos (by omega) ?_))
    rw [rd_nat hlt, wrap_succ (by omega)]
    have ih := ih (n + 1) (by omega)
    rw [List.take_succ_eq_append_getElem hlt, List.foldl_append] at ih
    exact ih
theorem mx_self (a : Int) : mx a a = a := by unfold mx; split <;> rfl
theorem Max_ev (l : List Int) (hl : l.length ≤ 1048576) (h0 : 1 ≤ l.length) (hp : ∀ x ∈ l, 0 ≤ x) : Ev (fun k => slices_Max_Sint64_int64.f k l) (great l) := by
  unfold slices_Max_Sint64_int64.f
  refine ev_neg (by omega) (ev_pos (by omega) ?_)
  cases l with
  | nil => simp at h0
  | cons y l =>
    have hy := hp y List.mem_cons_self
    have h1 := Max_l0 (y :: l) hl y l.length 1 (by simp only [List.length_cons]; omega)
    have e0 : great (y :: l) = (y :: l).foldl mx y := by
      have : mx 0 y = y := by unfold mx; split <;> omega
      simp only [great, List.foldl_cons, this, mx_self]
    have e1 : ((y :: l).take 1).foldl mx y = y := by simp [mx_self]
    rw [e1, ← e0] at h1
    exact h1
end Go.Proofs.Ytgbapmmfhdphmaa.Pure
end
section
namespace Go.Proofs.Ytgbapmmfhdphmaa.Pure
open Go.RowKit Go.Proofs.Ytgbapmmfhdphmaa.P Go.Proofs.YtgbapmmfhdphmaaW.PrintWords Go.Proofs.YtgbapmmfhdphmaaW.PrintLast Go.Proofs.YtgbapmmfhdphmaaW.PrintMore
set_option linter.unusedVariables false
set_option linter.unusedSimpArgs false
/-- the digit of the road between two places -/
def roadOf (i j : Int) : Int := 2 ^ ((max i j) * ((max i j) - 1) / 2 + min i j).toNat
/-- Two places are near: the same, or joined. -/
def nearB (b i j : Int) : Bool := if i = j then true else Go.bits .and .i64 b (roadOf i j) != 0
end Go.Proofs.Ytgbapmmfhdphmaa.Pure
end
section
namespace Go.Proofs.Ytgbapmmfhdphmaa.Pure
open Go.RowKit Go.Proofs.Ytgbapmmfhdphmaa.P Go.Proofs.YtgbapmmfhdphmaaW.PrintWords Go.Proofs.YtgbapmmfhdphmaaW.PrintLast Go.Proofs.YtgbapmmfhdphmaaW.PrintMore
set_option linter.unusedVariables false
set_option linter.unusedSimpArgs false
theorem rd_set {l : List Int} {b i : Nat} {x : Int} (hb : b < l.length) : rd (l.set b x) (i : Nat) = if i = b then x else rd l (i : Nat) := by
  simp only [rd, Int.toNat_natCast, List.getD_eq_getElem?_getD, List.getElem?_set]
  by_cases h : b = i
  · subst h; simp [hb]
  · rw [if_neg h, if_neg (fun e => h e.symm)]
end Go.Proofs.Ytgbapmmfhdphmaa.Pure
end
section
namespace Go.Proofs.Ytgbapmmfhdphmaa.Pure
open Go.RowKit Go.Proofs.Ytgbapmmfhdphmaa.P Go.Proofs.YtgbapmmfhdphmaaW.PrintWords Go.Proofs.YtgbapmmfhdphmaaW.PrintLast Go.Proofs.YtgbapmmfhdphmaaW.PrintMore
set_option linter.unusedVariables false
set_option linter.unusedSimpArgs false
def neg : List Int → Nat
  | [] => 0
  | y :: l => (if y < 0 then 1 else 0) + neg l
theorem neg_set (v : Int) (hv : 0 ≤ v) : ∀ (l : List Int) (n : Nat) (h : n < l.length), l[n] < 0 → neg (l.set n v) + 1 = neg l := by
  intro l
  induction l with
  | nil => intro n h; simp at h
  | cons y l ih =>
    intro n h hn
    cases n with
    | zero =>
      simp only [List.getElem_cons_zero] at hn
      simp only [List.set_cons_zero, neg]
      rw [if_neg (by omega), if_pos hn]
      omega
    | succ n =>
      simp only [List.getElem_cons_succ] at hn
      simp only [List.set_cons_succ, neg]
      have := ih n (by simpa using h) hn
      omega
def stepJ (b h : Int) (j : Nat) (s : List Int × List Int) : List Int × List Int := if rd s.1 (j : Int) < 0 ∧ nearB b h (j : Int) = true then (s.1.set j (rd s.1 h + 1), s.2 ++ [(j : Int)]) else s
def inJ (b h : Int) : Nat → Nat → List Int × List Int → List Int × List Int
  | 0, _, s => s
  | d + 1, j, s => inJ b h d (j + 1) (stepJ b h j s)
structure Bfs (a : Nat) (s : List Int × List Int) : Prop where
  len : s.1.length = a
  mem : ∀ x ∈ s.2, 0 ≤ x ∧ x < (a : Int) ∧ 0 ≤ rd s.1 x
  hi : ∀ i : Nat, i < a → rd s.1 (i : Int) ≤ (s.2.length : Int)
  num : s.2.length + neg s.1 ≤ a
theorem Bfs.step {a : Nat} {b h : Int} {j : Nat} {s : List Int × List Int} (B : Bfs a s) (hj : j < a) (hh : 0 ≤ h ∧ h < (a : Int) ∧ 0 ≤ rd s.1 h) : Bfs a (stepJ b h j s) := by
  unfold stepJ
  split
  · next c =>
    have hl := B.len
    refine ⟨by rw [List.length_set]; exact hl, fun x hx => ?_, fun i hi => ?_, ?_⟩
    · rcases List.mem_append.1 hx with hx | hx
      · obtain ⟨h1, h2, h3⟩ := B.mem x hx
        obtain ⟨n, rfl⟩ : ∃ n : Nat, x = n := ⟨x.toNat, by omega⟩
        refine ⟨h1, h2, ?_⟩
        show 0 ≤ rd (s.1.set j _) (n : Int)
        rw [rd_set (by omega)]
        split <;> omega
      · rw [List.mem_singleton.1 hx]
        refine ⟨by omega, by omega, ?_⟩
        show 0 ≤ rd (s.1.set j _) (j : Int)
        rw [rd_set (by omega), if_pos rfl]
        omega
    · have h1 := B.hi i hi
      have h2 := B.hi h.toNat (by omega)
      rw [show ((h.toNat : Nat) : Int) = h by omega] at h2
      show rd (s.1.set j _) (i : Int) ≤ ((s.2 ++ [(j : Int)]).length : Int)
      rw [rd_set (by omega), List.length_append, List.length_singleton]
      split <;> omega
    · have c1 := c.1
      rw [rd_nat (by omega)] at c1
      have := neg_set (rd s.1 h + 1) (by omega) s.1 j (by omega) c1
      have := B.num
      show (s.2 ++ [(j : Int)]).length + neg (s.1.set j (rd s.1 h + 1)) ≤ a
      rw [List.length_append, List.length_singleton]
      omega
  · exact B
theorem stepJ_head {a : Nat} {b h : Int} {j : Nat} {s : List Int × List Int} (B : Bfs a s) (hj : j < a) (hh : 0 ≤ h ∧ h < (a : Int) ∧ 0 ≤ rd s.1 h) : 0 ≤ rd (stepJ b h j s).1 h := by
  unfold stepJ
  split
  · have hl := B.len
    obtain ⟨n, rfl⟩ : ∃ n : Nat, h = n := ⟨h.toNat, by omega⟩
    show 0 ≤ rd (s.1.set j _) (n : Int)
    rw [rd_set (by omega)]
    split <;> omega
  · exact hh.2.2
theorem Bfs.inner {a : Nat} {b h : Int} : ∀ d j : Nat, j + d = a → ∀ s : List Int × List Int, Bfs a s → (0 ≤ h ∧ h < (a : Int) ∧ 0 ≤ rd s.1 h) → Bfs a (inJ b h d j s) := by
  intro d
  induction d with
  | zero => intro j _ s B _; exact B
  | succ d ih => intro j hj s B hh; exact ih (j + 1) (by omega) _ (B.step (by omega) hh) ⟨hh.1, hh.2.1, stepJ_head B (by omega) hh⟩
end Go.Proofs.Ytgbapmmfhdphmaa.Pure
end
section
namespace Go.Proofs.Ytgbapmmfhdphmaa.Pure
open Go.RowKit Go.Proofs.Ytgbapmmfhdphmaa.P Go.Proofs.YtgbapmmfhdphmaaW.PrintWords Go.Proofs.YtgbapmmfhdphmaaW.PrintLast Go.Proofs.YtgbapmmfhdphmaaW.PrintMore
set_option linter.unusedVariables false
set_option linter.unusedSimpArgs false
def insB (G : List Int) (x : Int) : List Int → List Int → List Int
  | [], B => x :: B
  | y :: ra, B => if rd G x < rd G y then insB G x ra (y :: B) else (y :: ra).reverse ++ x :: B
def ordF (G : List Int) : Nat → List Int
  | 0 => []
  | n + 1 => insB G (n : Int) (ordF G n).reverse []
theorem insB_length (G : List Int) (x : Int) : ∀ ra B, (insB G x ra B).length = ra.length + B.length + 1 := by
  intro ra
  induction ra with
  | nil => intro B; simp [insB]
  | cons y ra ih =>
    intro B
    rw [insB]
    split
    · rw [ih, List.length_cons, List.length_cons]; omega
    · simp only [List.length_append, List.length_reverse, List.length_cons]; omega
theorem ordF_length (G : List Int) : ∀ n, (ordF G n).length = n := by
  intro n
  induction n with
  | zero => rfl
  | succ n ih => rw [ordF, insB_length, List.length_reverse, ih]; simp
theorem insB_mem (G : List Int) (x z : Int) : ∀ ra B, z ∈ insB G x ra B ↔ z = x ∨ z ∈ ra ∨ z ∈ B := by
  intro ra
  induction ra with
  | nil => intro B; simp [insB]
  | cons y ra ih =>
    intro B
    rw [insB]
    split
    · rw [ih]
      simp only [List.mem_cons]
      constructor
      · rintro (h | h | h | h)
        · exact .inl h
        · exact .inr (.inl (.inr h))
        · exact .inr (.inl (.inl h))
        · exact .inr (.inr h)
      · rintro (h | (h | h) | h)
        · exact .inl h
        · exact .inr (.inr (.inl h))
        · exact .inr (.inl h)
        · exact .inr (.inr (.inr h))
    · simp only [List.mem_append, List.mem_reverse, List.mem_cons]
      constructor
      · rintro ((h | h) | h | h)
        · exact .inr (.inl (.inl h))
        · exact .inr (.inl (.inr h))
        · exact .inl h
        · exact .inr (.inr h)
      · rintro (h | (h | h) | h)
        · exact .inr (.inl h)
        · exact .inl (.inl h)
        · exact .inl (.inr h)
        · exact .inr (.inr h)
theorem ordF_mem (G : List Int) : ∀ n (z : Int), z ∈ ordF G n ↔ 0 ≤ z ∧ z < (n : Int) := by
  intro n
  induction n with
  | zero => intro z; simp [ordF] <;> omega
  | succ n ih =>
    intro z
    rw [ordF, insB_mem, List.mem_reverse, ih]
    simp only [List.not_mem_nil, or_false]
    omega
/-- sums over tasks -/
def sumF (f : Int → Int) : List Int → Int
  | [] => 0
  | y :: l => f y + sumF f l
theorem sumF_append (f : Int → Int) (a b : List Int) : sumF f (a ++ b) = sumF f a + sumF f b := by
  induction a with
  | nil => simp [sumF]
  | cons y a ih => simp only [List.cons_append, sumF, ih]; omega
theorem sumF_reverse (f : Int → Int) (a : List Int) : sumF f a.reverse = sumF f a := by
  induction a with
  | nil => rfl
  | cons y a ih => rw [List.reverse_cons, sumF_append, ih]; simp only [sumF]; omega
theorem insB_sum (f : Int → Int) (G : List Int) (x : Int) : ∀ ra B, sumF f (insB G x ra B) = f x + sumF f ra + sumF f B := by
  intro ra
  induction ra with
  | nil => intro B; simp [insB, sumF]
  | cons y ra ih =>
    intro B
    rw [insB]
    split
    · rw [ih]; simp only [sumF]; omega
    · rw [sumF_append, sumF_reverse]; simp only [sumF]; omega
theorem ordF_sum (f : Int → Int) (G : List Int) : ∀ n, sumF f (ordF G n) = sumF (fun i => f i) ((List.range' 0 n).map fun (i : Nat) => (i : Int)) := by
  intro n
  induction n with
  | zero => rfl
  | succ n ih =>
    rw [ordF, insB_sum, sumF_reverse, ih, List.range'_1_concat, List.map_append, sumF_append]
    simp [sumF]
    try omega
/-- sorted by gaps -/
theorem insB_sorted (G : List Int) (x : Int) : ∀ ra B, (ra.reverse ++ B).Pairwise (fun a b => rd G a ≤ rd G b) → (∀ z ∈ B, rd G x ≤ rd G z) → (insB G x ra B).Pairwise (fun a b => rd G a ≤ rd G b) := by
  intro ra
  induction ra with
  | nil =>
    intro B h hB
    rw [insB, List.pairwise_cons]
    exact ⟨hB, by simpa using h⟩
  | cons y ra ih =>
    intro B h hB
    rw [insB]
    split
    · next c =>
      refine ih (y :: B) (by simpa using h) fun z hz => ?_
      rcases List.mem_cons.1 hz with rfl | hz
      · omega
      · exact hB z hz
    · next c =>
      rw [List.pairwise_append] at h ⊢
      refine ⟨h.1, ?_, ?_⟩
      · rw [List.pairwise_cons]
        exact ⟨hB, h.2.1⟩
      · intro a ha b hb
        rcases List.mem_cons.1 hb with rfl | hb
        · rw [List.mem_reverse, List.mem_cons] at ha
          rcases ha with rfl | ha
          · omega
          · have h1 := h.1
            rw [List.reverse_cons, List.pairwise_append] at h1
            have := h1.2.2 a (List.mem_reverse.2 ha) y (by simp)
            omega
        · exact h.2.2 a ha b hb
theorem ordF_sorted (G : List Int) : ∀ n, (ordF G n).Pairwise (fun a b => rd G a ≤ rd G b) := by
  intro n
  induction n with
  | zero => exact List.Pairwise.nil
  | succ n ih => rw [ordF]; exact insB_sorted G _ _ _ (by simpa using ih) (by simp)
theorem rd_mid (A B : List Int) (x : Int) : rd (A ++ x :: B) (A.length : Int) = x := by
  rw [rd_nat (by simp)]
  simp
theorem set_mid1 (A B : List Int) (x y : Int) : (A ++ x :: B).set A.length y = A ++ y :: B := by
  rw [List.set_append_right _ _ (Nat.le_refl _), Nat.sub_self, List.set_cons_zero]
theorem upTo_split (n m : Nat) (h : n < m) : (List.range' n (m - n)).map (fun (i : Nat) => (i : Int)) = (n : Int) :: (List.range' (n + 1) (m - (n + 1))).map (fun (i : Nat) => (i : Int)) := by
  obtain ⟨d, hd⟩ : ∃ d, m - n = d + 1 := ⟨m - n - 1, by omega⟩
  rw [hd, List.range'_succ, show m - (n + 1) = d by omega]
  rfl
theorem impl_ins_l1 (G : List Int) (hG : ∀ x ∈ G, 1 ≤ x ∧ x ≤ 40) (m i : Nat) (hm : m ≤ G.length) (hm8 : m ≤ 100) (hi : i < m) (x : Int) (hx : 0 ≤ x ∧ x < (G.length : Int)) (rest : List Int) (R : List Int) : ∀ ra B : List Int, ra.length + B.length = i → rest.length + i + 1 = m → (∀ z ∈ ra, 0 ≤ z ∧ z < (G.length : Int)) →
    Ev (fun k => insF.l0 (gapCmp G) k (insB G x ra B ++ rest) 0 (m : Int) ((i + 1 : Nat) : Int)) R →
    Ev (fun k => insF.l1 (gapCmp G) k (ra.reverse ++ x :: (B ++ rest)) 0 (m : Int) (i : Int) (ra.length : Int)) R := by
  intro ra
  induction ra with
  | nil =>
    intro B hB hr hz hR
    refine Ev.step (fun k => by rw [insF.l1]) ?_
    rw [wrap_succ (n := i) (by omega)]
    exact ev_neg (by simp) hR
  | cons y ra ih =>
    intro B hB hr hz hR
    rw [List.length_cons] at hB
    have hy := hz y List.mem_cons_self
    have gx := hG (rd G x) (rd_mem hx.1 hx.2)
    have gy := hG (rd G y) (rd_mem hy.1 hy.2)
    have ej : wrap64 (((y :: ra).length : Int) - 1) = (ra.length : Int) := by
      rw [List.length_cons, wrap_id (by omega) (by omega)]; omega
    have e1 : rd ((y :: ra).reverse ++ x :: (B ++ rest)) ((y :: ra).length : Int) = x := by
      have := rd_mid (y :: ra).reverse (B ++ rest) x
      rwa [List.length_reverse] at this
    have e2 : rd ((y :: ra).reverse ++ x :: (B ++ rest)) (ra.length : Int) = y := by
      have := rd_mid ra.reverse (x :: (B ++ rest)) y
      rw [List.length_reverse] at this
      rw [List.reverse_cons, List.append_assoc]
      exact this
    have hlen : ((y :: ra).reverse ++ x :: (B ++ rest)).length = m := by
      simp only [List.length_append, List.length_reverse, List.length_cons]; omega
    refine Ev.step (fun k => by rw [insF.l1]) ?_
    rw [ej, e1, e2, hlen]
    refine ev_pos (by rw [List.length_cons]; omega) (ev_pos (by omega) (ev_pos (by rw [List.length_cons]; omega) (ev_pos (by omega) (ev_pos (by omega) ?_))))
    rw [insB] at hR
    by_cases c : rd G x < rd G y
    · rw [if_pos c] at hR
      refine ev_pos (by unfold gapCmp; rw [wrap_id (by omega) (by omega)]; omega) (ev_pos (by rw [List.length_cons]; omega) ?_)
      have e3 : (((y :: ra).reverse ++ x :: (B ++ rest)).set ((y :: ra).length : Int).toNat y).set (ra.length : Int).toNat x = ra.reverse ++ x :: ((y :: B) ++ rest) := by
        rw [Int.toNat_natCast, Int.toNat_natCast]
        have h1 := set_mid1 (y :: ra).reverse (B ++ rest) x y
        rw [List.length_reverse] at h1
        rw [h1, List.reverse_cons, List.append_assoc]
        have h2 := set_mid1 ra.reverse (y :: (B ++ rest)) y x
        rw [List.length_reverse] at h2
        exact h2
      rw [e3]
      exact ih (y :: B) (by rw [List.length_cons]; omega) hr (fun z hz' => hz z (List.mem_cons_of_mem _ hz')) hR
    · rw [if_neg c] at hR
      refine ev_neg (by unfold gapCmp; rw [wrap_id (by omega) (by omega)]; omega) ?_
      rw [wrap_succ (n := i) (by omega)]
      rw [List.append_assoc] at hR
      exact hR
theorem impl_ins_l0 (G : List Int) (hG : ∀ x ∈ G, 1 ≤ x ∧ x ≤ 40) (m : Nat) (hm : m ≤ G.length) (hm8 : m ≤ 100) : ∀ d i : Nat, i + d = m →
    Ev (fun k => insF.l0 (gapCmp G) k (ordF G i ++ (List.range' i (m - i)).map fun (j : Nat) => (j : Int)) 0 (m : Int) (i : Int)) (ordF G m) := by
  intro d
  induction d with
  | zero =>
    intro i hi
    obtain rfl : i = m := by omega
    refine Ev.step (fun k => by rw [insF.l0]) ?_
    rw [Nat.sub_self]
    exact ev_neg (by omega) (ev_is (by simp))
  | succ d ih =>
    intro i hi
    have hl := ordF_length G i
    have ih := ih (i + 1) (by omega)
    rw [ordF] at ih
    have h := impl_ins_l1 G hG m i hm hm8 (by omega) (i : Int) (by omega) _ _ (ordF G i).reverse [] (by rw [List.length_reverse, hl]; rfl) (by rw [List.length_map, List.length_range']; omega) (fun z hz => by
      have := (ordF_mem G i z).1 (List.mem_reverse.1 hz); omega) ih
    rw [List.reverse_reverse, List.length_reverse, hl, List.nil_append] at h
    refine Ev.step (fun k => by rw [insF.l0]) ?_
    rw [upTo_split i m (by omega)]
    exact ev_pos (by omega) h
theorem byGap_ev (G : List Int) (hG : ∀ x ∈ G, 1 ≤ x ∧ x ≤ 40) (h8 : 1 ≤ G.length ∧ G.length ≤ 8) : Ev (fun k => impl_Tasks_byGap.f k G) (ordF G G.length) := by
  have main : ∀ d n : Nat, n + d = G.length → Ev (fun k => impl_Tasks_byGap.l0 k G (G.length : Int) ((List.range' 0 n).map fun (j : Nat) => (j : Int)) (n : Int)) (ordF G G.length) := by
    intro d
    induction d with
    | zero =>
      intro n hn
      obtain rfl : n = G.length := by omega
      refine Ev.step (fun k => by rw [impl_Tasks_byGap.l0]) ?_
      refine ev_neg (by omega) (ev_pos ⟨by simp; omega, fun x hx => ?_⟩ ?_)
      · obtain ⟨j, hj, rfl⟩ := List.mem_map.1 hx
        have := List.mem_range'_1.1 hj
        omega
      · have h := impl_ins_l0 G hG G.length (Nat.le_refl _) (by omega) (G.length - 1) 1 (by omega)
        have e : ordF G 1 ++ (List.range' 1 (G.length - 1)).map (fun (j : Nat) => (j : Int)) = (List.range' 0 G.length).map (fun (j : Nat) => (j : Int)) := by
          have := upTo_split 0 G.length (by omega)
          rw [Nat.sub_zero] at this
          rw [this]
          rfl
        rw [e] at h
        rw [wrap_id (by omega) (by omega), show (((List.range' 0 G.length).map fun (j : Nat) => (j : Int)).length : Int) = (G.length : Int) by simp]
        exact h
    | succ d ih =>
      intro n hn
      refine Ev.step (fun k => by rw [impl_Tasks_byGap.l0]) ?_
      rw [wrap_succ (by omega)]
      have ih := ih (n + 1) (by omega)
      rw [List.range'_1_concat, List.map_append] at ih
      simp only [List.map_cons, List.map_nil, Nat.zero_add] at ih
      exact ev_pos (by omega) (ev_pos (by simp; omega) ih)
  unfold impl_Tasks_byGap.f
  refine ev_fix (show impl_Tasks_many.f G = some (G.length : Int) from rfl) ?_
  exact main G.length 0 (by omega)
def gapsBy (G o : List Int) : List Int := o.map fun t => rd G t
theorem spec_ins_l1 (G : List Int) (hG : ∀ x ∈ G, 1 ≤ x ∧ x ≤ 40) (i : Nat) (hi : i < G.length) (hi8 : i ≤ 100) (R : List Int × List Int) : ∀ (ra B : List Int) (z : Int), ra.length + B.length = i → (∀ y ∈ ra, 0 ≤ y ∧ y < (G.length : Int)) →
    Ev (fun k => spec_l01Sorted.l0 k (insB G (i : Int) ra B) ((i + 1 : Nat) : Int) G) R →
    Ev (fun k => spec_l01Sorted.l1 k (ra.reverse ++ z :: B) (i : Int) (ra.length : Int) G) R := by
  intro ra
  induction ra with
  | nil =>
    intro B z hB hz hR
    refine Ev.step (fun k => by rw [spec_l01Sorted.l1]) ?_
    rw [wrap_succ (n := i) (by omega)]
    refine ev_neg (by simp) (ev_pos (by simp) (ev_pos (by simp) ?_))
    exact hR
  | cons y ra ih =>
    intro B z hB hz hR
    rw [List.length_cons] at hB
    have hy := hz y List.mem_cons_self
    have ej : wrap64 (((y :: ra).length : Int) - 1) = (ra.length : Int) := by
      rw [List.length_cons, wrap_id (by omega) (by omega)]; omega
    have e2 : rd ((y :: ra).reverse ++ z :: B) (ra.length : Int) = y := by
      have := rd_mid ra.reverse (z :: B) y
      rw [List.length_reverse] at this
      rw [List.reverse_cons, List.append_assoc]
      exact this
    have hlen : ((y :: ra).reverse ++ z :: B).length = i + 1 := by
      simp only [List.length_append, List.length_reverse, List.length_cons]; omega
    have hset : ∀ v : Int, ((y :: ra).reverse ++ z :: B).set ((y :: ra).length : Int).toNat v = (y :: ra).reverse ++ v :: B := fun v => by
      have h1 := set_mid1 (y :: ra).reverse B z v
      rw [List.length_reverse] at h1
      rw [Int.toNat_natCast]
      exact h1
    refine Ev.step (fun k => by rw [spec_l01Sorted.l1]) ?_
    rw [ej, e2, hlen, hset, hset]
    refine ev_pos (by rw [List.length_cons]; omega) (ev_pos (by omega) (ev_pos (by omega) (ev_pos (by omega) (ev_pos (by omega) (ev_pos (by omega) (ev_pos (by omega) ?_))))))
    rw [insB] at hR
    by_cases c : rd G (i : Int) < rd G y
    · rw [if_pos c] at hR
      refine ev_pos (by omega) (ev_pos (by rw [List.length_cons]; omega) (ev_pos (by rw [List.length_cons]; omega) ?_))
      have h := ih (y :: B) y (by rw [List.length_cons]; omega) (fun v hv => hz v (List.mem_cons_of_mem _ hv)) hR
      rw [List.reverse_cons, List.append_assoc]
      exact h
    · rw [if_neg c] at hR
      refine ev_neg (by omega) (ev_pos (by rw [List.length_cons]; omega) (ev_pos (by rw [List.length_cons]; omega) ?_))
      rw [wrap_succ (n := i) (by omega)]
      exact hR
theorem spec_sort_l2 (G o : List Int) (ho : ∀ t ∈ o, 0 ≤ t ∧ t < (G.length : Int)) (h8 : o.length ≤ 100) : ∀ d n : Nat, n + d = o.length → Ev (fun k => spec_l01Sorted.l2 k o (n : Int) G (gapsBy G (o.take n))) (gapsBy G o, o) := by
  intro d
  induction d with
  | zero =>
    intro n hn
    rw [List.take_of_length_le (by omega)]
    refine Ev.step (fun k => by rw [spec_l01Sorted.l2]) ?_
    exact ev_neg (by omega) (ev_now _)
  | succ d ih =>
    intro n hn
    have hlt : n < o.length := by omega
    have hm := ho _ (List.getElem_mem hlt)
    refine Ev.step (fun k => by rw [spec_l01Sorted.l2]) ?_
    rw [rd_nat hlt, wrap_succ (by omega)]
    have ih := ih (n + 1) (by omega)
    rw [List.take_succ_eq_append_getElem hlt, gapsBy, List.map_append] at ih
    exact ev_pos (by omega) (ev_pos (by omega) (ev_pos (by omega) (ev_pos (by omega) (ev_pos (by rw [gapsBy, List.length_map, List.length_take]; omega) ih))))
theorem l01Sorted_ev (G : List Int) (hG : ∀ x ∈ G, 1 ≤ x ∧ x ≤ 40) (h8 : G.length ≤ 8) : Ev (fun k => spec_l01Sorted.f k G) (gapsBy G (ordF G G.length), ordF G G.length) := by
  have main : ∀ d i : Nat, i + d = G.length → Ev (fun k => spec_l01Sorted.l0 k (ordF G i) (i : Int) G) (gapsBy G (ordF G G.length), ordF G G.length) := by
    intro d
    induction d with
    | zero =>
      intro i hi
      obtain rfl : i = G.length := by omega
      have hl := ordF_length G G.length
      refine Ev.step (fun k => by rw [spec_l01Sorted.l0]) (ev_fix (show spec_l01K.f G = some (G.length : Int) from rfl) ?_)
      exact ev_neg (by omega) (spec_sort_l2 G _ (fun t ht => (ordF_mem G _ t).1 ht) (by omega) G.length 0 (by omega))
    | succ d ih =>
      intro i hi
      have hl := ordF_length G i
      have ih := ih (i + 1) (by omega)
      rw [ordF] at ih
      have h := spec_ins_l1 G hG i (by omega) (by omega) _ (ordF G i).reverse [] (i : Int) (by rw [List.length_reverse, hl]; rfl) (fun y hy => by
        have := (ordF_mem G i y).1 (List.mem_reverse.1 hy); omega) ih
      rw [List.reverse_reverse, List.length_reverse] at h
      refine Ev.step (fun k => by rw [spec_l01Sorted.l0]) (ev_fix (show spec_l01K.f G = some (G.length : Int) from rfl) ?_)
      exact ev_pos (by omega) (ev_pos (by omega) h)
  unfold spec_l01Sorted.f
  exact main G.length 0 (by omega)
end Go.Proofs.Ytgbapmmfhdphmaa.Pure
end
section
namespace Go.Proofs.Ytgbapmmfhdphmaa.Pure
open Go.RowKit Go.Proofs.Ytgbapmmfhdphmaa.P Go.Proofs.YtgbapmmfhdphmaaW.PrintWords Go.Proofs.YtgbapmmfhdphmaaW.PrintLast Go.Proofs.YtgbapmmfhdphmaaW.PrintMore
set_option linter.unusedVariables false
set_option linter.unusedSimpArgs false
def fillM (g t : Nat) : Nat → Nat → List Int → List Int
  | 0, _, out => out
  | m + 1, p, out => fillM g t m (p + g) (out.set p (t : Int))
theorem fillM_length (g t : Nat) : ∀ m p out, (fillM g t m p out).length = out.length := by
  intro m
  induction m with
  | zero => intro p out; rfl
  | succ m ih => intro p out; rw [fillM, ih, List.length_set]
/-- what a task's slots are -/
theorem fillM_rd (g t : Nat) (hg : 0 < g) : ∀ (m p : Nat) (out : List Int), p + m * g < out.length + g → ∀ s : Nat, s < out.length → rd (fillM g t m p out) (s : Int) = if (p ≤ s ∧ s < p + m * g ∧ (s - p) % g = 0) then (t : Int) else rd out (s : Int) := by
  intro m
  induction m with
  | zero =>
    intro p out _ s _
    rw [fillM, if_neg (by omega)]
  | succ m ih =>
    intro p out hp s hs
    have e : (m + 1) * g = m * g + g := Nat.succ_mul m g
    rw [fillM, ih (p + g) (out.set p (t : Int)) (by rw [List.length_set]; omega) s (by rw [List.length_set]; exact hs), rd_set (by omega)]
    by_cases c : s = p
    · subst c
      rw [if_neg (by omega), if_pos rfl, if_pos ⟨by omega, by omega, by simp⟩]
    · rw [if_neg c]
      by_cases d : p + g ≤ s ∧ s < p + g + m * g ∧ (s - (p + g)) % g = 0
      · rw [if_pos d]
        have e2 : (s - p) % g = 0 := by
          rw [show s - p = s - (p + g) + g by omega, Nat.add_mod_right]
          exact d.2.2
        rw [if_pos ⟨by omega, by omega, e2⟩]
      · rw [if_neg d]
        by_cases f : p ≤ s ∧ s < p + (m + 1) * g ∧ (s - p) % g = 0
        · exfalso
          obtain ⟨f1, f2, f3⟩ := f
          have f4 : g ≤ s - p := by
            rcases Nat.lt_or_ge (s - p) g with h | h
            · rw [Nat.mod_eq_of_lt h] at f3; omega
            · exact h
          refine d ⟨by omega, by omega, ?_⟩
          rw [show s - p = s - (p + g) + g by omega, Nat.add_mod_right] at f3
          exact f3
        · rw [if_neg f]
/-- free slots repeat -/
def Per (out : List Int) (h : Nat) : Prop := ∀ s : Nat, s + h < out.length → (rd out (s : Int) < 0 ↔ rd out ((s + h : Nat) : Int) < 0)
theorem Per.mul {out : List Int} {h : Nat} (P : Per out h) : ∀ c s : Nat, s + c * h < out.length → (rd out (s : Int) < 0 ↔ rd out ((s + c * h : Nat) : Int) < 0) := by
  intro c
  induction c with
  | zero => intro s _; rw [Nat.zero_mul, Nat.add_zero]
  | succ c ih =>
    intro s hs
    have e : (c + 1) * h = c * h + h := Nat.succ_mul c h
    rw [ih s (by omega), P (s + c * h) (by omega), show s + c * h + h = s + (c + 1) * h by omega]
theorem Per.dvd {out : List Int} {h h' : Nat} (P : Per out h) (d : h ∣ h') : Per out h' := by
  obtain ⟨c, rfl⟩ := d
  intro s hs
  rw [Nat.mul_comm] at hs ⊢
  exact P.mul c s hs
def firstFree (out : List Int) : Nat := out.findIdx (fun x => decide (x < 0))
theorem firstFree_free {out : List Int} (h : firstFree out < out.length) : rd out (firstFree out : Int) < 0 := by
  rw [rd_nat h]
  have := List.findIdx_getElem (p := fun x => decide (x < 0)) (xs := out) (w := h)
  exact of_decide_eq_true this
theorem firstFree_before {out : List Int} {s : Nat} (h : s < firstFree out) (hs : s < out.length) : ¬ rd out (s : Int) < 0 := by
  rw [rd_nat hs]
  have := List.not_of_lt_findIdx (p := fun x => decide (x < 0)) h
  intro hn
  simp [hn] at this
theorem neg_zero : ∀ (l : List Int), neg l = 0 ↔ ∀ x ∈ l, ¬ x < 0 := by
  intro l
  induction l with
  | nil => simp [neg]
  | cons y l ih =>
    simp only [neg, List.forall_mem_cons]
    rw [← ih]
    split <;> omega
theorem firstFree_lt (out : List Int) : firstFree out < out.length ↔ 0 < neg out := by
  unfold firstFree
  rw [List.findIdx_lt_length]
  constructor
  · rintro ⟨x, hx, hp⟩
    rcases Nat.eq_zero_or_pos (neg out) with h | h
    · exact absurd (of_decide_eq_true hp) ((neg_zero out).1 h x hx)
    · exact h
  · intro h
    by_cases c : ∃ x, x ∈ out ∧ x < 0
    · obtain ⟨x, hx, hn⟩ := c
      exact ⟨x, hx, decide_eq_true hn⟩
    · have := (neg_zero out).2 (fun x hx hn => c ⟨x, hx, hn⟩)
      omega
theorem firstFree_small {out : List Int} {h : Nat} (P : Per out h) (hh : 0 < h) (hf : firstFree out < out.length) : firstFree out < h := by
  rcases Nat.lt_or_ge (firstFree out) h with c | c
  · exact c
  · exfalso
    have h1 := firstFree_free hf
    have h2 := P (firstFree out - h) (by omega)
    rw [show firstFree out - h + h = firstFree out by omega] at h2
    exact firstFree_before (s := firstFree out - h) (by omega) (by omega) (h2.2 h1)
/-- filling slots that are free -/
theorem fillM_neg (g t : Nat) (hg : 0 < g) : ∀ (m p : Nat) (out : List Int), p + m * g < out.length + g → (∀ j, j < m → rd out ((p + j * g : Nat) : Int) < 0) → neg (fillM g t m p out) + m = neg out := by
  intro m
  induction m with
  | zero => intro p out _ _; rfl
  | succ m ih =>
    intro p out hp hf
    have e : (m + 1) * g = m * g + g := Nat.succ_mul m g
    have h0 := hf 0 (by omega)
    rw [Nat.zero_mul, Nat.add_zero, rd_nat (by omega)] at h0
    have h1 := neg_set (t : Int) (by omega) out p (by omega) h0
    have h2 := ih (p + g) (out.set p (t : Int)) (by rw [List.length_set]; omega) (fun j hj => by
      have h3 := hf (j + 1) (by omega)
      have e2 : (j + 1) * g = j * g + g := Nat.succ_mul j g
      rw [rd_set (by omega), if_neg (by omega), show p + g + j * g = p + (j + 1) * g by omega]
      exact h3)
    rw [fillM]
    omega
/-- one task -/
structure Place (out : List Int) (N h : Nat) : Prop where
  len : out.length = N
  per : Per out h
theorem place_ok {out : List Int} {N h q : Nat} (P : Place out N h) (hh : 0 < h) (hN : N = q * h) (t : Nat) (hf : firstFree out < N) :
    Place (fillM h t q (firstFree out) out) N h ∧ neg (fillM h t q (firstFree out) out) + q = neg out := by
  have hl := P.len
  have hs := firstFree_small P.per hh (by omega)
  have hfree := firstFree_free (out := out) (by omega)
  have hp : firstFree out + q * h < out.length + h := by omega
  refine ⟨⟨by rw [fillM_length]; exact hl, fun s hs2 => ?_⟩, fillM_neg h t hh q _ out hp fun j hj => ?_⟩
  · rw [fillM_length] at hs2
    rw [fillM_rd h t hh q _ out hp s (by omega), fillM_rd h t hh q _ out hp (s + h) (by omega)]
    have e : ∀ u : Nat, u < N → ((firstFree out ≤ u ∧ u < firstFree out + q * h ∧ (u - firstFree out) % h = 0) ↔ u % h = firstFree out) := fun u hu => by
      constructor
      · rintro ⟨h1, _, h3⟩
        have h4 : u = firstFree out + (u - firstFree out) := by omega
        obtain ⟨c, hc⟩ := Nat.dvd_of_mod_eq_zero h3
        rw [h4, hc, Nat.add_mul_mod_self_left, Nat.mod_eq_of_lt hs]
      · intro h1
        have h2 := Nat.mod_add_div u h
        rw [h1] at h2
        refine ⟨by omega, by omega, ?_⟩
        rw [show u - firstFree out = h * (u / h) by omega, Nat.mul_mod_right]
    by_cases c : s % h = firstFree out
    · rw [if_pos ((e s (by omega)).2 c), if_pos ((e (s + h) (by omega)).2 (by rw [Nat.add_mod_right]; exact c))]
    · rw [if_neg (fun h5 => c ((e s (by omega)).1 h5)), if_neg (fun h5 => c (by have := (e (s + h) (by omega)).1 h5; rwa [Nat.add_mod_right] at this))]
      exact P.per s (by omega)
  · have hjq : (j + 1) * h ≤ q * h := Nat.mul_le_mul_right h hj
    have e2 : (j + 1) * h = j * h + h := Nat.succ_mul j h
    exact (P.per.mul j (firstFree out) (by omega)).1 hfree
/-- all tasks -/
def gre (G : List Int) (N : Nat) : List Int → List Int → Option (List Int)
  | [], out => some out
  | t :: ts, out => if firstFree out < N then gre G N ts (fillM (rd G t).toNat t.toNat (N / (rd G t).toNat) (firstFree out) out) else none
def need (G : List Int) (N : Nat) (t : Int) : Int := ((N / (rd G t).toNat : Nat) : Int)
theorem gre_none (G : List Int) (N : Nat) (hN : 0 < N) : ∀ (ts out : List Int), (∀ t ∈ ts, 0 ≤ t ∧ 0 < (rd G t).toNat ∧ (rd G t).toNat ∣ N) → ts.Pairwise (fun a b => (rd G a).toNat ∣ (rd G b).toNat) → (∀ h, ts.head? = some h → Place out N (rd G h).toNat) → out.length = N →
    (gre G N ts out = none ↔ sumF (need G N) ts > (neg out : Int)) := by
  intro ts
  induction ts with
  | nil => intro out _ _ _ _; simp [gre, sumF]
  | cons t ts ih =>
    intro out ht hp hh hl
    obtain ⟨h0, h1, h2⟩ := ht t List.mem_cons_self
    have P := hh t rfl
    have hq : N = N / (rd G t).toNat * (rd G t).toNat := (Nat.div_mul_cancel h2).symm
    have hnn : ∀ l : List Int, 0 ≤ sumF (need G N) l := fun l => by
      induction l with
      | nil => exact Int.le_refl _
      | cons y l ih => exact Int.add_nonneg (Int.natCast_nonneg _) ih
    rw [gre, sumF]
    by_cases c : firstFree out < N
    · rw [if_pos c]
      obtain ⟨P2, hn⟩ := place_ok P h1 hq t.toNat c
      rw [List.pairwise_cons] at hp
      rw [ih _ (fun z hz => ht z (List.mem_cons_of_mem _ hz)) hp.2 (fun h hh2 => ⟨P2.len, P2.per.dvd (hp.1 h (List.mem_of_mem_head? hh2))⟩) P2.len]
      show _ ↔ ((N / (rd G t).toNat : Nat) : Int) + _ > _
      omega
    · rw [if_neg c]
      have : neg out = 0 := by
        rcases Nat.eq_zero_or_pos (neg out) with h | h
        · exact h
        · exact absurd ((firstFree_lt out).2 h) (by omega)
      have h3 := hnn ts
      have h4 : 0 < N / (rd G t).toNat := Nat.div_pos (Nat.le_of_dvd hN h2) h1
      constructor
      · intro _
        show ((N / (rd G t).toNat : Nat) : Int) + _ > _
        omega
      · intro _; rfl
end Go.Proofs.Ytgbapmmfhdphmaa.Pure
end
section
namespace Go.Proofs.Ytgbapmmfhdphmaa.Pure
open Go.RowKit Go.Proofs.Ytgbapmmfhdphmaa.P Go.Proofs.YtgbapmmfhdphmaaW.PrintWords Go.Proofs.YtgbapmmfhdphmaaW.PrintLast Go.Proofs.YtgbapmmfhdphmaaW.PrintMore
set_option linter.unusedVariables false
set_option linter.unusedSimpArgs false
theorem Index_l0 (l : List Int) (x : Int) (hl : l.length ≤ 9223372036854775807) : ∀ d n : Nat, n + d = l.length → (∀ y ∈ l.take n, y ≠ x) → Ev (fun k => slices_Index_Sint64_int64.l0 k l x (l.length : Int) (n : Int)) (if x ∈ l then (l.idxOf x : Int) else -1) := by
  intro d
  induction d with
  | zero =>
    intro n hn hno
    refine Ev.step (fun k => by rw [slices_Index_Sint64_int64.l0]) (ev_neg (by omega) (ev_is ?_))
    rw [List.take_of_length_le (by omega)] at hno
    rw [if_neg (fun h => hno x h rfl)]
  | succ d ih =>
    intro n hn hno
    have hlt : n < l.length := by omega
    refine Ev.step (fun k => by rw [slices_Index_Sint64_int64.l0]) (ev_pos (by omega) (ev_pos (by omega) (ev_pos (by omega) ?_)))
    rw [rd_nat hlt]
    by_cases h : x = l[n]
    · refine ev_pos h (ev_is ?_)
      rw [if_pos (h ▸ List.getElem_mem hlt)]
      congr 2
      symm
      rw [List.idxOf, List.findIdx_eq hlt]
      refine ⟨by simp [h], fun j hj => ?_⟩
      have := hno l[j] (List.mem_take_iff_getElem.2 ⟨j, by omega, rfl⟩)
      simpa using this
    · refine ev_neg h ?_
      rw [wrap_succ (by omega)]
      refine ih (n + 1) (by omega) ?_
      rw [List.take_succ_eq_append_getElem hlt]
      intro y hy
      rcases List.mem_append.1 hy with hy | hy
      · exact hno y hy
      · rw [List.mem_singleton.1 hy]; exact fun e => h e.symm
theorem Index_ev (l : List Int) (x : Int) (hl : l.length ≤ 9223372036854775807) : Ev (fun k => slices_Index_Sint64_int64.f k l x) (if x ∈ l then (l.idxOf x : Int) else -1) := by
  unfold slices_Index_Sint64_int64.f
  exact Index_l0 l x hl l.length 0 (by omega) (by simp)
end Go.Proofs.Ytgbapmmfhdphmaa.Pure
end
section
namespace Go.Proofs.Ytgbapmmfhdphmaa.Pure
open Go.RowKit Go.Proofs.Ytgbapmmfhdphmaa.P Go.Proofs.YtgbapmmfhdphmaaW.PrintWords Go.Proofs.YtgbapmmfhdphmaaW.PrintLast Go.Proofs.YtgbapmmfhdphmaaW.PrintMore
set_option linter.unusedVariables false
set_option linter.unusedSimpArgs false
/-- a list of turns: idle slots are -1 -/
def IdleOk (out : List Int) : Prop := ∀ x ∈ out, -1 ≤ x
theorem fillM_idle (g t : Nat) : ∀ m p out, IdleOk out → IdleOk (fillM g t m p out) := by
  intro m
  induction m with
  | zero => intro p out h; exact h
  | succ m ih =>
    intro p out h
    rw [fillM]
    refine ih _ _ fun x hx => ?_
    rcases List.mem_or_eq_of_mem_set hx with hx | rfl
    · exact h x hx
    · omega
theorem fill_impl (G o : List Int) (hG : ∀ x ∈ G, 1 ≤ x ∧ x ≤ 40) (t : Nat) (ht : t < G.length) (N : Nat) (hN : N ≤ 1000) (i : Nat) (hi : i ≤ 1000) (R : List Int) : ∀ (m p : Nat) (out : List Int), out.length = N → (∀ j, j < m → p + j * (rd G (t : Int)).toNat < N) → N ≤ p + m * (rd G (t : Int)).toNat → p + m * (rd G (t : Int)).toNat ≤ 100000 →
    Ev (fun k => impl_Tasks_harmonic.l0 k (fillM (rd G (t : Int)).toNat t m p out) o (o.length : Int) ((i + 1 : Nat) : Int) G) R →
    Ev (fun k => impl_Tasks_harmonic.l1 k out (t : Int) (p : Int) o (o.length : Int) (i : Int) G) R := by
  have hg := hG _ (rd_mem (l := G) (i := (t : Int)) (by omega) (by omega))
  intro m
  induction m with
  | zero =>
    intro p out hl hj hle hb hR
    refine Ev.step (fun k => by rw [impl_Tasks_harmonic.l1]) ?_
    rw [wrap_succ (by omega)]
    exact ev_neg (by omega) hR
  | succ m ih =>
    intro p out hl hj hle hb hR
    have h0 := hj 0 (by omega)
    have e : (m + 1) * (rd G (t : Int)).toNat = m * (rd G (t : Int)).toNat + (rd G (t : Int)).toNat := Nat.succ_mul _ _
    refine Ev.step (fun k => by rw [impl_Tasks_harmonic.l1]) ?_
    rw [Int.toNat_natCast, wrap_id (x := (p : Int) + rd G (t : Int)) (by omega) (by omega), show (p : Int) + rd G (t : Int) = ((p + (rd G (t : Int)).toNat : Nat) : Int) by omega]
    refine ev_pos (by omega) (ev_pos (by omega) (ev_pos (by omega) (ev_pos (by omega) ?_)))
    exact ih (p + (rd G (t : Int)).toNat) _ (by rw [List.length_set]; exact hl) (fun j hj2 => by
      have h1 := hj (j + 1) (by omega)
      have e2 : (j + 1) * (rd G (t : Int)).toNat = j * (rd G (t : Int)).toNat + (rd G (t : Int)).toNat := Nat.succ_mul _ _
      omega) (by omega) (by omega) hR
theorem fill_spec (G o gs : List Int) (hG : ∀ x ∈ G, 1 ≤ x ∧ x ≤ 40) (t : Nat) (ht : t < G.length) (N : Nat) (hN : N ≤ 1000) (i : Nat) (hi : i < o.length) (hi2 : o.length ≤ 1000) (hgs : gs.length = o.length) (ho : rd o (i : Int) = (t : Int)) (hgi : rd gs (i : Int) = rd G (t : Int)) (R : List Int × Bool) : ∀ (m p : Nat) (out : List Int), out.length = N → (∀ j, j < m → p + j * (rd G (t : Int)).toNat < N) → N ≤ p + m * (rd G (t : Int)).toNat → p + m * (rd G (t : Int)).toNat ≤ 100000 →
    Ev (fun k => spec_l03Turns.l1 k o (fillM (rd G (t : Int)).toNat t m p out) ((i + 1 : Nat) : Int) gs) R →
    Ev (fun k => spec_l03Turns.l3 k o out (i : Int) (p : Int) gs) R := by
  have hg := hG _ (rd_mem (l := G) (i := (t : Int)) (by omega) (by omega))
  intro m
  induction m with
  | zero =>
    intro p out hl hj hle hb hR
    refine Ev.step (fun k => by rw [spec_l03Turns.l3]) ?_
    rw [wrap_succ (n := i) (by omega)]
    exact ev_neg (by omega) hR
  | succ m ih =>
    intro p out hl hj hle hb hR
    have h0 := hj 0 (by omega)
    have e : (m + 1) * (rd G (t : Int)).toNat = m * (rd G (t : Int)).toNat + (rd G (t : Int)).toNat := Nat.succ_mul _ _
    refine Ev.step (fun k => by rw [spec_l03Turns.l3]) ?_
    rw [ho, hgi, Int.toNat_natCast, wrap_id (x := (p : Int) + rd G (t : Int)) (by omega) (by omega), show (p : Int) + rd G (t : Int) = ((p + (rd G (t : Int)).toNat : Nat) : Int) by omega]
    refine ev_pos (by omega) (ev_pos (by omega) (ev_pos (by omega) (ev_pos (by omega) (ev_pos (by omega) ?_))))
    exact ih (p + (rd G (t : Int)).toNat) _ (by rw [List.length_set]; exact hl) (fun j hj2 => by
      have h1 := hj (j + 1) (by omega)
      have e2 : (j + 1) * (rd G (t : Int)).toNat = j * (rd G (t : Int)).toNat + (rd G (t : Int)).toNat := Nat.succ_mul _ _
      omega) (by omega) (by omega) hR
theorem idle_index {out : List Int} (h : IdleOk out) (hf : firstFree out < out.length) : (if (-1 : Int) ∈ out then (out.idxOf (-1) : Int) else -1) = (firstFree out : Int) := by
  have h1 := firstFree_free hf
  have h2 := h _ (rd_mem (l := out) (i := (firstFree out : Int)) (by omega) (by omega))
  have h3 : rd out (firstFree out : Int) = -1 := by omega
  rw [if_pos (by rw [← h3]; exact rd_mem (by omega) (by omega))]
  congr 1
  unfold firstFree List.idxOf
  have : ∀ l : List Int, IdleOk l → l.findIdx (· == (-1 : Int)) = l.findIdx (fun x => decide (x < 0)) := by
    intro l
    induction l with
    | nil => intro _; rfl
    | cons y l ih =>
      intro hl
      have hy := hl y List.mem_cons_self
      have e : (y == (-1 : Int)) = decide (y < 0) := by
        by_cases c : y < 0
        · rw [decide_eq_true c, beq_iff_eq]; omega
        · rw [decide_eq_false c]; exact beq_eq_false_iff_ne.2 (by omega)
      rw [List.findIdx_cons, List.findIdx_cons, e, ih (fun x hx => hl x (List.mem_cons_of_mem _ hx))]
  exact this out h
/-- the conditions of harmonic gaps, by the order of tasks -/
structure Harm (G : List Int) (N : Nat) (ts : List Int) : Prop where
  mem : ∀ t ∈ ts, 0 ≤ t ∧ t < (G.length : Int)
  dvd : ∀ t ∈ ts, (rd G t).toNat ∣ N
  pw : ts.Pairwise (fun a b => (rd G a).toNat ∣ (rd G b).toNat)
theorem fill_bounds {N g q f : Nat} (hg : 0 < g) (hq : N = q * g) (hf : f < g) : (∀ j, j < q → f + j * g < N) ∧ N ≤ f + q * g := by
  refine ⟨fun j hj => ?_, by omega⟩
  have h1 : (j + 1) * g ≤ q * g := Nat.mul_le_mul_right g hj
  have h2 : (j + 1) * g = j * g + g := Nat.succ_mul j g
  omega
theorem impl_harm_l0 (G o : List Int) (hG : ∀ x ∈ G, 1 ≤ x ∧ x ≤ 40) (N : Nat) (hN : N ≤ 40) (ho : o.length ≤ 8) : ∀ (ts : List Int) (i : Nat) (out : List Int), o.drop i = ts → i ≤ o.length → Harm G N ts → (∀ h, ts.head? = some h → Place out N (rd G h).toNat) → out.length = N → IdleOk out → ∀ r, gre G N ts out = some r →
    Ev (fun k => impl_Tasks_harmonic.l0 k out o (o.length : Int) (i : Int) G) r := by
  intro ts
  induction ts with
  | nil =>
    intro i out hd hi _ _ _ _ r hr
    have hlen : o.length - i = 0 := by rw [← List.length_drop, hd]; rfl
    rw [gre] at hr
    obtain rfl := Option.some.inj hr
    refine Ev.step (fun k => by rw [impl_Tasks_harmonic.l0]) ?_
    exact ev_neg (by omega) (ev_now _)
  | cons t ts ih =>
    intro i out hd hi hh hp hl hid r hr
    have hlen : o.length - i = ts.length + 1 := by rw [← List.length_drop, hd]; rfl
    have ht := hh.mem t List.mem_cons_self
    have hgt := hG _ (rd_mem ht.1 ht.2)
    have hdv := hh.dvd t List.mem_cons_self
    have P := hp t rfl
    have hro : rd o (i : Int) = t := by
      rw [rd_nat (by omega)]
      have h1 : (o.drop i)[0]? = some t := by rw [hd]; rfl
      rw [List.getElem?_drop, Nat.add_zero] at h1
      exact (List.getElem?_eq_some_iff.1 h1).2
    have hq : N = N / (rd G t).toNat * (rd G t).toNat := (Nat.div_mul_cancel hdv).symm
    rw [gre] at hr
    by_cases c : firstFree out < N
    · rw [if_pos c] at hr
      obtain ⟨P2, _⟩ := place_ok P (by omega) hq t.toNat c
      have hs := firstFree_small P.per (by omega) (by omega)
      have hb := fill_bounds (g := (rd G t).toNat) (by omega) hq hs
      have pw := hh.pw
      rw [List.pairwise_cons] at pw
      have hI := Index_ev out (-1) (by omega)
      rw [idle_index hid (by omega)] at hI
      have hn := ih (i + 1) _ (by rw [← List.drop_drop, hd]; rfl) (by omega) ⟨fun z hz => hh.mem z (List.mem_cons_of_mem _ hz), fun z hz => hh.dvd z (List.mem_cons_of_mem _ hz), pw.2⟩ (fun h hh2 => ⟨P2.len, P2.per.dvd (pw.1 h (List.mem_of_mem_head? hh2))⟩) P2.len (fillM_idle _ _ _ _ _ hid) r hr
      obtain ⟨tn, rfl⟩ : ∃ tn : Nat, t = tn := ⟨t.toNat, by omega⟩
      rw [Int.toNat_natCast] at hn
      refine Ev.step (fun k => by rw [impl_Tasks_harmonic.l0]) ?_
      rw [hro]
      refine ev_pos (by omega) (ev_pos (by omega) (ev_pos (by omega) (ev_bind hI ?_)))
      exact fill_impl G o hG tn (by omega) N (by omega) i (by omega) r _ _ out hl hb.1 hb.2 (by omega) hn
    · rw [if_neg c] at hr
      exact absurd hr (by simp)
theorem spec_free (o gs : List Int) (i : Nat) (out : List Int) (hl : out.length ≤ 1000) (R : List Int × Bool) (hR : Ev (fun k => spec_l03Turns.j3 k o out (i : Int) (firstFree out : Int) gs) R) : ∀ d n : Nat, n + d = firstFree out →
    Ev (fun k => spec_l03Turns.l2 k o out (i : Int) (n : Int) gs) R := by
  have hle : firstFree out ≤ out.length := List.findIdx_le_length
  intro d
  induction d with
  | zero =>
    intro n hn
    obtain rfl : n = firstFree out := by omega
    refine Ev.step (fun k => by rw [spec_l03Turns.l2]) ?_
    by_cases c : firstFree out < out.length
    · have := firstFree_free c
      exact ev_pos (by omega) (ev_pos (by omega) (ev_neg (by omega) hR))
    · exact ev_neg (by omega) hR
  | succ d ih =>
    intro n hn
    have := firstFree_before (out := out) (s := n) (by omega) (by omega)
    refine Ev.step (fun k => by rw [spec_l03Turns.l2]) ?_
    rw [wrap_succ (by omega)]
    exact ev_pos (by omega) (ev_pos (by omega) (ev_pos (by omega) (ih (n + 1) (by omega))))
theorem spec_harm_l1 (G o : List Int) (hG : ∀ x ∈ G, 1 ≤ x ∧ x ≤ 40) (N : Nat) (hN : N ≤ 40) (ho : o.length ≤ 8) : ∀ (ts : List Int) (i : Nat) (out : List Int), o.drop i = ts → i ≤ o.length → Harm G N ts → (∀ h, ts.head? = some h → Place out N (rd G h).toNat) → out.length = N →
    Ev (fun k => spec_l03Turns.l1 k o out (i : Int) (gapsBy G o)) (match gre G N ts out with | some r => (r, true) | none => ([], false)) := by
  intro ts
  induction ts with
  | nil =>
    intro i out hd hi _ _ _
    have hlen : o.length - i = 0 := by rw [← List.length_drop, hd]; rfl
    rw [gre]
    refine Ev.step (fun k => by rw [spec_l03Turns.l1]) ?_
    exact ev_neg (by omega) (ev_now _)
  | cons t ts ih =>
    intro i out hd hi hh hp hl
    have hlen : o.length - i = ts.length + 1 := by rw [← List.length_drop, hd]; rfl
    have ht := hh.mem t List.mem_cons_self
    have hgt := hG _ (rd_mem ht.1 ht.2)
    have hdv := hh.dvd t List.mem_cons_self
    have P := hp t rfl
    have hle : firstFree out ≤ out.length := List.findIdx_le_length
    have hro : rd o (i : Int) = t := by
      rw [rd_nat (by omega)]
      have h1 : (o.drop i)[0]? = some t := by rw [hd]; rfl
      rw [List.getElem?_drop, Nat.add_zero] at h1
      exact (List.getElem?_eq_some_iff.1 h1).2
    have hgl : (gapsBy G o).length = o.length := List.length_map _
    have hrg : rd (gapsBy G o) (i : Int) = rd G t := by
      rw [rd_nat (by omega)]
      rw [rd_nat (by omega)] at hro
      simp only [gapsBy, List.getElem_map, hro]
    have hq : N = N / (rd G t).toNat * (rd G t).toNat := (Nat.div_mul_cancel hdv).symm
    refine Ev.step (fun k => by rw [spec_l03Turns.l1]) ?_
    refine ev_pos (by omega) (spec_free o (gapsBy G o) i out (by omega) _ ?_ (firstFree out) 0 (by omega))
    refine Ev.step (fun k => by rw [spec_l03Turns.j3]) ?_
    rw [gre]
    by_cases c : firstFree out < N
    · obtain ⟨P2, _⟩ := place_ok P (by omega) hq t.toNat c
      have hs := firstFree_small P.per (by omega) (by omega)
      have hb := fill_bounds (g := (rd G t).toNat) (by omega) hq hs
      have pw := hh.pw
      rw [List.pairwise_cons] at pw
      have hn := ih (i + 1) _ (by rw [← List.drop_drop, hd]; rfl) (by omega) ⟨fun z hz => hh.mem z (List.mem_cons_of_mem _ hz), fun z hz => hh.dvd z (List.mem_cons_of_mem _ hz), pw.2⟩ (fun h hh2 => ⟨P2.len, P2.per.dvd (pw.1 h (List.mem_of_mem_head? hh2))⟩) P2.len
      obtain ⟨tn, rfl⟩ : ∃ tn : Nat, t = tn := ⟨t.toNat, by omega⟩
      rw [Int.toNat_natCast] at hn
      have key := fill_spec G o (gapsBy G o) hG tn (by omega) N (by omega) i (by omega) (by omega) hgl hro hrg _ _ (firstFree out) out hl hb.1 hb.2 (by omega) hn
      refine ev_neg (by omega) ?_
      rw [if_pos c, Int.toNat_natCast]
      exact key
    · rw [if_neg c]
      exact ev_pos (by omega) (ev_now _)
end Go.Proofs.Ytgbapmmfhdphmaa.Pure
end
section
namespace Go.Proofs.Ytgbapmmfhdphmaa.Pure
open Go.RowKit Go.Proofs.Ytgbapmmfhdphmaa.P Go.Proofs.YtgbapmmfhdphmaaW.PrintWords Go.Proofs.YtgbapmmfhdphmaaW.PrintLast Go.Proofs.YtgbapmmfhdphmaaW.PrintMore
set_option linter.unusedVariables false
set_option linter.unusedSimpArgs false
/-- the least common multiple of a and the numbers of a list -/
def lcmN : Nat → List Int → Nat
  | a, [] => a
  | a, g :: l => lcmN (Nat.lcm a g.toNat) l
theorem lcmN_append (a : Nat) (l m : List Int) : lcmN a (l ++ m) = lcmN (lcmN a l) m := by
  induction l generalizing a with
  | nil => rfl
  | cons g l ih => simp only [List.cons_append, lcmN, ih]
theorem lcmN_take_succ (a : Nat) (l : List Int) (n : Nat) (h : n < l.length) : lcmN a (l.take (n + 1)) = Nat.lcm (lcmN a (l.take n)) (l[n]).toNat := by
  rw [List.take_succ_eq_append_getElem h, lcmN_append]; rfl
theorem lcmN_pos (a : Nat) (ha : 0 < a) (l : List Int) (h : ∀ x ∈ l, 1 ≤ x) : 0 < lcmN a l := by
  induction l generalizing a with
  | nil => exact ha
  | cons g l ih =>
    have := h g List.mem_cons_self
    exact ih _ (Nat.lcm_pos ha (by omega)) (fun x hx => h x (List.mem_cons_of_mem _ hx))
theorem lcmN_le (l : List Int) (h : ∀ x ∈ l, 1 ≤ x ∧ x ≤ 60) : ∀ a, lcmN a l ≤ a * 60 ^ l.length := by
  induction l with
  | nil => intro a; simp [lcmN]
  | cons g l ih =>
    intro a
    have h1 := h g List.mem_cons_self
    have h2 := ih (fun x hx => h x (List.mem_cons_of_mem _ hx)) (Nat.lcm a g.toNat)
    have h3 : Nat.lcm a g.toNat ≤ a * 60 := Nat.le_trans (lcm_le _ _) (Nat.mul_le_mul_left _ (by omega))
    refine Nat.le_trans h2 ?_
    rw [List.length_cons, Nat.pow_succ, Nat.mul_comm (60 ^ l.length) 60, ← Nat.mul_assoc]
    exact Nat.mul_le_mul_right _ h3
theorem lcmN_le8 {l : List Int} (h : ∀ x ∈ l, 1 ≤ x ∧ x ≤ 60) (hl : l.length ≤ 8) : lcmN 1 l ≤ 167961600000000 := by
  have h1 := lcmN_le l h 1
  have h2 : 60 ^ l.length ≤ 60 ^ 8 := Nat.pow_le_pow_right (by omega) hl
  omega
theorem dvd_lcmN_self (a : Nat) (l : List Int) : a ∣ lcmN a l := by
  induction l generalizing a with
  | nil => exact Nat.dvd_refl _
  | cons g l ih => exact Nat.dvd_trans (Nat.dvd_lcm_left _ _) (ih _)
theorem dvd_lcmN (a : Nat) (l : List Int) (x : Int) (hx : x ∈ l) : x.toNat ∣ lcmN a l := by
  induction l generalizing a with
  | nil => cases hx
  | cons g l ih =>
    rcases List.mem_cons.1 hx with rfl | hx
    · exact Nat.dvd_trans (Nat.dvd_lcm_right _ _) (dvd_lcmN_self _ _)
    · exact ih _ hx
theorem lcmN_dvd (a : Nat) (l : List Int) (m : Nat) (ha : a ∣ m) (h : ∀ x ∈ l, x.toNat ∣ m) : lcmN a l ∣ m := by
  induction l generalizing a with
  | nil => exact ha
  | cons g l ih => exact ih _ (Nat.lcm_dvd ha (h g List.mem_cons_self)) (fun x hx => h x (List.mem_cons_of_mem _ hx))
theorem multiple_l0 (l : List Int) (hl : l.length ≤ 8) (h : ∀ x ∈ l, 1 ≤ x ∧ x ≤ 60) : ∀ d n : Nat, n + d = l.length →
    Ev (fun k => impl_Tasks_multiple.l0 k ((lcmN 1 (l.take n) : Nat) : Int) l (l.length : Int) (n : Int)) ((lcmN 1 l : Nat) : Int) := by
  intro d
  induction d with
  | zero =>
    intro n hn
    rw [List.take_of_length_le (by omega)]
    refine Ev.step (fun k => by rw [impl_Tasks_multiple.l0]) ?_
    exact ev_neg (by omega) (ev_now _)
  | succ d ih =>
    intro n hn
    have hlt : n < l.length := by omega
    have hx := h _ (List.getElem_mem hlt)
    have hm : ∀ x ∈ l.take n, 1 ≤ x ∧ x ≤ 60 := fun x hx => h x (List.mem_of_mem_take hx)
    have hp := lcmN_pos 1 (by omega) (l.take n) (fun x hx => (hm x hx).1)
    have hb := lcmN_le8 hm (by rw [List.length_take]; omega)
    have hih := ih (n + 1) (by omega)
    rw [lcmN_take_succ _ _ _ hlt] at hih
    generalize lcmN 1 (l.take n) = a at hp hb hih ⊢
    obtain ⟨g, hg⟩ : ∃ g : Nat, l[n] = (g : Int) := ⟨(l[n]).toNat, by omega⟩
    rw [hg, Int.toNat_natCast] at hih
    rw [hg] at hx
    have hgp : 0 < Nat.gcd a g := Nat.gcd_pos_of_pos_left _ hp
    have h1 := Nat.div_le_self a (Nat.gcd a g)
    have h2 : Nat.lcm a g ≤ a * 60 := Nat.le_trans (lcm_le _ _) (Nat.mul_le_mul_left _ (by omega))
    refine Ev.step (fun k => by rw [impl_Tasks_multiple.l0]) ?_
    refine ev_pos (by omega) (ev_pos (by omega) (ev_pos (by omega) ?_))
    rw [rd_nat hlt, hg]
    refine ev_bind (divisor_ev a g) (ev_neg (by omega) ?_)
    rw [tdiv_nat, wrap_nat (Nat.le_trans h1 (by omega)), ← Int.natCast_mul, lcm_div, wrap_nat (Nat.le_trans h2 (by omega)), wrap_succ (by omega)]
    exact hih
theorem multiple_ev (l : List Int) (hl : l.length ≤ 8) (h : ∀ x ∈ l, 1 ≤ x ∧ x ≤ 60) : Ev (fun k => impl_Tasks_multiple.f k l) ((lcmN 1 l : Nat) : Int) := by
  unfold impl_Tasks_multiple.f
  exact multiple_l0 l hl h l.length 0 (by omega)
end Go.Proofs.Ytgbapmmfhdphmaa.Pure
end
section
namespace Go.Proofs.Ytgbapmmfhdphmaa.Pure
set_option linter.unusedVariables false
set_option linter.unusedSimpArgs false
theorem tmod_nat (m n : Nat) : Int.tmod (m : Int) (n : Int) = ((m % n : Nat) : Int) := rfl
end Go.Proofs.Ytgbapmmfhdphmaa.Pure
end
section
namespace Go.Proofs.Ytgbapmmfhdphmaa.Pure
open Go.RowKit Go.Proofs.Ytgbapmmfhdphmaa.P Go.Proofs.YtgbapmmfhdphmaaW.PrintWords Go.Proofs.YtgbapmmfhdphmaaW.PrintLast Go.Proofs.YtgbapmmfhdphmaaW.PrintMore
set_option linter.unusedVariables false
set_option linter.unusedSimpArgs false
def harmP (a b : Int) : Bool := Int.tmod (mx a b) (mn a b) == 0
theorem harmP_iff {a b : Int} (ha : 1 ≤ a) (hb : 1 ≤ b) : harmP a b = true ↔ (Int.tmod a b = 0 ∨ Int.tmod b a = 0) := by
  obtain ⟨x, rfl⟩ : ∃ x : Nat, a = x := ⟨a.toNat, by omega⟩
  obtain ⟨y, rfl⟩ : ∃ y : Nat, b = y := ⟨b.toNat, by omega⟩
  rw [tmod_nat, tmod_nat]
  unfold harmP mx mn
  rw [beq_iff_eq]
  by_cases c : (x : Int) < (y : Int)
  · rw [if_pos c, if_neg (by omega), tmod_nat]
    have : x % y = x := Nat.mod_eq_of_lt (by omega)
    omega
  · rw [if_neg c]
    by_cases d : (y : Int) < (x : Int)
    · rw [if_pos d, tmod_nat]
      have : y % x = y := Nat.mod_eq_of_lt (by omega)
      omega
    · rw [if_neg d]
      obtain rfl : x = y := by omega
      rw [tmod_nat, Nat.mod_self]
      omega
theorem harmP_dvd {a b : Int} (ha : 1 ≤ a) (hb : 1 ≤ b) (h : harmP a b = true) (hab : a ≤ b) : a.toNat ∣ b.toNat := by
  rw [harmP_iff ha hb] at h
  obtain ⟨x, rfl⟩ : ∃ x : Nat, a = x := ⟨a.toNat, by omega⟩
  obtain ⟨y, rfl⟩ : ∃ y : Nat, b = y := ⟨b.toNat, by omega⟩
  rw [tmod_nat, tmod_nat] at h
  rw [Int.toNat_natCast, Int.toNat_natCast]
  rcases h with h | h
  · by_cases c : x = y
    · subst c; exact Nat.dvd_refl _
    · have : x % y = x := Nat.mod_eq_of_lt (by omega)
      omega
  · exact Nat.dvd_of_mod_eq_zero (by omega)
def harmB (G : List Int) : Bool := G.all fun a => G.all fun b => harmP a b
theorem isHarmonic_f (G : List Int) (hG : ∀ x ∈ G, 1 ≤ x ∧ x ≤ 40) : impl_Tasks_isHarmonic.f G = some (harmB G) := by
  unfold impl_Tasks_isHarmonic.f
  rw [if_pos (fun x hx => (hG x hx).1)]
  rfl
theorem harmB_iff (G : List Int) : harmB G = true ↔ ∀ i j : Nat, i < G.length → j < G.length → harmP (rd G i) (rd G j) = true := by
  unfold harmB
  rw [List.all_eq_true]
  constructor
  · intro h i j hi hj
    have := h _ (rd_mem (l := G) (i := (i : Int)) (by omega) (by omega))
    rw [List.all_eq_true] at this
    exact this _ (rd_mem (by omega) (by omega))
  · intro h a ha
    rw [List.all_eq_true]
    intro b hb
    obtain ⟨i, hi, rfl⟩ := List.getElem_of_mem ha
    obtain ⟨j, hj, rfl⟩ := List.getElem_of_mem hb
    have := h i j hi hj
    rwa [rd_nat hi, rd_nat hj] at this
def pairOk (G : List Int) (i j : Nat) : Prop := Int.tmod (rd G i) (rd G j) = 0 ∨ Int.tmod (rd G j) (rd G i) = 0
theorem l03_l1 (G : List Int) (hG : ∀ x ∈ G, 1 ≤ x ∧ x ≤ 40) (h8 : G.length ≤ 8) (i : Nat) (hi : i < G.length) (R : Bool) : ∀ d j : Nat, j + d = i →
    ((∀ m : Nat, j ≤ m → m < i → pairOk G i m) → Ev (fun k => spec_l03Harmonic.l0 k ((i + 1 : Nat) : Int) G) R) → ((¬ ∀ m : Nat, j ≤ m → m < i → pairOk G i m) → R = false) →
    Ev (fun k => spec_l03Harmonic.l1 k (i : Int) (j : Int) G) R := by
  intro d
  induction d with
  | zero =>
    intro j hj h1 h2
    refine Ev.step (fun k => by rw [spec_l03Harmonic.l1]) ?_
    rw [wrap_succ (n := i) (by omega)]
    exact ev_neg (by omega) (h1 (fun m hm1 hm2 => by omega))
  | succ d ih =>
    intro j hj h1 h2
    have gi := hG _ (rd_mem (l := G) (i := (i : Int)) (by omega) (by omega))
    have gj := hG _ (rd_mem (l := G) (i := (j : Int)) (by omega) (by omega))
    have go : pairOk G i j → Ev (fun k => spec_l03Harmonic.l1 k (i : Int) ((j + 1 : Nat) : Int) G) R := fun hp => by
      refine ih (j + 1) (by omega) (fun h => h1 fun m hm1 hm2 => ?_) (fun h => h2 fun hall => h fun m hm1 hm2 => hall m (by omega) hm2)
      by_cases e : m = j
      · subst e; exact hp
      · exact h m (by omega) hm2
    refine Ev.step (fun k => by rw [spec_l03Harmonic.l1]) ?_
    rw [wrap_succ (n := j) (by omega)]
    refine ev_pos (by omega) (ev_pos (by omega) (ev_pos (by omega) (ev_pos (by omega) (ev_pos (by omega) (ev_neg (by omega) ?_)))))
    by_cases c : Int.tmod (rd G i) (rd G j) = 0
    · exact ev_pos c (go (.inl c))
    · refine ev_neg c (ev_neg (by omega) ?_)
      by_cases c2 : Int.tmod (rd G j) (rd G i) = 0
      · exact ev_pos c2 (go (.inr c2))
      · refine ev_neg c2 (ev_is ?_)
        rw [h2 (fun hall => by
          rcases hall j (by omega) (by omega) with h | h
          · exact c h
          · exact c2 h)]
theorem l03_l0 (G : List Int) (hG : ∀ x ∈ G, 1 ≤ x ∧ x ≤ 40) (h8 : G.length ≤ 8) (R : Bool) : ∀ d i : Nat, i + d = G.length →
    ((∀ a b : Nat, i ≤ a → a < G.length → b < a → pairOk G a b) → R = true) → ((¬ ∀ a b : Nat, i ≤ a → a < G.length → b < a → pairOk G a b) → R = false) →
    Ev (fun k => spec_l03Harmonic.l0 k (i : Int) G) R := by
  intro d
  induction d with
  | zero =>
    intro i hi h1 h2
    refine Ev.step (fun k => by rw [spec_l03Harmonic.l0]) ?_
    exact ev_neg (by omega) (ev_is (by rw [h1 (fun a b ha1 ha2 => by omega)]))
  | succ d ih =>
    intro i hi h1 h2
    refine Ev.step (fun k => by rw [spec_l03Harmonic.l0]) ?_
    refine ev_pos (by omega) (l03_l1 G hG h8 i (by omega) R i 0 (by omega) (fun hrow => ?_) (fun hno => ?_))
    · refine ih (i + 1) (by omega) (fun h => h1 fun a b ha1 ha2 hb => ?_) (fun h => h2 fun hall => h fun a b ha1 ha2 hb => hall a b (by omega) ha2 hb)
      by_cases e : a = i
      · subst e; exact hrow b (by omega) hb
      · exact h a b (by omega) ha2 hb
    · exact h2 fun hall => hno fun m _ hm => hall i m (by omega) (by omega) hm
theorem l03Harmonic_ev (G : List Int) (hG : ∀ x ∈ G, 1 ≤ x ∧ x ≤ 40) (h8 : G.length ≤ 8) : Ev (fun k => spec_l03Harmonic.f k G) (harmB G) := by
  have g : ∀ i : Nat, i < G.length → 1 ≤ rd G i := fun i hi => (hG _ (rd_mem (by omega) (by omega))).1
  have key : harmB G = true ↔ ∀ a b : Nat, 0 ≤ a → a < G.length → b < a → pairOk G a b := by
    rw [harmB_iff]
    constructor
    · intro h a b _ ha hb
      exact (harmP_iff (g a ha) (g b (by omega))).1 (h a b ha (by omega))
    · intro h i j hi hj
      rw [harmP_iff (g i hi) (g j hj)]
      rcases Nat.lt_trichotomy i j with c | c | c
      · rcases h j i (by omega) hj c with h | h
        · exact .inr h
        · exact .inl h
      · subst c
        left
        obtain ⟨x, hx⟩ : ∃ x : Nat, rd G i = x := ⟨(rd G i).toNat, by have := g i hi; omega⟩
        rw [hx, tmod_nat, Nat.mod_self]; rfl
      · exact h i j (by omega) hi c
  unfold spec_l03Harmonic.f
  refine l03_l0 G hG h8 _ G.length 0 (by omega) (fun h => key.2 h) (fun h => ?_)
  cases hh : harmB G with
  | false => rfl
  | true => exact absurd (key.1 hh) h
/-- the order of harmonic tasks -/
theorem harm_great {G : List Int} (hG : ∀ x ∈ G, 1 ≤ x ∧ x ≤ 40) (h1 : 1 ≤ G.length) : great G ∈ G ∧ 1 ≤ great G ∧ great G ≤ 40 := by
  have hle := great_le (l := G) (b := 40) (by omega) fun x hx => (hG x hx).2
  have hmem : ∀ (l : List Int) (a : Int), (∀ x ∈ l, 1 ≤ x) → l.foldl mx a = a ∨ l.foldl mx a ∈ l := by
    intro l
    induction l with
    | nil => intro a _; exact .inl rfl
    | cons y l ih =>
      intro a h
      rw [List.foldl_cons]
      rcases ih (mx a y) (fun x hx => h x (List.mem_cons_of_mem _ hx)) with h2 | h2
      · rw [h2]
        unfold mx
        split
        · exact .inr List.mem_cons_self
        · exact .inl rfl
      · exact .inr (List.mem_cons_of_mem _ h2)
  have h0 := great_pos (l := G) (x := G[0]) (List.getElem_mem (by omega))
  have h2 := hG _ (List.getElem_mem (l := G) (n := 0) (by omega))
  refine ⟨?_, by omega, hle⟩
  rcases hmem G 0 (fun x hx => (hG x hx).1) with h | h
  · unfold great at h0; omega
  · exact h
theorem harm_dvd_great {G : List Int} (hG : ∀ x ∈ G, 1 ≤ x ∧ x ≤ 40) (h1 : 1 ≤ G.length) (hh : harmB G = true) : ∀ x ∈ G, x.toNat ∣ (great G).toNat := fun x hx => by
  obtain ⟨hm, hg1, _⟩ := harm_great hG h1
  unfold harmB at hh
  rw [List.all_eq_true] at hh
  have := hh x hx
  rw [List.all_eq_true] at this
  exact harmP_dvd (hG x hx).1 hg1 (this _ hm) (great_pos hx)
theorem harm_lcm {G : List Int} (hG : ∀ x ∈ G, 1 ≤ x ∧ x ≤ 40) (h1 : 1 ≤ G.length) (hh : harmB G = true) : lcmN 1 G = (great G).toNat :=
  Nat.dvd_antisymm (lcmN_dvd 1 G _ (Nat.one_dvd _) (harm_dvd_great hG h1 hh)) (dvd_lcmN 1 G _ (harm_great hG h1).1)
theorem harm_order {G : List Int} (hG : ∀ x ∈ G, 1 ≤ x ∧ x ≤ 40) (h1 : 1 ≤ G.length) (hh : harmB G = true) : Harm G (great G).toNat (ordF G G.length) := by
  have hm : ∀ t ∈ ordF G G.length, 0 ≤ t ∧ t < (G.length : Int) := fun t ht => (ordF_mem G _ t).1 ht
  refine ⟨hm, fun t ht => harm_dvd_great hG h1 hh _ (rd_mem (hm t ht).1 (hm t ht).2), ?_⟩
  have hs := ordF_sorted G G.length
  rw [harmB_iff] at hh
  refine List.Pairwise.imp_of_mem (fun {a b} ha hb hab => ?_) hs
  have h2 := hm a ha
  have h3 := hm b hb
  have h4 := hh a.toNat b.toNat (by omega) (by omega)
  rw [show ((a.toNat : Nat) : Int) = a by omega, show ((b.toNat : Nat) : Int) = b by omega] at h4
  exact harmP_dvd (hG _ (rd_mem h2.1 h2.2)).1 (hG _ (rd_mem h3.1 h3.2)).1 h4 hab
theorem last_gap {G : List Int} (hG : ∀ x ∈ G, 1 ≤ x ∧ x ≤ 40) (h1 : 1 ≤ G.length) : rd (gapsBy G (ordF G G.length)) ((G.length - 1 : Nat) : Int) = great G := by
  have hl := ordF_length G G.length
  have hs := List.pairwise_iff_getElem.1 (ordF_sorted G G.length)
  have hgl : (gapsBy G (ordF G G.length)).length = G.length := by rw [gapsBy, List.length_map, hl]
  rw [rd_nat (by omega)]
  simp only [gapsBy, List.getElem_map]
  have hm := (ordF_mem G _ _).1 (List.getElem_mem (l := ordF G G.length) (n := G.length - 1) (by omega))
  have ha := great_pos (rd_mem hm.1 hm.2)
  have hb : great G ≤ rd G (ordF G G.length)[G.length - 1] := great_le (by have := hG _ (rd_mem hm.1 hm.2); omega) fun x hx => by
    obtain ⟨i, hi, rfl⟩ := List.getElem_of_mem hx
    have hio := (ordF_mem G G.length (i : Int)).2 (by omega)
    obtain ⟨j, hj, ej⟩ := List.getElem_of_mem hio
    have e : G[i] = rd G (ordF G G.length)[j] := by rw [ej, rd_nat hi]
    rw [e]
    rcases Nat.lt_or_ge j (G.length - 1) with c | c
    · exact hs j (G.length - 1) (by omega) (by omega) c
    · have : j = G.length - 1 := by omega
      subst this
      exact Int.le_refl _
  omega
end Go.Proofs.Ytgbapmmfhdphmaa.Pure
end
section
namespace Go.Proofs.Ytgbapmmfhdphmaa.Pure
open Go.RowKit Go.Proofs.Ytgbapmmfhdphmaa.P Go.Proofs.YtgbapmmfhdphmaaW.PrintWords Go.Proofs.YtgbapmmfhdphmaaW.PrintLast Go.Proofs.YtgbapmmfhdphmaaW.PrintMore
set_option linter.unusedVariables false
set_option linter.unusedSimpArgs false
def sumG (N : Nat) (l : List Int) : Nat := match l with | [] => 0 | g :: l => N / g.toNat + sumG N l
theorem sumG_append (N : Nat) (a b : List Int) : sumG N (a ++ b) = sumG N a + sumG N b := by
  induction a with
  | nil => simp [sumG]
  | cons y a ih => simp only [List.cons_append, sumG, ih]; omega
theorem sumG_le (N : Nat) (l : List Int) : sumG N l ≤ l.length * N := by
  induction l with
  | nil => simp [sumG]
  | cons y l ih =>
    have := Nat.div_le_self N y.toNat
    rw [sumG, List.length_cons, Nat.succ_mul]
    omega
theorem sumG_map (G : List Int) (N : Nat) : ∀ n : Nat, n ≤ G.length → sumF (fun i => need G N i) ((List.range' 0 n).map fun (i : Nat) => (i : Int)) = (sumG N (G.take n) : Int) := by
  intro n
  induction n with
  | zero => intro _; rfl
  | succ n ih =>
    intro hn
    have hlt : n < G.length := by omega
    rw [List.range'_1_concat, List.map_append, sumF_append, ih (by omega), List.take_succ_eq_append_getElem hlt, sumG_append, Int.natCast_add]
    congr 1
    simp only [List.map_cons, List.map_nil, sumF, sumG, Nat.zero_add, Nat.add_zero, Int.add_zero, need, rd_nat hlt]
theorem density_l0 (G : List Int) (hG : ∀ x ∈ G, 1 ≤ x ∧ x ≤ 40) (h8 : G.length ≤ 8) (N : Nat) (hN : 1 ≤ N ∧ N ≤ 40) (R : Int × Int)
    (hR : R = (((sumG N G / Nat.gcd (sumG N G) N : Nat) : Int), ((N / Nat.gcd (sumG N G) N : Nat) : Int))) : ∀ d n : Nat, n + d = G.length →
    Ev (fun k => impl_Tasks_density.l0 k (N : Int) ((sumG N (G.take n) : Nat) : Int) G (G.length : Int) (n : Int)) R := by
  intro d
  induction d with
  | zero =>
    intro n hn
    rw [List.take_of_length_le (by omega)]
    have hs := sumG_le N G
    have hb : sumG N G ≤ 8 * 40 := Nat.le_trans hs (Nat.mul_le_mul h8 hN.2)
    have hg : 0 < Nat.gcd (sumG N G) N := Nat.gcd_pos_of_pos_right _ (by omega)
    have h1 := Nat.div_le_self (sumG N G) (Nat.gcd (sumG N G) N)
    have h2 := Nat.div_le_self N (Nat.gcd (sumG N G) N)
    refine Ev.step (fun k => by rw [impl_Tasks_density.l0]) ?_
    refine ev_neg (by omega) (ev_bind (divisor_ev (sumG N G) N) (ev_neg (by omega) ?_))
    rw [tdiv_nat, tdiv_nat, wrap_nat (by omega), wrap_nat (by omega), hR]
    exact ev_now _
  | succ d ih =>
    intro n hn
    have hlt : n < G.length := by omega
    have hg := hG _ (List.getElem_mem hlt)
    have hs := sumG_le N (G.take n)
    rw [List.length_take] at hs
    have hb : sumG N (G.take n) ≤ 8 * 40 := Nat.le_trans hs (Nat.mul_le_mul (by omega) hN.2)
    have h1 := Nat.div_le_self N (G[n]).toNat
    have ih := ih (n + 1) (by omega)
    rw [List.take_succ_eq_append_getElem hlt, sumG_append] at ih
    refine Ev.step (fun k => by rw [impl_Tasks_density.l0]) ?_
    rw [rd_nat hlt, wrap_succ (n := n) (by omega), show Int.tdiv (N : Int) G[n] = ((N / (G[n]).toNat : Nat) : Int) by
      conv => lhs; rw [show G[n] = ((G[n].toNat : Nat) : Int) by omega]
      exact tdiv_nat _ _]
    rw [wrap_nat (n := N / (G[n]).toNat) (by omega), ← Int.natCast_add, wrap_nat (by omega)]
    refine ev_pos (by omega) (ev_pos (by omega) (ev_pos (by omega) (ev_neg (by omega) ?_)))
    have e : sumG N (G.take n) + N / (G[n]).toNat = sumG N (G.take n) + sumG N [G[n]] := by simp [sumG]
    rw [e]
    exact ih
theorem isThin_ev (G : List Int) (hG : ∀ x ∈ G, 1 ≤ x ∧ x ≤ 40) (h8 : 1 ≤ G.length ∧ G.length ≤ 8) (hh : harmB G = true) : Ev (fun k => impl_Tasks_isThin.f k G) (decide (sumG (great G).toNat G ≤ (great G).toNat)) := by
  obtain ⟨_, g1, g2⟩ := harm_great hG h8.1
  have hm := multiple_ev G h8.2 (fun x hx => by have := hG x hx; omega)
  rw [harm_lcm hG h8.1 hh] at hm
  have hd : Ev (fun k => impl_Tasks_density.f k G) (((sumG (great G).toNat G / Nat.gcd (sumG (great G).toNat G) (great G).toNat : Nat) : Int), (((great G).toNat / Nat.gcd (sumG (great G).toNat G) (great G).toNat : Nat) : Int)) := by
    unfold impl_Tasks_density.f
    exact ev_bind hm (density_l0 G hG h8.2 (great G).toNat (by omega) _ rfl G.length 0 (by omega))
  unfold impl_Tasks_isThin.f
  refine ev_bind hd (ev_is ?_)
  congr 1
  have hg : 0 < Nat.gcd (sumG (great G).toNat G) (great G).toNat := Nat.gcd_pos_of_pos_right _ (by omega)
  have a1 := Nat.div_mul_cancel (Nat.gcd_dvd_left (sumG (great G).toNat G) (great G).toNat)
  have a2 := Nat.div_mul_cancel (Nat.gcd_dvd_right (sumG (great G).toNat G) (great G).toNat)
  apply decide_eq_decide.2
  constructor
  · intro h
    have h2 := Nat.mul_le_mul_right (Nat.gcd (sumG (great G).toNat G) (great G).toNat) (Int.ofNat_le.1 h)
    omega
  · intro h
    exact Int.ofNat_le.2 (Nat.div_le_div_right h)
/-- the harmonic turns, or none -/
def harmT (G : List Int) : Option (List Int) := gre G (great G).toNat (ordF G G.length) (List.replicate (great G).toNat (-1))
theorem start_place (N h : Nat) : Place (List.replicate N (-1)) N h := ⟨List.length_replicate, fun s hs => by
  rw [List.length_replicate] at hs
  rw [rd_nat (by rw [List.length_replicate]; omega), rd_nat (by rw [List.length_replicate]; omega)]
  simp⟩
theorem neg_start (N : Nat) : neg (List.replicate N (-1)) = N := by
  induction N with
  | zero => rfl
  | succ N ih => rw [List.replicate_succ, neg, ih, if_pos (by omega)]; omega
theorem harmT_none (G : List Int) (hG : ∀ x ∈ G, 1 ≤ x ∧ x ≤ 40) (h8 : 1 ≤ G.length ∧ G.length ≤ 8) (hh : harmB G = true) : harmT G = none ↔ ¬ sumG (great G).toNat G ≤ (great G).toNat := by
  obtain ⟨_, g1, g2⟩ := harm_great hG h8.1
  have H := harm_order hG h8.1 hh
  unfold harmT
  rw [gre_none G _ (by omega) _ _ (fun t ht => ⟨(H.mem t ht).1, by have := hG _ (rd_mem (H.mem t ht).1 (H.mem t ht).2); omega, H.dvd t ht⟩) H.pw (fun h _ => start_place _ _) List.length_replicate, neg_start, ordF_sum]
  have := sumG_map G (great G).toNat G.length (Nat.le_refl _)
  rw [List.take_length] at this
  rw [this]
  omega
theorem start_idle (N : Nat) : IdleOk (List.replicate N (-1)) := fun x hx => by
  rw [(List.mem_replicate.1 hx).2]; omega
theorem harmonic_ev (G : List Int) (hG : ∀ x ∈ G, 1 ≤ x ∧ x ≤ 40) (h8 : 1 ≤ G.length ∧ G.length ≤ 8) (hh : harmB G = true) (r : List Int) (hr : harmT G = some r) : Ev (fun k => impl_Tasks_harmonic.f k G) r := by
  obtain ⟨_, g1, g2⟩ := harm_great hG h8.1
  have H := harm_order hG h8.1 hh
  have ho := ordF_length G G.length
  unfold impl_Tasks_harmonic.f
  refine ev_bind (Max_ev G (by omega) h8.1 (fun x hx => by have := hG x hx; omega)) (ev_fix (a := List.replicate (great G).toNat (-1)) (by
    unfold slices_Repeat_Sint64_int64.f
    rw [if_pos ⟨rfl, by omega, by omega⟩]
    rfl) (ev_bind (byGap_ev G hG h8) ?_))
  exact impl_harm_l0 G _ hG (great G).toNat (by omega) (by omega) _ 0 _ rfl (by omega) H (fun h _ => start_place _ _) List.length_replicate (start_idle _) r hr
theorem l03Turns_ev (G : List Int) (hG : ∀ x ∈ G, 1 ≤ x ∧ x ≤ 40) (h8 : 1 ≤ G.length ∧ G.length ≤ 8) (hh : harmB G = true) : Ev (fun k => spec_l03Turns.f k G) (match harmT G with | some r => (r, true) | none => ([], false)) := by
  obtain ⟨_, g1, g2⟩ := harm_great hG h8.1
  have H := harm_order hG h8.1 hh
  have ho := ordF_length G G.length
  have hgl : (gapsBy G (ordF G G.length)).length = G.length := by rw [gapsBy, List.length_map, ho]
  have hlast := last_gap hG h8.1
  have main : ∀ d n : Nat, n + d = (great G).toNat → Ev (fun k => spec_l03Turns.l0 k (ordF G G.length) (List.replicate n (-1)) (n : Int) (gapsBy G (ordF G G.length))) (match harmT G with | some r => (r, true) | none => ([], false)) := by
    intro d
    induction d with
    | zero =>
      intro n hn
      obtain rfl : n = (great G).toNat := by omega
      refine Ev.step (fun k => by rw [spec_l03Turns.l0]) ?_
      rw [ho, wrap_id (x := (G.length : Int) - 1) (by omega) (by omega), show (G.length : Int) - 1 = ((G.length - 1 : Nat) : Int) by omega, hlast]
      refine ev_pos (by omega) (ev_pos (by omega) (ev_neg (by omega) ?_))
      exact spec_harm_l1 G _ hG (great G).toNat (by omega) (by omega) _ 0 _ rfl (by omega) H (fun h _ => start_place _ _) List.length_replicate
    | succ d ih =>
      intro n hn
      have ih := ih (n + 1) (by omega)
      rw [List.replicate_succ'] at ih
      refine Ev.step (fun k => by rw [spec_l03Turns.l0]) ?_
      rw [ho, wrap_id (x := (G.length : Int) - 1) (by omega) (by omega), show (G.length : Int) - 1 = ((G.length - 1 : Nat) : Int) by omega, hlast, wrap_succ (n := n) (by omega)]
      exact ev_pos (by omega) (ev_pos (by omega) (ev_pos (by omega) (ev_pos (by rw [List.length_replicate]; omega) ih)))
  unfold spec_l03Turns.f
  exact ev_bind (l01Sorted_ev G hG h8.2) (main (great G).toNat 0 (by omega))
theorem gre_length (G : List Int) (N : Nat) : ∀ ts out r, gre G N ts out = some r → r.length = out.length := by
  intro ts
  induction ts with
  | nil => intro out r h; rw [gre] at h; obtain rfl := Option.some.inj h; rfl
  | cons t ts ih =>
    intro out r h
    rw [gre] at h
    split at h
    · rw [ih _ _ h, fillM_length]
    · exact absurd h (by simp)
end Go.Proofs.Ytgbapmmfhdphmaa.Pure
end
section
namespace Go.Proofs.Ytgbapmmfhdphmaa.Pure
open Go.RowKit Go.Proofs.Ytgbapmmfhdphmaa.P Go.Proofs.YtgbapmmfhdphmaaW.PrintWords Go.Proofs.YtgbapmmfhdphmaaW.PrintLast Go.Proofs.YtgbapmmfhdphmaaW.PrintMore
set_option linter.unusedVariables false
set_option linter.unusedSimpArgs false
/-- tasks: 1 to 8 gaps in 1..40 -/
def isTasks (l : List Int) : Bool := decide (1 ≤ (l.length : Int) ∧ (l.length : Int) ≤ 8) && l.all fun g => decide (1 ≤ g ∧ g ≤ 40)
theorem IsTasks_f (l : List Int) : impl_IsTasks.f l = some (isTasks l) := rfl
theorem isTasks_iff (l : List Int) : isTasks l = true ↔ (1 ≤ l.length ∧ l.length ≤ 8) ∧ (∀ x ∈ l, 1 ≤ x ∧ x ≤ 40) := by
  unfold isTasks
  rw [Bool.and_eq_true, List.all_eq_true, decide_eq_true_iff]
  simp only [decide_eq_true_iff]
  constructor
  · rintro ⟨h1, h2⟩; exact ⟨by omega, h2⟩
  · rintro ⟨h1, h2⟩; exact ⟨by omega, h2⟩
theorem l01Is_l0 (l : List Int) (hl : l.length ≤ 1048576) : ∀ d n : Nat, n + d = l.length → (l.take n).all (fun g => decide (1 ≤ g ∧ g ≤ 40)) = true → Ev (fun k => spec_l01Is.l0 k (n : Int) l) (isTasks l) := by
  intro d
  induction d with
  | zero =>
    intro n hn ha
    refine Ev.step (fun k => by rw [spec_l01Is.l0]) ?_
    refine ev_neg (by omega) (ev_fix (show spec_l01K.f l = some (l.length : Int) from rfl) (ev_fix (l01In_f _ _ _) (ev_is ?_)))
    rw [List.take_of_length_le (by omega)] at ha
    rw [isTasks, ha, Bool.and_true]
  | succ d ih =>
    intro n hn ha
    have hlt : n < l.length := by omega
    refine Ev.step (fun k => by rw [spec_l01Is.l0]) (ev_pos (by omega) (ev_pos (by omega) (ev_fix (l01In_f _ _ _) ?_)))
    rw [rd_nat hlt]
    cases hq : decide (1 ≤ l[n] ∧ l[n] ≤ 40) with
    | true =>
      refine ev_pos rfl ?_
      rw [wrap_succ (by omega)]
      exact ih (n + 1) (by omega) (by rw [all_take_succ _ _ _ hlt, ha, hq]; rfl)
    | false =>
      refine ev_neg (by simp) (ev_is ?_)
      rw [isTasks, all_false_at _ l n hlt hq, Bool.and_false]
theorem l01Is_ev (l : List Int) (hl : l.length ≤ 1048576) : Ev (fun k => spec_l01Is.f k l) (isTasks l) := by
  unfold spec_l01Is.f
  exact l01Is_l0 l hl l.length 0 (by omega) (by simp)
end Go.Proofs.Ytgbapmmfhdphmaa.Pure
end
section
namespace Go.Proofs.Ytgbapmmfhdphmaa.Pure
open Go.RowKit Go.Proofs.Ytgbapmmfhdphmaa.P Go.Proofs.YtgbapmmfhdphmaaW.PrintWords Go.Proofs.YtgbapmmfhdphmaaW.PrintLast Go.Proofs.YtgbapmmfhdphmaaW.PrintMore
set_option linter.unusedVariables false
set_option linter.unusedSimpArgs false
def dbl (g : Int) : Nat → Int → Int
  | 0, n => n
  | f + 1, n => if 2 * n ≤ g then dbl g f (2 * n) else n
theorem dbl_ok (g : Int) : ∀ (f : Nat) (n : Int), 1 ≤ n → n ≤ g → n ≤ dbl g f n ∧ dbl g f n ≤ g ∧ ∃ j : Nat, dbl g f n = n * ((2 ^ j : Nat) : Int) := by
  intro f
  induction f with
  | zero => intro n h1 h2; exact ⟨Int.le_refl _, h2, 0, by simp [dbl]⟩
  | succ f ih =>
    intro n h1 h2
    rw [dbl]
    by_cases c : 2 * n ≤ g
    · rw [if_pos c]
      obtain ⟨a, b, j, e⟩ := ih (2 * n) (by omega) c
      exact ⟨by omega, b, j + 1, by rw [e, Nat.pow_succ, Int.natCast_mul, Int.mul_comm 2 n, Int.mul_assoc, Int.mul_comm ((2 ^ j : Nat) : Int)]; rfl⟩
    · rw [if_neg c]
      exact ⟨Int.le_refl _, h2, 0, by simp⟩
def lesG (G : List Int) (x : Int) : List Int := G.map fun g => dbl g 40 x
theorem lesG_length (G : List Int) (x : Int) : (lesG G x).length = G.length := List.length_map _
theorem lesG_mem {G : List Int} {x : Int} (hG : ∀ g ∈ G, 1 ≤ g ∧ g ≤ 40) (h1 : 1 ≤ x) (hx : ∀ g ∈ G, x ≤ g) : ∀ y ∈ lesG G x, (1 ≤ y ∧ y ≤ 40) ∧ ∃ j : Nat, y = x * ((2 ^ j : Nat) : Int) := fun y hy => by
  obtain ⟨g, hg, rfl⟩ := List.mem_map.1 hy
  have hg2 := hG g hg
  obtain ⟨a, b, j, e⟩ := dbl_ok g 40 x h1 (hx g hg)
  exact ⟨by omega, j, e⟩
theorem lesG_ok {G : List Int} {x : Int} (hG : ∀ g ∈ G, 1 ≤ g ∧ g ≤ 40) (h1 : 1 ≤ x) (hx : ∀ g ∈ G, x ≤ g) : ∀ y ∈ lesG G x, 1 ≤ y ∧ y ≤ 40 := fun y hy => (lesG_mem hG h1 hx y hy).1
theorem pow_mod (x i j : Nat) (h : i ≤ j) : x * 2 ^ j % (x * 2 ^ i) = 0 := by
  apply Nat.mod_eq_zero_of_dvd
  exact Nat.mul_dvd_mul (Nat.dvd_refl _) (Nat.pow_dvd_pow 2 h)
theorem lesG_harm {G : List Int} {x : Int} (hG : ∀ g ∈ G, 1 ≤ g ∧ g ≤ 40) (h1 : 1 ≤ x) (hx : ∀ g ∈ G, x ≤ g) : harmB (lesG G x) = true := by
  unfold harmB
  rw [List.all_eq_true]
  intro a ha
  rw [List.all_eq_true]
  intro b hb
  obtain ⟨⟨a1, a2⟩, i, ea⟩ := lesG_mem hG h1 hx a ha
  obtain ⟨⟨b1, b2⟩, j, eb⟩ := lesG_mem hG h1 hx b hb
  rw [harmP_iff a1 b1]
  obtain ⟨n, rfl⟩ : ∃ n : Nat, x = n := ⟨x.toNat, by omega⟩
  rw [← Int.natCast_mul] at ea eb
  rw [ea, eb, tmod_nat, tmod_nat]
  rcases Nat.le_total i j with h | h
  · right; rw [pow_mod n i j h]; rfl
  · left; rw [pow_mod n j i h]; rfl
theorem impl_les_l1 (G : List Int) (x g : Int) (hg : g ≤ 40) (i : Nat) (out R : List Int) (hi : i ≤ 1000) (ho : out.length ≤ 1000) : ∀ (f : Nat) (n : Int), 1 ≤ n → n ≤ g → g < n + f →
    Ev (fun k => impl_Tasks_lessened.l0 k x G (G.length : Int) ((i + 1 : Nat) : Int) (out ++ [dbl g f n])) R →
    Ev (fun k => impl_Tasks_lessened.l1 k x g n G (G.length : Int) (i : Int) out) R := by
  intro f
  induction f with
  | zero => intro n h1 h2 h3; omega
  | succ f ih =>
    intro n h1 h2 h3 hR
    rw [dbl] at hR
    refine Ev.step (fun k => by rw [impl_Tasks_lessened.l1]) ?_
    rw [wrap_id (x := 2 * n) (by omega) (by omega), wrap_id (x := n * 2) (by omega) (by omega), wrap_succ (n := i) (by omega)]
    by_cases c : 2 * n ≤ g
    · rw [if_pos c] at hR
      rw [Int.mul_comm n 2]
      exact ev_pos c (ih (2 * n) (by omega) c (by omega) hR)
    · rw [if_neg c] at hR
      exact ev_neg c (ev_pos (by omega) hR)
theorem lessened_ev (G : List Int) (hG : ∀ g ∈ G, 1 ≤ g ∧ g ≤ 40) (h8 : G.length ≤ 8) (x : Int) (h1 : 1 ≤ x) (hx : ∀ g ∈ G, x ≤ g) : Ev (fun k => impl_Tasks_lessened.f k G x) (lesG G x) := by
  have main : ∀ d n : Nat, n + d = G.length → Ev (fun k => impl_Tasks_lessened.l0 k x G (G.length : Int) (n : Int) (lesG (G.take n) x)) (lesG G x) := by
    intro d
    induction d with
    | zero =>
      intro n hn
      rw [List.take_of_length_le (by omega)]
      exact Ev.step (fun k => by rw [impl_Tasks_lessened.l0]) (ev_neg (by omega) (ev_now _))
    | succ d ih =>
      intro n hn
      have hlt : n < G.length := by omega
      have hg := hG _ (List.getElem_mem hlt)
      have hxg := hx _ (List.getElem_mem hlt)
      have ih := ih (n + 1) (by omega)
      have e : lesG (G.take (n + 1)) x = lesG (G.take n) x ++ [dbl G[n] 40 x] := by
        rw [List.take_succ_eq_append_getElem hlt, lesG, List.map_append]; rfl
      rw [e] at ih
      have hl : (lesG (G.take n) x).length ≤ 8 := by rw [lesG_length, List.length_take]; omega
      refine Ev.step (fun k => by rw [impl_Tasks_lessened.l0]) ?_
      rw [rd_nat hlt]
      exact ev_pos (by omega) (ev_pos (by omega) (ev_pos (by omega) (impl_les_l1 G x _ hg.2 n _ _ (by omega) (by omega) 40 x h1 hxg (by omega) ih)))
  unfold impl_Tasks_lessened.f
  exact main G.length 0 (by omega)
theorem spec_les_l1 (G : List Int) (x : Int) (i : Nat) (hi : i < G.length) (hg : G[i] ≤ 40) (out : List Int) (R : List Int × Bool) (hi : i ≤ 1000) (ho : out.length ≤ 1000) : ∀ (f : Nat) (n : Int), 1 ≤ n → n ≤ G[i] → G[i] < n + f →
    Ev (fun k => spec_l03Lessened.l0 k x ((i + 1 : Nat) : Int) G (out ++ [dbl G[i] f n])) R →
    Ev (fun k => spec_l03Lessened.l1 k x (i : Int) n G out) R := by
  intro f
  induction f with
  | zero => intro n h1 h2 h3; omega
  | succ f ih =>
    intro n h1 h2 h3 hR
    rw [dbl] at hR
    refine Ev.step (fun k => by rw [spec_l03Lessened.l1]) ?_
    rw [wrap_id (x := 2 * n) (by omega) (by omega), wrap_succ (n := i) (by omega), rd_nat (by omega)]
    refine ev_pos (by omega) (ev_pos (by omega) ?_)
    by_cases c : 2 * n ≤ G[i]
    · rw [if_pos c] at hR
      exact ev_pos c (ih (2 * n) (by omega) c (by omega) hR)
    · rw [if_neg c] at hR
      exact ev_neg c (ev_pos (by omega) hR)
theorem l03Lessened_ev (G : List Int) (hG : ∀ g ∈ G, 1 ≤ g ∧ g ≤ 40) (h8 : G.length ≤ 8) (x : Int) (h1 : 1 ≤ x) (hx : ∀ g ∈ G, x ≤ g) : Ev (fun k => spec_l03Lessened.f k G x) (lesG G x, true) := by
  have main : ∀ d n : Nat, n + d = G.length → Ev (fun k => spec_l03Lessened.l0 k x (n : Int) G (lesG (G.take n) x)) (lesG G x, true) := by
    intro d
    induction d with
    | zero =>
      intro n hn
      rw [List.take_of_length_le (by omega)]
      exact Ev.step (fun k => by rw [spec_l03Lessened.l0]) (ev_neg (by omega) (ev_now _))
    | succ d ih =>
      intro n hn
      have hlt : n < G.length := by omega
      have hg := hG _ (List.getElem_mem hlt)
      have hxg := hx _ (List.getElem_mem hlt)
      have ih := ih (n + 1) (by omega)
      have e : lesG (G.take (n + 1)) x = lesG (G.take n) x ++ [dbl G[n] 40 x] := by
        rw [List.take_succ_eq_append_getElem hlt, lesG, List.map_append]; rfl
      rw [e] at ih
      have hl : (lesG (G.take n) x).length ≤ 8 := by rw [lesG_length, List.length_take]; omega
      refine Ev.step (fun k => by rw [spec_l03Lessened.l0]) ?_
      rw [rd_nat hlt]
      exact ev_pos (by omega) (ev_pos (by omega) (ev_neg (by omega) (spec_les_l1 G x n hlt hg.2 _ _ (by omega) (by omega) 40 x h1 hxg (by omega) ih)))
  unfold spec_l03Lessened.f
  exact main G.length 0 (by omega)
theorem l03Lessened_no (G : List Int) (hG : ∀ g ∈ G, 1 ≤ g ∧ g ≤ 40) (h8 : G.length ≤ 8) (x : Int) (h1 : 1 ≤ x) (hx : ¬ ∀ g ∈ G, x ≤ g) : Ev (fun k => spec_l03Lessened.f k G x) ([], false) := by
  have main : ∀ d n : Nat, n + d = G.length → (∀ g ∈ G.take n, x ≤ g) → Ev (fun k => spec_l03Lessened.l0 k x (n : Int) G (lesG (G.take n) x)) ([], false) := by
    intro d
    induction d with
    | zero =>
      intro n hn h
      rw [List.take_of_length_le (by omega)] at h
      exact absurd h hx
    | succ d ih =>
      intro n hn h
      have hlt : n < G.length := by omega
      have hg := hG _ (List.getElem_mem hlt)
      have ih := ih (n + 1) (by omega)
      have e : lesG (G.take (n + 1)) x = lesG (G.take n) x ++ [dbl G[n] 40 x] := by
        rw [List.take_succ_eq_append_getElem hlt, lesG, List.map_append]; rfl
      rw [e] at ih
      have hl : (lesG (G.take n) x).length ≤ 8 := by rw [lesG_length, List.length_take]; omega
      refine Ev.step (fun k => by rw [spec_l03Lessened.l0]) ?_
      rw [rd_nat hlt]
      refine ev_pos (by omega) (ev_pos (by omega) ?_)
      by_cases c : G[n] < x
      · exact ev_pos c (ev_now _)
      · refine ev_neg c (spec_les_l1 G x n hlt hg.2 _ _ (by omega) (by omega) 40 x h1 (by omega) (by omega) (ih ?_))
        rw [List.take_succ_eq_append_getElem hlt]
        intro g hg
        rcases List.mem_append.1 hg with h2 | h2
        · exact h g h2
        · rw [List.mem_singleton.1 h2]; omega
  unfold spec_l03Lessened.f
  exact main G.length 0 (by omega) (fun g hg => by simp at hg)
theorem l03Lessened_one (G : List Int) (hG : ∀ g ∈ G, 1 ≤ g ∧ g ≤ 40) (h8 : G.length ≤ 8) : Ev (fun k => spec_l03Lessened.f k G 1) (lesG G 1, true) := l03Lessened_ev G hG h8 1 (by omega) (fun g hg => (hG g hg).1)
def leastL : List Int → Int
  | [] => 0
  | y :: l => l.foldl mn y
theorem foldl_mn (l : List Int) : ∀ (a x : Int), x ≤ l.foldl mn a ↔ (x ≤ a ∧ ∀ g ∈ l, x ≤ g) := by
  induction l with
  | nil => intro a x; simp
  | cons y l ih =>
    intro a x
    rw [List.foldl_cons, ih, List.forall_mem_cons]
    have : x ≤ mn a y ↔ (x ≤ a ∧ x ≤ y) := by unfold mn; split <;> omega
    rw [this]
    exact ⟨fun ⟨⟨a, b⟩, c⟩ => ⟨a, b, c⟩, fun ⟨a, b, c⟩ => ⟨⟨a, b⟩, c⟩⟩
theorem le_leastL {l : List Int} (h : 1 ≤ l.length) (x : Int) : x ≤ leastL l ↔ ∀ g ∈ l, x ≤ g := by
  cases l with
  | nil => simp at h
  | cons y l => rw [leastL, foldl_mn, List.forall_mem_cons]
theorem MinL_l0 (l : List Int) (hl : l.length ≤ 1048576) (a : Int) : ∀ d n : Nat, n + d = l.length →
    Ev (fun k => slices_Min_Sint64_int64.l0 k l ((l.take n).foldl mn a) (n : Int)) (l.foldl mn a) := by
  intro d
  induction d with
  | zero =>
    intro n hn
    rw [List.take_of_length_le (by omega)]
    exact Ev.step (fun k => by rw [slices_Min_Sint64_int64.l0]) (ev_neg (by omega) (ev_now _))
  | succ d ih =>
    intro n hn
    have hlt : n < l.length := by omega
    refine Ev.step (fun k => by rw [slices_Min_Sint64_int64.l0]) (ev_pos (by omega) (ev_pos (by omega) ?_))
    rw [rd_nat hlt, wrap_succ (by omega)]
    have ih := ih (n + 1) (by omega)
    rw [List.take_succ_eq_append_getElem hlt, List.foldl_append] at ih
    exact ih
theorem Min_ev (l : List Int) (hl : l.length ≤ 1048576) (h0 : 1 ≤ l.length) : Ev (fun k => slices_Min_Sint64_int64.f k l) (leastL l) := by
  unfold slices_Min_Sint64_int64.f
  refine ev_neg (by omega) (ev_pos (by omega) ?_)
  cases l with
  | nil => simp at h0
  | cons y l =>
    have h1 := MinL_l0 (y :: l) hl y l.length 1 (by simp only [List.length_cons]; omega)
    have es : mn y y = y := by unfold mn; split <;> rfl
    have e0 : leastL (y :: l) = (y :: l).foldl mn y := by rw [leastL, List.foldl_cons, es]
    have e1 : ((y :: l).take 1).foldl mn y = y := by simp [es]
    rw [e1, ← e0] at h1
    exact h1
/-- harmonic turns of lessened gaps, by the program -/
theorem thin_les {G : List Int} (hG : ∀ x ∈ G, 1 ≤ x ∧ x ≤ 40) (h8 : 1 ≤ G.length ∧ G.length ≤ 8) {x : Int} (h1 : 1 ≤ x) (hx : ∀ g ∈ G, x ≤ g) :
    Ev (fun k => impl_Tasks_isThin.f k (lesG G x)) (harmT (lesG G x)).isSome ∧ (∀ r, harmT (lesG G x) = some r → Ev (fun k => impl_Tasks_harmonic.f k (lesG G x)) r) ∧
    Ev (fun k => spec_l03Turns.f k (lesG G x)) (match harmT (lesG G x) with | some r => (r, true) | none => ([], false)) := by
  have hh := lesG_harm hG h1 hx
  have hm := lesG_ok hG h1 hx
  have hl : 1 ≤ (lesG G x).length ∧ (lesG G x).length ≤ 8 := by rw [lesG_length]; exact h8
  have hn := harmT_none _ hm hl hh
  refine ⟨ev_eq (isThin_ev _ hm hl hh) ?_, fun r hr => harmonic_ev _ hm hl hh r hr, l03Turns_ev _ hm hl hh⟩
  cases hr : harmT (lesG G x) with
  | none => rw [Option.isSome_none]; exact decide_eq_false (hn.1 hr)
  | some r =>
    rw [Option.isSome_some]
    refine decide_eq_true ?_
    by_cases c : sumG (great (lesG G x)).toNat (lesG G x) ≤ (great (lesG G x)).toNat
    · exact c
    · exact absurd (hn.2 c) (by rw [hr]; simp)
theorem harmT_length {G : List Int} (hG : ∀ x ∈ G, 1 ≤ x ∧ x ≤ 40) (h1 : 1 ≤ G.length) {r : List Int} (hr : harmT G = some r) : r.length ≤ 40 := by
  obtain ⟨_, g1, g2⟩ := harm_great hG h1
  have := gre_length G _ _ _ _ hr
  rw [List.length_replicate] at this
  omega
theorem tasksCode_f (G : List Int) : impl_tasksCode.f G true = some (if isTasks G = true then 0 else 1) := by
  unfold impl_tasksCode.f
  rw [IsTasks_f, Option.bind_some]
  cases isTasks G <;> rfl
/-- turns by powers -/
def powR (G : List Int) : List Int × Int := if isTasks G = true then (match harmT (lesG G 1) with | some r => (r, 0) | none => ([], 4)) else ([], 1)
theorem TurnsByPowers_spec (G : List Int) (hl : G.length ≤ 1048576) : Ev (fun k => spec_TurnsByPowers.f k G) (powR G) := by
  unfold spec_TurnsByPowers.f powR
  refine ev_bind (l01Is_ev G hl) ?_
  cases ht : isTasks G with
  | false => exact ev_neg (by simp) (ev_now _)
  | true =>
    obtain ⟨h8, hG⟩ := (isTasks_iff G).1 ht
    obtain ⟨_, _, h3⟩ := thin_les hG h8 (x := 1) (by omega) (fun g hg => (hG g hg).1)
    rw [if_pos rfl]
    refine ev_pos rfl (ev_bind (l03Lessened_one G hG h8.2) (ev_bind h3 ?_))
    cases harmT (lesG G 1) with
    | none => exact ev_neg (by simp) (ev_now _)
    | some r => exact ev_pos rfl (ev_now _)
theorem TurnsByPowers_impl (G : List Int) : Ev (fun k => impl_TurnsByPowers.f k G) (powR G) := by
  unfold impl_TurnsByPowers.f powR
  refine ev_fix (tasksCode_f G) ?_
  cases ht : isTasks G with
  | false => exact ev_neg (by simp) (ev_now _)
  | true =>
    obtain ⟨h8, hG⟩ := (isTasks_iff G).1 ht
    obtain ⟨h1, h2, _⟩ := thin_les hG h8 (x := 1) (by omega) (fun g hg => (hG g hg).1)
    rw [if_pos rfl, if_pos rfl]
    refine ev_pos rfl (ev_bind (lessened_ev G hG h8.2 1 (by omega) (fun g hg => (hG g hg).1)) (ev_bind h1 ?_))
    cases hr : harmT (lesG G 1) with
    | none => exact ev_neg (by simp) (ev_now _)
    | some r => exact ev_pos rfl (ev_bind (h2 r hr) (ev_now _))
theorem powR_length (G : List Int) : (powR G).1.length ≤ 40 := by
  unfold powR
  split
  · next ht =>
    obtain ⟨h8, hG⟩ := (isTasks_iff G).1 ht
    split
    · next r hr => exact harmT_length (lesG_ok hG (by omega) (fun g hg => (hG g hg).1)) (by rw [lesG_length]; exact h8.1) hr
    · simp
  · simp
/-- turns by one number -/
def oneT (G : List Int) : Nat → Int → List Int × Int × Int
  | 0, _ => ([], 0, 4)
  | f + 1, x => if x ≤ leastL G then (match harmT (lesG G x) with | some r => (r, x, 0) | none => oneT G f (x + 1)) else ([], 0, 4)
def oneR (G : List Int) : List Int × Int × Int := if isTasks G = true then oneT G 41 1 else ([], 0, 1)
theorem leastL_le {G : List Int} (h1 : 1 ≤ G.length) (hG : ∀ x ∈ G, 1 ≤ x ∧ x ≤ 40) : leastL G ≤ 40 := by
  have := (le_leastL h1 (leastL G)).1 (Int.le_refl _) _ (List.getElem_mem (l := G) (n := 0) (by omega))
  have := (hG _ (List.getElem_mem (l := G) (n := 0) (by omega))).2
  omega
theorem one_l0_spec (G : List Int) (hG : ∀ x ∈ G, 1 ≤ x ∧ x ≤ 40) (h8 : 1 ≤ G.length ∧ G.length ≤ 8) : ∀ (f : Nat) (x : Int), 1 ≤ x → x + f = 42 → 1 ≤ f →
    Ev (fun k => spec_TurnsByOne.l0 k x G) (oneT G f x) := by
  have hle := leastL_le h8.1 hG
  intro f
  induction f with
  | zero => intro x _ _ h; omega
  | succ f ih =>
    intro x h1 h2 _
    rw [oneT]
    refine Ev.step (fun k => by rw [spec_TurnsByOne.l0]) ?_
    by_cases c : x ≤ leastL G
    · have hx := (le_leastL h8.1 x).1 c
      obtain ⟨_, _, h3⟩ := thin_les hG h8 h1 hx
      rw [if_pos c]
      refine ev_bind (l03Lessened_ev G hG h8.2 x h1 hx) (ev_pos rfl (ev_bind h3 ?_))
      cases harmT (lesG G x) with
      | none =>
        rw [wrap_id (x := x + 1) (by omega) (by omega)]
        exact ev_neg (by simp) (ih (x + 1) (by omega) (by omega) (by omega))
      | some r => exact ev_pos rfl (ev_now _)
    · rw [if_neg c]
      exact ev_bind (l03Lessened_no G hG h8.2 x h1 (fun h => c ((le_leastL h8.1 x).2 h))) (ev_neg (by simp) (ev_now _))
theorem one_l0_impl (G : List Int) (hG : ∀ x ∈ G, 1 ≤ x ∧ x ≤ 40) (h8 : 1 ≤ G.length ∧ G.length ≤ 8) : ∀ (f : Nat) (x : Int), 1 ≤ x → x + f = 42 → 1 ≤ f →
    Ev (fun k => impl_TurnsByOne.l0 k x G) (oneT G f x) := by
  have hle := leastL_le h8.1 hG
  intro f
  induction f with
  | zero => intro x _ _ h; omega
  | succ f ih =>
    intro x h1 h2 _
    rw [oneT]
    refine Ev.step (fun k => by rw [impl_TurnsByOne.l0]) (ev_bind (Min_ev G (by omega) h8.1) ?_)
    by_cases c : x ≤ leastL G
    · have hx := (le_leastL h8.1 x).1 c
      obtain ⟨h3, h4, _⟩ := thin_les hG h8 h1 hx
      rw [if_pos c]
      refine ev_pos c (ev_bind (lessened_ev G hG h8.2 x h1 hx) (ev_bind h3 ?_))
      cases hr : harmT (lesG G x) with
      | none =>
        rw [wrap_id (x := x + 1) (by omega) (by omega)]
        exact ev_neg (by simp) (ih (x + 1) (by omega) (by omega) (by omega))
      | some r => exact ev_pos rfl (ev_bind (h4 r hr) (ev_now _))
    · rw [if_neg c]
      exact ev_neg c (ev_now _)
theorem TurnsByOne_spec (G : List Int) (hl : G.length ≤ 1048576) : Ev (fun k => spec_TurnsByOne.f k G) (oneR G) := by
  unfold spec_TurnsByOne.f oneR
  refine ev_bind (l01Is_ev G hl) ?_
  cases ht : isTasks G with
  | false => exact ev_neg (by simp) (ev_now _)
  | true =>
    obtain ⟨h8, hG⟩ := (isTasks_iff G).1 ht
    rw [if_pos rfl]
    exact ev_pos rfl (one_l0_spec G hG h8 41 1 (by omega) (by omega) (by omega))
theorem TurnsByOne_impl (G : List Int) : Ev (fun k => impl_TurnsByOne.f k G) (oneR G) := by
  unfold impl_TurnsByOne.f oneR
  refine ev_fix (tasksCode_f G) ?_
  cases ht : isTasks G with
  | false => exact ev_neg (by simp) (ev_now _)
  | true =>
    obtain ⟨h8, hG⟩ := (isTasks_iff G).1 ht
    rw [if_pos rfl, if_pos rfl]
    exact ev_pos rfl (one_l0_impl G hG h8 41 1 (by omega) (by omega) (by omega))
theorem oneT_length (G : List Int) (hG : ∀ x ∈ G, 1 ≤ x ∧ x ≤ 40) (h8 : 1 ≤ G.length ∧ G.length ≤ 8) : ∀ (f : Nat) (x : Int), 1 ≤ x → (oneT G f x).1.length ≤ 40 := by
  intro f
  induction f with
  | zero => intro x _; simp [oneT]
  | succ f ih =>
    intro x h1
    rw [oneT]
    by_cases c : x ≤ leastL G
    · have hx := (le_leastL h8.1 x).1 c
      rw [if_pos c]
      cases hr : harmT (lesG G x) with
      | none => exact ih (x + 1) (by omega)
      | some r => exact harmT_length (lesG_ok hG h1 hx) (by rw [lesG_length]; exact h8.1) hr
    · rw [if_neg c]; simp
theorem oneR_length (G : List Int) : (oneR G).1.length ≤ 40 := by
  unfold oneR
  split
  · next ht =>
    obtain ⟨h8, hG⟩ := (isTasks_iff G).1 ht
    exact oneT_length G hG h8 41 1 (by omega)
  · simp
end Go.Proofs.Ytgbapmmfhdphmaa.Pure
end
section
namespace Go.Proofs.Ytgbapmmfhdphmaa.Pure
open Go.RowKit Go.Proofs.Ytgbapmmfhdphmaa.P Go.Proofs.YtgbapmmfhdphmaaW.PrintWords Go.Proofs.YtgbapmmfhdphmaaW.PrintLast Go.Proofs.YtgbapmmfhdphmaaW.PrintMore
set_option linter.unusedVariables false
set_option linter.unusedSimpArgs false
theorem posOf_rd {x : Int} {l : List Int} {i : Nat} (h : i < (posOf x 0 l).length) : 0 ≤ rd (posOf x 0 l) i ∧ rd (posOf x 0 l) i < l.length := by
  rw [rd_nat h]
  have := posOf_range x l 0 _ (List.getElem_mem h)
  omega
theorem l01Waits_l0 (l : List Int) (x : Int) (hl : l.length ≤ 1048576) : ∀ d n : Nat, n + d = l.length →
    Ev (fun k => spec_l01Waits.l0 k l x (diffs (posOf x 0 (l.take n))) ((posOf x 0 (l.take n)).headD (-1)) ((posOf x 0 (l.take n)).getLastD (-1)) (n : Int)) (waitsOf l x) := by
  intro d
  induction d with
  | zero =>
    intro n hn
    rw [List.take_of_length_le (by omega)]
    refine Ev.step (fun k => by rw [spec_l01Waits.l0]) (ev_neg (by omega) ?_)
    have hlen := posOf_length x l 0
    by_cases hp : posOf x 0 l = []
    · rw [hp]
      refine ev_neg (by simp) (ev_is ?_)
      simp [waitsOf, hp, diffs]
    · have h1 := posOf_range x l 0 _ (headD_mem hp (-1))
      have h2 := posOf_range x l 0 _ (getLastD_mem hp (-1))
      refine ev_pos (by omega) (ev_pos (by rw [diffs_length]; omega) (ev_is ?_))
      rw [wrap_id (x := (l.length : Int) - _) (by omega) (by omega), wrap_id (by omega) (by omega), waitsOf, if_neg hp]
  | succ d ih =>
    intro n hn
    have hlt : n < l.length := by omega
    refine Ev.step (fun k => by rw [spec_l01Waits.l0]) (ev_pos (by omega) (ev_pos (by omega) ?_))
    rw [rd_nat hlt, wrap_succ (by omega)]
    have ih := ih (n + 1) (by omega)
    rw [posOf_take_succ x l n hlt] at ih
    have hlen := posOf_length x (l.take n) 0
    rw [List.length_take] at hlen
    by_cases hx : l[n] = x
    · rw [if_pos hx] at ih
      refine ev_pos hx ?_
      by_cases hp : posOf x 0 (l.take n) = []
      · rw [hp] at ih ⊢
        exact ev_pos (by simp) (by simpa [diffs] using ih)
      · have h1 := posOf_range x (l.take n) 0 _ (headD_mem hp (-1))
        have h2 := posOf_range x (l.take n) 0 _ (getLastD_mem hp (-1))
        rw [List.length_take] at h1 h2
        refine ev_neg (by omega) (ev_pos (by rw [diffs_length]; omega) ?_)
        rw [wrap_id (by omega) (by omega)]
        rw [diffs_snoc _ _ (-1) hp] at ih
        have e1 : (posOf x 0 (l.take n) ++ [(n : Int)]).headD (-1) = (posOf x 0 (l.take n)).headD (-1) := by
          cases h : posOf x 0 (l.take n) with
          | nil => exact absurd h hp
          | cons => rfl
        have e2 : (posOf x 0 (l.take n) ++ [(n : Int)]).getLastD (-1) = (n : Int) := by simp
        rw [e1, e2] at ih
        exact ih
    · rw [if_neg hx, List.append_nil] at ih
      exact ev_neg hx ih
theorem l01Waits_ev (l : List Int) (x : Int) (hl : l.length ≤ 1048576) : Ev (fun k => spec_l01Waits.f k l x) (waitsOf l x) := by
  unfold spec_l01Waits.f
  simpa [posOf, diffs] using l01Waits_l0 l x hl l.length 0 (by omega)
theorem Waits_impl_l1 (l : List Int) (x : Int) (hl : l.length ≤ 1048576) : ∀ d n : Nat, n + d = (posOf x 0 l).length →
    Ev (fun k => impl_waits.l1 k l (posOf x 0 l) ((waitsOf l x).take n) (posOf x 0 l) ((posOf x 0 l).length : Int) (n : Int)) (waitsOf l x) := by
  intro d
  induction d with
  | zero =>
    intro n hn
    rw [List.take_of_length_le (by rw [waitsOf_length]; omega)]
    exact Ev.step (fun k => by rw [impl_waits.l1]) (ev_neg (by omega) (ev_now _))
  | succ d ih =>
    intro n hn
    have hlen := posOf_length x l 0
    have hlt : n < (posOf x 0 l).length := by omega
    have hp : posOf x 0 l ≠ [] := fun h => by rw [h] at hlt; simp at hlt
    have hb := posOf_rd hlt
    have ht : ((waitsOf l x).take n).length < 17592186044416 := by rw [List.length_take, waitsOf_length]; omega
    refine Ev.step (fun k => by rw [impl_waits.l1]) (ev_pos (by omega) (ev_pos (by omega) (ev_pos (by omega) ?_)))
    rw [wrap_succ (by omega)]
    have hlt2 : n < (waitsOf l x).length := by rw [waitsOf_length]; exact hlt
    have ih := ih (n + 1) (by omega)
    rw [List.take_succ_eq_append_getElem hlt2] at ih
    by_cases h1 : n + 1 < (posOf x 0 l).length
    · have hb1 := posOf_rd h1
      refine ev_pos (by omega) (ev_pos (by omega) (ev_pos ht ?_))
      rw [wrap_id (by omega) (by omega)]
      have e : (waitsOf l x)[n] = rd (posOf x 0 l) ((n + 1 : Nat) : Int) - rd (posOf x 0 l) (n : Int) := by
        have h2 : (waitsOf l x)[n]? = some (rd (posOf x 0 l) ((n + 1 : Nat) : Int) - rd (posOf x 0 l) (n : Int)) := by
          rw [waitsOf, if_neg hp, List.getElem?_append_left (by rw [diffs_length]; omega), diffs_get _ _ h1]
          simp only [rd, Int.toNat_natCast]
        rw [List.getElem?_eq_getElem hlt2] at h2
        exact Option.some.inj h2
      rw [e] at ih
      exact ih
    · have hb0 := posOf_rd (x := x) (l := l) (i := 0) (by omega)
      refine ev_neg (by omega) (ev_pos (by omega) (ev_fix (show impl_length_int64.f l = some (l.length : Int) from rfl) (ev_pos ht ?_)))
      have hb0 : 0 ≤ rd (posOf x 0 l) 0 ∧ rd (posOf x 0 l) 0 < l.length := hb0
      rw [wrap_id (x := rd (posOf x 0 l) 0 + _) (by omega) (by omega), wrap_id (by omega) (by omega)]
      have e : (waitsOf l x)[n] = rd (posOf x 0 l) 0 + (l.length : Int) - rd (posOf x 0 l) (n : Int) := by
        have h2 : (waitsOf l x)[n]? = some (rd (posOf x 0 l) 0 + (l.length : Int) - rd (posOf x 0 l) (n : Int)) := by
          have hn1 : n = (diffs (posOf x 0 l)).length := by rw [diffs_length]; omega
          rw [waitsOf, if_neg hp, List.getElem?_append_right (by omega), show n - (diffs (posOf x 0 l)).length = 0 by omega, List.getElem?_cons_zero]
          congr 1
          have e1 : (posOf x 0 l).headD (-1) = rd (posOf x 0 l) 0 := by
            cases h : posOf x 0 l with
            | nil => exact absurd h hp
            | cons => rfl
          have e2 : (posOf x 0 l).getLastD (-1) = rd (posOf x 0 l) (n : Int) := by
            rw [rd_nat hlt, List.getLastD_eq_getLast?, List.getLast?_eq_getElem?, show (posOf x 0 l).length - 1 = n by omega, List.getElem?_eq_getElem hlt]
            rfl
          rw [e1, e2]
          omega
        rw [List.getElem?_eq_getElem hlt2] at h2
        exact Option.some.inj h2
      rw [e] at ih
      exact ih
theorem Waits_impl_l0 (l : List Int) (x : Int) (hl : l.length ≤ 1048576) : ∀ d n : Nat, n + d = l.length →
    Ev (fun k => impl_waits.l0 k l x (posOf x 0 (l.take n)) l (l.length : Int) (n : Int)) (waitsOf l x) := by
  intro d
  induction d with
  | zero =>
    intro n hn
    rw [List.take_of_length_le (by omega)]
    refine Ev.step (fun k => by rw [impl_waits.l0]) (ev_neg (by omega) ?_)
    exact Waits_impl_l1 l x hl (posOf x 0 l).length 0 (by omega)
  | succ d ih =>
    intro n hn
    have hlt : n < l.length := by omega
    refine Ev.step (fun k => by rw [impl_waits.l0]) (ev_pos (by omega) (ev_pos (by omega) (ev_pos (by omega) ?_)))
    rw [rd_nat hlt, wrap_succ (by omega)]
    have ih := ih (n + 1) (by omega)
    rw [posOf_take_succ x l n hlt] at ih
    have hlen := posOf_length x (l.take n) 0
    rw [List.length_take] at hlen
    by_cases hx : l[n] = x
    · rw [if_pos hx] at ih
      exact ev_pos hx (ev_pos (by omega) ih)
    · rw [if_neg hx, List.append_nil] at ih
      exact ev_neg hx ih
theorem waits_ev (l : List Int) (x : Int) (hl : l.length ≤ 1048576) : Ev (fun k => impl_waits.f k l x) (waitsOf l x) := by
  unfold impl_waits.f
  simpa [posOf] using Waits_impl_l0 l x hl l.length 0 (by omega)
end Go.Proofs.Ytgbapmmfhdphmaa.Pure
end
section
namespace Go.Proofs.Ytgbapmmfhdphmaa.Pure
open Go.RowKit Go.Proofs.Ytgbapmmfhdphmaa.P Go.Proofs.YtgbapmmfhdphmaaW.PrintWords Go.Proofs.YtgbapmmfhdphmaaW.PrintLast Go.Proofs.YtgbapmmfhdphmaaW.PrintMore
set_option linter.unusedVariables false
set_option linter.unusedSimpArgs false
theorem Greatest_spec_l0 (l : List Int) (hl : l.length ≤ 1048576) : ∀ d n : Nat, n + d = l.length →
    Ev (fun k => spec_l01Greatest.l0 k l (great (l.take n)) (n : Int)) (great l) := by
  intro d
  induction d with
  | zero =>
    intro n hn
    rw [List.take_of_length_le (by omega)]
    exact Ev.step (fun k => by rw [spec_l01Greatest.l0]) (ev_neg (by omega) (ev_now _))
  | succ d ih =>
    intro n hn
    have hlt : n < l.length := by omega
    refine Ev.step (fun k => by rw [spec_l01Greatest.l0]) (ev_pos (by omega) (ev_pos (by omega) ?_))
    rw [rd_nat hlt, wrap_succ (by omega), ← great_take_succ l n hlt]
    exact ih (n + 1) (by omega)
theorem waitsOf_len (l : List Int) (x : Int) : (waitsOf l x).length ≤ l.length := by rw [waitsOf_length]; exact posOf_length x l 0
theorem l01Greatest_ev (l : List Int) (x : Int) (hl : l.length ≤ 1048576) : Ev (fun k => spec_l01Greatest.f k l x) (great (waitsOf l x)) := by
  unfold spec_l01Greatest.f
  exact ev_bind (l01Waits_ev l x hl) (Greatest_spec_l0 _ (by have := waitsOf_len l x; omega) (waitsOf l x).length 0 (by omega))
theorem greatest_l0 (l : List Int) (hl : l.length ≤ 1048576) : ∀ d n : Nat, n + d = l.length →
    Ev (fun k => impl_greatest.l0 k (great (l.take n)) l (l.length : Int) (n : Int)) (great l) := by
  intro d
  induction d with
  | zero =>
    intro n hn
    rw [List.take_of_length_le (by omega)]
    exact Ev.step (fun k => by rw [impl_greatest.l0]) (ev_neg (by omega) (ev_now _))
  | succ d ih =>
    intro n hn
    have hlt : n < l.length := by omega
    refine Ev.step (fun k => by rw [impl_greatest.l0]) (ev_pos (by omega) (ev_pos (by omega) (ev_pos (by omega) ?_)))
    rw [rd_nat hlt, wrap_succ (by omega), ← great_take_succ l n hlt]
    exact ih (n + 1) (by omega)
theorem greatest_ev (l : List Int) (hl : l.length ≤ 1048576) : Ev (fun k => impl_greatest.f k l) (great l) := by
  unfold impl_greatest.f
  exact greatest_l0 l hl l.length 0 (by omega)
/-- turns serve tasks: the greatest wait of each is within its gap -/
def servesB (G l : List Int) (i : Nat) : Bool := decide (1 ≤ great (waitsOf l i) ∧ great (waitsOf l i) ≤ rd G i)
theorem Serves_impl_l0 (G l : List Int) (hG : G.length ≤ 1048576) (hl : l.length ≤ 1048576) : ∀ d n : Nat, n + d = G.length →
    Ev (fun k => impl_Tasks_serves.l0 k l G (G.length : Int) (n : Int)) ((List.range' n d).all (servesB G l)) := by
  intro d
  induction d with
  | zero =>
    intro n hn
    exact Ev.step (fun k => by rw [impl_Tasks_serves.l0]) (ev_neg (by omega) (ev_now true))
  | succ d ih =>
    intro n hn
    refine Ev.step (fun k => by rw [impl_Tasks_serves.l0]) (ev_pos (by omega) (ev_pos (by omega) (ev_pos (by omega) (ev_bind (waits_ev l n hl) ?_))))
    rw [List.range'_succ, List.all_cons, wrap_succ (by omega)]
    have hw := waitsOf_len l (n : Int)
    by_cases hp : posOf (n : Int) 0 l = []
    · have h0 : waitsOf l (n : Int) = [] := by simp [waitsOf, hp]
      refine ev_pos (by rw [h0]; rfl) (ev_is ?_)
      rw [servesB, h0, decide_eq_false (by simp [great]), Bool.false_and]
    · have hq := great_wait_pos hp
      have h0 : (waitsOf l (n : Int)).length ≠ 0 := by
        rw [waitsOf_length]; exact fun h => hp (List.eq_nil_of_length_eq_zero h)
      refine ev_neg (by omega) (ev_bind (greatest_ev _ (by omega)) ?_)
      by_cases hg : great (waitsOf l n) > rd G n
      · refine ev_pos hg (ev_is ?_)
        rw [servesB, decide_eq_false (by omega), Bool.false_and]
      · refine ev_neg hg ?_
        rw [servesB, decide_eq_true (by omega), Bool.true_and]
        exact ih (n + 1) (by omega)
theorem serves_ev (G l : List Int) (hG : G.length ≤ 1048576) (hl : l.length ≤ 1048576) : Ev (fun k => impl_Tasks_serves.f k G l) ((List.range' 0 G.length).all (servesB G l)) := by
  unfold impl_Tasks_serves.f
  exact Serves_impl_l0 G l hG hl G.length 0 (by omega)
end Go.Proofs.Ytgbapmmfhdphmaa.Pure
end
section
namespace Go.Proofs.Ytgbapmmfhdphmaa.Pure
open Go.RowKit Go.Proofs.Ytgbapmmfhdphmaa.P Go.Proofs.YtgbapmmfhdphmaaW.PrintWords Go.Proofs.YtgbapmmfhdphmaaW.PrintLast Go.Proofs.YtgbapmmfhdphmaaW.PrintMore
set_option linter.unusedVariables false
set_option linter.unusedSimpArgs false
structure Cyc (l : List Int) (x : Int) (g f : Nat) : Prop where
  small : f < g
  mult : g ∣ l.length
  pos : 0 < l.length
  rest : ∀ s : Nat, s < l.length → (rd l (s : Int) = x ↔ s % g = f)
def stepsL (f g : Nat) (a c : Nat) : List Int := (List.range' a c).map fun j => ((f + j * g : Nat) : Int)
theorem stepsL_snoc (f g c : Nat) : stepsL f g 0 c ++ [((f + c * g : Nat) : Int)] = stepsL f g 0 (c + 1) := by
  simp [stepsL, List.range'_1_concat]
theorem lt_of_mul {a b g : Nat} (h : a * g < b * g) : a < b := Nat.lt_of_mul_lt_mul_right h
theorem cyc_take {l : List Int} {x : Int} {g f : Nat} (C : Cyc l x g f) : ∀ n : Nat, n ≤ l.length → ∃ c, posOf x 0 (l.take n) = stepsL f g 0 c ∧ n ≤ f + c * g ∧ (c = 0 ∨ f + c * g < n + g) := by
  have hg := C.small
  intro n
  induction n with
  | zero => intro _; exact ⟨0, by simp [posOf, stepsL], by omega, .inl rfl⟩
  | succ n ih =>
    intro hn
    have hlt : n < l.length := by omega
    obtain ⟨c, e, h1, h2⟩ := ih (by omega)
    have hr := C.rest n hlt
    rw [rd_nat hlt] at hr
    have hm : (c + 1) * g = c * g + g := Nat.succ_mul c g
    rw [posOf_take_succ x l n hlt, e]
    by_cases hx : l[n] = x
    · have h3 := hr.1 hx
      have h4 := Nat.mod_add_div n g
      rw [h3, Nat.mul_comm] at h4
      have h5 : n / g * g < (c + 1) * g := by omega
      have h6 : c * g < (n / g + 1) * g := by rw [Nat.succ_mul]; rcases h2 with rfl | h2 <;> omega
      have h7 : c = n / g := by have := lt_of_mul h5; have := lt_of_mul h6; omega
      rw [if_pos hx]
      have h8 : (n : Int) = ((f + c * g : Nat) : Int) := by rw [h7, h4]
      rw [h8, stepsL_snoc]
      have h9 : n = f + c * g := by rw [h7]; exact h4.symm
      exact ⟨c + 1, rfl, by omega, .inr (by omega)⟩
    · rw [if_neg hx, List.append_nil]
      have h3 : n ≠ f + c * g := fun h => hx (hr.2 (by rw [h, Nat.add_mul_mod_self_right, Nat.mod_eq_of_lt hg]))
      exact ⟨c, rfl, by omega, by omega⟩
theorem diffs_steps (f g : Nat) : ∀ (c a : Nat), diffs (stepsL f g a (c + 1)) = List.replicate c (g : Int) := by
  intro c
  induction c with
  | zero => intro a; rfl
  | succ c ih =>
    intro a
    have h := ih (a + 1)
    have e : stepsL f g a (c + 1 + 1) = ((f + a * g : Nat) : Int) :: stepsL f g (a + 1) (c + 1) := by simp [stepsL, List.range'_succ]
    have e2 : stepsL f g (a + 1) (c + 1) = ((f + (a + 1) * g : Nat) : Int) :: stepsL f g (a + 1 + 1) c := by simp [stepsL, List.range'_succ]
    rw [e, e2, diffs, ← e2, h, List.replicate_succ]
    congr 1
    rw [Nat.succ_mul]; omega
theorem cyc_waits {l : List Int} {x : Int} {g f : Nat} (C : Cyc l x g f) : waitsOf l x = List.replicate (l.length / g) (g : Int) := by
  have hg := C.small
  have hp := C.pos
  obtain ⟨c, e, h1, h2⟩ := cyc_take C l.length (Nat.le_refl _)
  rw [List.take_of_length_le (Nat.le_refl _)] at e
  have hq := Nat.div_mul_cancel C.mult
  have q1 : 0 < l.length / g := Nat.div_pos (Nat.le_of_dvd hp C.mult) (by omega)
  have h3 : (l.length / g - 1 + 1) * g = l.length := by rw [Nat.sub_add_cancel q1]; exact hq
  have h4 : (l.length / g - 1 + 1) * g = (l.length / g - 1) * g + g := Nat.succ_mul _ _
  have h5 : l.length / g - 1 < c := lt_of_mul (g := g) (by omega)
  have h6 : c < l.length / g + 1 := lt_of_mul (g := g) (by rw [Nat.succ_mul]; omega)
  obtain ⟨d, rfl⟩ : ∃ d, c = d + 1 := ⟨c - 1, by omega⟩
  have hc : l.length / g = d + 1 := by omega
  have hne : posOf x 0 l ≠ [] := by rw [e]; simp [stepsL, List.range'_succ]
  rw [waitsOf, if_neg hne, e, diffs_steps, hc, List.replicate_succ']
  have hh : (stepsL f g 0 (d + 1)).headD (-1) = (f : Int) := by simp [stepsL, List.range'_succ]
  have hl : (stepsL f g 0 (d + 1)).getLastD (-1) = ((f + d * g : Nat) : Int) := by rw [← stepsL_snoc]; simp
  rw [hh, hl]
  have h7 : l.length = d * g + g := by rw [← hq, hc]; exact Nat.succ_mul _ _
  congr 2
  omega
theorem great_rep (n : Nat) (hn : 0 < n) (x : Int) (hx : 0 ≤ x) : great (List.replicate n x) = x := by
  have h1 := great_pos (l := List.replicate n x) (x := x) (List.mem_replicate.2 ⟨by omega, rfl⟩)
  have h2 := great_le (l := List.replicate n x) hx (fun y hy => by rw [(List.mem_replicate.1 hy).2]; exact Int.le_refl _)
  omega
theorem cyc_great {l : List Int} {x : Int} {g f : Nat} (C : Cyc l x g f) : great (waitsOf l x) = (g : Int) := by
  rw [cyc_waits C, great_rep _ (Nat.div_pos (Nat.le_of_dvd C.pos C.mult) (by have := C.small; omega)) _ (by omega)]
/-- one task put down -/
theorem fill_rest {out : List Int} {N h : Nat} (P : Place out N h) (hh : 0 < h) (hd : h ∣ N) (t : Nat) (hf : firstFree out < N) :
    firstFree out < h ∧ (∀ s : Nat, s < N → rd (fillM h t (N / h) (firstFree out) out) (s : Int) = if s % h = firstFree out then (t : Int) else rd out (s : Int)) ∧ (∀ s : Nat, s < N → s % h = firstFree out → rd out (s : Int) < 0) := by
  have hl := P.len
  have hs := firstFree_small P.per hh (by omega)
  have hfree := firstFree_free (out := out) (by omega)
  have hq := Nat.div_mul_cancel hd
  refine ⟨hs, fun s hsn => ?_, fun s hsn hm => ?_⟩
  · rw [fillM_rd h t hh (N / h) _ out (by omega) s (by omega)]
    by_cases c : s % h = firstFree out
    · have h2 := Nat.mod_add_div s h
      rw [if_pos c, if_pos ⟨by omega, by omega, by rw [show s - firstFree out = h * (s / h) by omega, Nat.mul_mod_right]⟩]
    · rw [if_neg c, if_neg]
      rintro ⟨h1, _, h3⟩
      obtain ⟨d, hd2⟩ := Nat.dvd_of_mod_eq_zero h3
      apply c
      rw [show s = firstFree out + h * d by omega, Nat.add_mul_mod_self_left, Nat.mod_eq_of_lt hs]
  · have h2 := Nat.mod_add_div s h
    rw [hm, Nat.mul_comm] at h2
    have h3 := P.per.mul (s / h) (firstFree out) (by omega)
    rw [h2] at h3
    exact h3.1 hfree
/-- what later tasks leave -/
theorem gre_keep (G : List Int) (N : Nat) (hN : 0 < N) (hG : ∀ t, 0 ≤ t → t < (G.length : Int) → 0 < rd G t) : ∀ (ts out : List Int), Harm G N ts → (∀ h, ts.head? = some h → Place out N (rd G h).toNat) → out.length = N →
    ∀ r, gre G N ts out = some r → (∀ t : Int, 0 ≤ t → t ∉ ts → ∀ s : Nat, s < N → (rd r (s : Int) = t ↔ rd out (s : Int) = t)) ∧
      ((ts.Nodup ∧ ∀ t ∈ ts, ∀ s : Nat, s < N → rd out (s : Int) ≠ t) → ∀ t ∈ ts, ∃ f : Nat, f < (rd G t).toNat ∧ ∀ s : Nat, s < N → (rd r (s : Int) = t ↔ s % (rd G t).toNat = f)) := by
  intro ts
  induction ts with
  | nil =>
    intro out _ _ _ r hr
    rw [gre] at hr
    obtain rfl := Option.some.inj hr
    exact ⟨fun t _ _ s _ => Iff.rfl, fun _ t ht => absurd ht (by simp)⟩
  | cons t ts ih =>
    intro out H hp hl r hr
    have ht := H.mem t List.mem_cons_self
    have hg := hG t ht.1 ht.2
    have hd := H.dvd t List.mem_cons_self
    have P := hp t rfl
    have pw := H.pw
    rw [List.pairwise_cons] at pw
    rw [gre] at hr
    by_cases c : firstFree out < N
    · rw [if_pos c] at hr
      obtain ⟨hs, hrd, hfr⟩ := fill_rest P (by omega) hd t.toNat c
      obtain ⟨P2, _⟩ := place_ok P (by omega) (Nat.div_mul_cancel hd).symm t.toNat c
      have e : ((t.toNat : Nat) : Int) = t := by omega
      rw [e] at hrd
      obtain ⟨k1, k2⟩ := ih _ ⟨fun z hz => H.mem z (List.mem_cons_of_mem _ hz), fun z hz => H.dvd z (List.mem_cons_of_mem _ hz), pw.2⟩ (fun h hh2 => ⟨P2.len, P2.per.dvd (pw.1 h (List.mem_of_mem_head? hh2))⟩) P2.len r hr
      refine ⟨fun u hu hun s hsn => ?_, ?_⟩
      · rw [k1 u hu (fun h => hun (List.mem_cons_of_mem _ h)) s hsn, hrd s hsn]
        by_cases cs : s % (rd G t).toNat = firstFree out
        · rw [if_pos cs]
          have h1 := hfr s hsn cs
          have h2 : t ≠ u := fun h => hun (by rw [h]; exact List.mem_cons_self)
          constructor
          · intro h; exact absurd h h2
          · intro h; omega
        · rw [if_neg cs]
      · rintro ⟨hnd, hno⟩
        rw [List.nodup_cons] at hnd
        intro u hu
        rcases List.mem_cons.1 hu with rfl | hu
        · refine ⟨firstFree out, hs, fun s hsn => ?_⟩
          rw [k1 u ht.1 hnd.1 s hsn, hrd s hsn]
          by_cases cs : s % (rd G u).toNat = firstFree out
          · rw [if_pos cs]; exact ⟨fun _ => cs, fun _ => rfl⟩
          · rw [if_neg cs]
            exact ⟨fun h => absurd h (hno u List.mem_cons_self s hsn), fun h => absurd h cs⟩
        · refine k2 ⟨hnd.2, fun z hz s hsn => ?_⟩ u hu
          rw [hrd s hsn]
          split
          · intro h; exact hnd.1 (by rw [h]; exact hz)
          · exact hno z (List.mem_cons_of_mem _ hz) s hsn
    · rw [if_neg c] at hr
      exact absurd hr (by simp)
theorem insB_perm (G : List Int) (x : Int) : ∀ ra B, (insB G x ra B).Perm (x :: (ra ++ B)) := by
  intro ra
  induction ra with
  | nil => intro B; exact List.Perm.refl _
  | cons y ra ih =>
    intro B
    rw [insB]
    split
    · exact (ih (y :: B)).trans (List.Perm.cons x List.perm_middle)
    · exact List.perm_middle.trans (List.Perm.cons x ((List.reverse_perm (y :: ra)).append_right B))
theorem ordF_nodup (G : List Int) : ∀ n, (ordF G n).Nodup := by
  intro n
  induction n with
  | zero => exact List.nodup_nil
  | succ n ih =>
    rw [ordF, (insB_perm G _ _ _).nodup_iff, List.append_nil, List.nodup_cons]
    refine ⟨fun h => ?_, (List.reverse_perm _).nodup_iff.2 ih⟩
    have := (ordF_mem G n _).1 (List.mem_reverse.1 h)
    omega
/-- the entries of harmonic turns -/
theorem gre_mem (G : List Int) (N : Nat) : ∀ (ts out r : List Int), gre G N ts out = some r → ∀ y ∈ r, y ∈ out ∨ ((y.toNat : Nat) : Int) = y ∧ ∃ t ∈ ts, y = t.toNat := by
  have hf : ∀ (g t m p : Nat) (out : List Int), ∀ y ∈ fillM g t m p out, y ∈ out ∨ y = (t : Int) := by
    intro g t m
    induction m with
    | zero => intro p out y hy; exact .inl hy
    | succ m ih =>
      intro p out y hy
      rw [fillM] at hy
      rcases ih _ _ y hy with h | h
      · rcases List.mem_or_eq_of_mem_set h with h | h
        · exact .inl h
        · exact .inr h
      · exact .inr h
  intro ts
  induction ts with
  | nil => intro out r h y hy; rw [gre] at h; obtain rfl := Option.some.inj h; exact .inl hy
  | cons t ts ih =>
    intro out r h y hy
    rw [gre] at h
    split at h
    · rcases ih _ _ h y hy with h2 | ⟨h2, z, hz, e⟩
      · rcases hf _ _ _ _ _ y h2 with h3 | h3
        · exact .inl h3
        · exact .inr ⟨by omega, t, List.mem_cons_self, h3⟩
      · exact .inr ⟨h2, z, List.mem_cons_of_mem _ hz, e⟩
    · exact absurd h (by simp)
theorem harmT_mem {G r : List Int} (hr : harmT G = some r) : ∀ y ∈ r, -1 ≤ y ∧ y < (G.length : Int) := fun y hy => by
  rcases gre_mem G _ _ _ _ hr y hy with h | ⟨_, t, ht, e⟩
  · rw [(List.mem_replicate.1 h).2]; omega
  · have := (ordF_mem G _ t).1 ht
    omega
theorem harmT_len {G r : List Int} (hr : harmT G = some r) : r.length = (great G).toNat := by
  have := gre_length G _ _ _ _ hr
  rwa [List.length_replicate] at this
theorem harmT_cyc {G : List Int} (hG : ∀ x ∈ G, 1 ≤ x ∧ x ≤ 40) (h1 : 1 ≤ G.length) (hh : harmB G = true) {r : List Int} (hr : harmT G = some r) (i : Nat) (hi : i < G.length) : ∃ f, Cyc r (i : Int) (rd G (i : Int)).toNat f := by
  obtain ⟨_, g1, g2⟩ := harm_great hG h1
  have H := harm_order hG h1 hh
  have hl := harmT_len hr
  have hm := (ordF_mem G G.length (i : Int)).2 (by omega)
  obtain ⟨_, k⟩ := gre_keep G (great G).toNat (by omega) (fun t h0 h2 => by have := hG _ (rd_mem h0 h2); omega) _ _ H (fun h _ => start_place _ _) List.length_replicate r hr
  obtain ⟨f, hf, hs⟩ := k ⟨ordF_nodup G _, fun t ht s hs => by
    have := (ordF_mem G _ t).1 ht
    rw [rd_nat (by rw [List.length_replicate]; exact hs), List.getElem_replicate]
    omega⟩ _ hm
  exact ⟨f, hf, by rw [hl]; exact H.dvd _ hm, by omega, fun s hs2 => hs s (by omega)⟩
theorem harmT_servesB {G : List Int} (hG : ∀ x ∈ G, 1 ≤ x ∧ x ≤ 40) {l : List Int} (h : ∀ i : Nat, i < G.length → ∃ f, Cyc l (i : Int) (rd G (i : Int)).toNat f) : (List.range' 0 G.length).all (servesB G l) = true := by
  rw [List.all_eq_true]
  intro i hi
  have hi2 : i < G.length := by have := List.mem_range'_1.1 hi; omega
  obtain ⟨f, C⟩ := h i hi2
  have hg := hG _ (rd_mem (l := G) (i := (i : Int)) (by omega) (by omega))
  rw [servesB, cyc_great C]
  exact decide_eq_true (by omega)
end Go.Proofs.Ytgbapmmfhdphmaa.Pure
end
section
namespace Go.Proofs.Ytgbapmmfhdphmaa.Pure
open Go.RowKit Go.Proofs.Ytgbapmmfhdphmaa.P Go.Proofs.YtgbapmmfhdphmaaW.PrintWords Go.Proofs.YtgbapmmfhdphmaaW.PrintLast Go.Proofs.YtgbapmmfhdphmaaW.PrintMore
set_option linter.unusedVariables false
set_option linter.unusedSimpArgs false
theorem turnsCode_f (G l : List Int) : impl_turnsCode.f G l = some (if isTasks G = true then (if isTurns l (G.length : Int) = true then 0 else 2) else 1) := by
  unfold impl_turnsCode.f
  rw [show impl_Tasks_many.f G = some (G.length : Int) from rfl, Option.bind_some, areTurns_f, Option.bind_some]
  unfold impl_tasksCode.f
  rw [IsTasks_f, Option.bind_some]
  cases isTasks G <;> cases isTurns l (G.length : Int) <;> rfl
def doServeR (G l : List Int) : Bool × Int := if isTasks G = true then (if isTurns l (G.length : Int) = true then ((List.range' 0 G.length).all (servesB G l), 0) else (false, 2)) else (false, 1)
theorem DoServe_impl (G l : List Int) : Ev (fun k => impl_DoServe.f k G l) (doServeR G l) := by
  unfold impl_DoServe.f doServeR
  refine ev_fix (turnsCode_f G l) ?_
  cases ht : isTasks G with
  | false => exact ev_neg (by simp) (ev_now _)
  | true =>
    obtain ⟨h8, hG⟩ := (isTasks_iff G).1 ht
    cases hl : isTurns l (G.length : Int) with
    | false => exact ev_neg (by simp) (ev_now _)
    | true =>
      have := isTurns_len hl
      exact ev_pos (by simp) (ev_bind (serves_ev G l (by omega) (by omega)) (ev_now _))
theorem isTurns_of {l : List Int} {m : Nat} (hm : m ≤ 1000) (h : 1 ≤ l.length ∧ l.length ≤ 120) (hx : ∀ x ∈ l, -1 ≤ x ∧ x < (m : Int)) : isTurns l (m : Int) = true := by
  rw [isTurns, decide_eq_true (by omega), Bool.true_and, List.all_eq_true]
  intro x hxl
  have := hx x hxl
  rw [wrap_id (x := (m : Int) - 1) (by omega) (by omega)]
  exact decide_eq_true (by omega)
theorem isTurns_iff8 (l : List Int) : isTurns l 8 = true ↔ (1 ≤ l.length ∧ l.length ≤ 120) ∧ ∀ x ∈ l, -1 ≤ x ∧ x ≤ 7 := by
  refine ⟨fun h => ⟨isTurns_len h, fun x hx => isTurns8_mem h hx⟩, fun h => ?_⟩
  exact isTurns_of (m := 8) (by omega) h.1 (fun x hx => by have := h.2 x hx; omega)
theorem doServe_ok {G l : List Int} (ht : isTasks G = true) (hl : isTurns l (G.length : Int) = true) (h : ∀ i : Nat, i < G.length → ∃ f, Cyc l (i : Int) (rd G (i : Int)).toNat f) : doServeR G l = (true, 0) := by
  obtain ⟨h8, hG⟩ := (isTasks_iff G).1 ht
  rw [doServeR, if_pos ht, if_pos hl, harmT_servesB hG h]
/-- the density of harmonic tasks -/
def densR (G : List Int) : Int × Int := (((sumG (great G).toNat G / Nat.gcd (sumG (great G).toNat G) (great G).toNat : Nat) : Int), (((great G).toNat / Nat.gcd (sumG (great G).toNat G) (great G).toNat : Nat) : Int))
/-- harmonic turns: all told -/
theorem harm_turns {G r : List Int} (ht : isTasks G = true) (hr : harmT G = some r) : (1 ≤ r.length ∧ r.length ≤ 40) ∧ isTurns r (G.length : Int) = true ∧ isTurns r 8 = true := by
  obtain ⟨h8, hG⟩ := (isTasks_iff G).1 ht
  obtain ⟨_, g1, g2⟩ := harm_great hG h8.1
  have hl := harmT_len hr
  have hm := harmT_mem hr
  refine ⟨by omega, isTurns_of (by omega) (by omega) hm, (isTurns_iff8 r).2 ⟨by omega, fun x hx => by have := hm x hx; omega⟩⟩
end Go.Proofs.Ytgbapmmfhdphmaa.Pure
end
section
namespace Go.Proofs.Ytgbapmmfhdphmaa.Pure
open Go.RowKit Go.Proofs.Ytgbapmmfhdphmaa.P Go.Proofs.YtgbapmmfhdphmaaW.PrintWords Go.Proofs.YtgbapmmfhdphmaaW.PrintLast Go.Proofs.YtgbapmmfhdphmaaW.PrintMore
set_option linter.unusedVariables false
set_option linter.unusedSimpArgs false
def dgR (G : List Int) : Int × Int := (((sumG (lcmN 1 G) G / Nat.gcd (sumG (lcmN 1 G) G) (lcmN 1 G) : Nat) : Int), ((lcmN 1 G / Nat.gcd (sumG (lcmN 1 G) G) (lcmN 1 G) : Nat) : Int))
theorem lcm_take8 {G : List Int} (hG : ∀ x ∈ G, 1 ≤ x ∧ x ≤ 40) (h8 : G.length ≤ 8) (n : Nat) : 1 ≤ lcmN 1 (G.take n) ∧ lcmN 1 (G.take n) ≤ 167961600000000 := by
  have h1 := lcmN_pos 1 (by omega) (G.take n) (fun x hx => (hG x (List.mem_of_mem_take hx)).1)
  have h2 := lcmN_le8 (l := G.take n) (fun x hx => by have := hG x (List.mem_of_mem_take hx); omega) (by rw [List.length_take]; omega)
  omega
theorem density_any_l0 (G : List Int) (hG : ∀ x ∈ G, 1 ≤ x ∧ x ≤ 40) (h8 : G.length ≤ 8) (N : Nat) (hN : 1 ≤ N ∧ N ≤ 167961600000000) (R : Int × Int)
    (hR : R = (((sumG N G / Nat.gcd (sumG N G) N : Nat) : Int), ((N / Nat.gcd (sumG N G) N : Nat) : Int))) : ∀ d n : Nat, n + d = G.length →
    Ev (fun k => impl_Tasks_density.l0 k (N : Int) ((sumG N (G.take n) : Nat) : Int) G (G.length : Int) (n : Int)) R := by
  intro d
  induction d with
  | zero =>
    intro n hn
    rw [List.take_of_length_le (by omega)]
    have hs := sumG_le N G
    have hb : sumG N G ≤ 8 * 167961600000000 := Nat.le_trans hs (Nat.mul_le_mul h8 hN.2)
    have hg : 0 < Nat.gcd (sumG N G) N := Nat.gcd_pos_of_pos_right _ (by omega)
    have h1 := Nat.div_le_self (sumG N G) (Nat.gcd (sumG N G) N)
    have h2 := Nat.div_le_self N (Nat.gcd (sumG N G) N)
    refine Ev.step (fun k => by rw [impl_Tasks_density.l0]) ?_
    refine ev_neg (by omega) (ev_bind (divisor_ev (sumG N G) N) (ev_neg (by omega) ?_))
    rw [tdiv_nat, tdiv_nat, wrap_nat (by omega), wrap_nat (by omega), hR]
    exact ev_now _
  | succ d ih =>
    intro n hn
    have hlt : n < G.length := by omega
    have hg := hG _ (List.getElem_mem hlt)
    have hs := sumG_le N (G.take n)
    rw [List.length_take] at hs
    have hb : sumG N (G.take n) ≤ 8 * 167961600000000 := Nat.le_trans hs (Nat.mul_le_mul (by omega) hN.2)
    have h1 := Nat.div_le_self N (G[n]).toNat
    have ih := ih (n + 1) (by omega)
    rw [List.take_succ_eq_append_getElem hlt, sumG_append] at ih
    refine Ev.step (fun k => by rw [impl_Tasks_density.l0]) ?_
    rw [rd_nat hlt, wrap_succ (n := n) (by omega), show Int.tdiv (N : Int) G[n] = ((N / (G[n]).toNat : Nat) : Int) by
      conv => lhs; rw [show G[n] = ((G[n].toNat : Nat) : Int) by omega]
      exact tdiv_nat _ _]
    rw [wrap_nat (n := N / (G[n]).toNat) (by omega), ← Int.natCast_add, wrap_nat (by omega)]
    refine ev_pos (by omega) (ev_pos (by omega) (ev_pos (by omega) (ev_neg (by omega) ?_)))
    have e : sumG N (G.take n) + N / (G[n]).toNat = sumG N (G.take n) + sumG N [G[n]] := by simp [sumG]
    rw [e]
    exact ih
theorem density_any (G : List Int) (hG : ∀ x ∈ G, 1 ≤ x ∧ x ≤ 40) (h8 : G.length ≤ 8) : Ev (fun k => impl_Tasks_density.f k G) (dgR G) := by
  have hm := multiple_ev G h8 (fun x hx => by have := hG x hx; omega)
  have hN := lcm_take8 hG h8 G.length
  rw [List.take_of_length_le (Nat.le_refl _)] at hN
  unfold impl_Tasks_density.f
  exact ev_bind hm (density_any_l0 G hG h8 _ hN _ rfl G.length 0 (by omega))
def densOfR (G : List Int) : Int × Int × Int := if isTasks G = true then ((dgR G).1, (dgR G).2, 0) else (0, 0, 1)
theorem DensityOf_any (G : List Int) : Ev (fun k => impl_DensityOf.f k G) (densOfR G) := by
  unfold impl_DensityOf.f densOfR
  refine ev_fix (tasksCode_f G) ?_
  cases ht : isTasks G with
  | false => exact ev_neg (by simp) (ev_now _)
  | true =>
    obtain ⟨h8, hG⟩ := (isTasks_iff G).1 ht
    rw [if_pos rfl, if_pos rfl]
    exact ev_pos rfl (ev_bind (density_any G hG h8.2) (ev_now _))
theorem dgR_harm (G : List Int) (hG : ∀ x ∈ G, 1 ≤ x ∧ x ≤ 40) (h1 : 1 ≤ G.length) (hh : harmB G = true) : dgR G = densR G := by
  unfold dgR densR
  rw [harm_lcm hG h1 hh]
end Go.Proofs.Ytgbapmmfhdphmaa.Pure
end
section
namespace Go.Proofs.Ytgbapmmfhdphmaa.Pure
open Go.RowKit Go.Proofs.Ytgbapmmfhdphmaa.P Go.Proofs.YtgbapmmfhdphmaaW.PrintWords Go.Proofs.YtgbapmmfhdphmaaW.PrintLast Go.Proofs.YtgbapmmfhdphmaaW.PrintMore
set_option linter.unusedVariables false
set_option linter.unusedSimpArgs false
theorem likeInts_ev (l : List Int) (hl : l.length ≤ 1048576) : Ev (fun k => laws_likeInts.f k l l) true := by
  have main : ∀ d n : Nat, n + d = l.length → Ev (fun k => laws_likeInts.l0 k l l (n : Int)) true := by
    intro d
    induction d with
    | zero =>
      intro n hn
      exact Ev.step (fun k => by rw [laws_likeInts.l0]) (ev_neg (by omega) (ev_now _))
    | succ d ih =>
      intro n hn
      refine Ev.step (fun k => by rw [laws_likeInts.l0]) (ev_pos (by omega) (ev_pos (by omega) (ev_pos (by omega) (ev_pos rfl ?_))))
      rw [wrap_succ (n := n) (by omega)]
      exact ih (n + 1) (by omega)
  unfold laws_likeInts.f
  exact ev_pos rfl (main l.length 0 (by omega))
end Go.Proofs.Ytgbapmmfhdphmaa.Pure
end
section
namespace Go.Proofs.Ytgbapmmfhdphmaa.Pure
open Go.RowKit Go.Proofs.Ytgbapmmfhdphmaa.P Go.Proofs.YtgbapmmfhdphmaaW.PrintWords Go.Proofs.YtgbapmmfhdphmaaW.PrintLast Go.Proofs.YtgbapmmfhdphmaaW.PrintMore
set_option linter.unusedVariables false
set_option linter.unusedSimpArgs false
def EvP {β : Type} (A : Nat → Option β) (P : β → Prop) : Prop := ∃ r, Ev A r ∧ P r
theorem evp_now {β : Type} {P : β → Prop} {r : β} (h : P r) : EvP (fun _ => some r) P := ⟨r, Ev.now r, h⟩
theorem evp_mono {β : Type} {A : Nat → Option β} {P Q : β → Prop} (h : EvP A P) (k : ∀ r, P r → Q r) : EvP A Q := by
  obtain ⟨r, e, p⟩ := h; exact ⟨r, e, k r p⟩
theorem evp_bind {α β : Type} {g : Nat → Option α} {f : Nat → α → Option β} {Q : α → Prop} {P : β → Prop} (h : EvP g Q) (k : ∀ a, Q a → EvP (fun n => f n a) P) : EvP (fun n => (g n).bind (f n)) P := by
  obtain ⟨a, e, q⟩ := h
  obtain ⟨r, e2, p⟩ := k a q
  exact ⟨r, Ev.bind e e2, p⟩
theorem evp_ev {α β : Type} {g : Nat → Option α} {f : Nat → α → Option β} {a : α} {P : β → Prop} (h : Ev g a) (k : EvP (fun n => f n a) P) : EvP (fun n => (g n).bind (f n)) P := by
  obtain ⟨r, e2, p⟩ := k
  exact ⟨r, Ev.bind h e2, p⟩
theorem evp_fix {α β : Type} {g : Option α} {f : Nat → α → Option β} {a : α} {P : β → Prop} (h : g = some a) (k : EvP (fun n => f n a) P) : EvP (fun n => g.bind (f n)) P := by subst h; exact k
theorem evp_pos {β : Type} {c : Prop} [Decidable c] {A B : Nat → Option β} {P : β → Prop} (h : c) (k : EvP A P) : EvP (fun n => if c then A n else B n) P := by
  obtain ⟨r, e, p⟩ := k; exact ⟨r, Ev.congr (fun n => if_pos h) e, p⟩
theorem evp_neg {β : Type} {c : Prop} [Decidable c] {A B : Nat → Option β} {P : β → Prop} (h : ¬ c) (k : EvP B P) : EvP (fun n => if c then A n else B n) P := by
  obtain ⟨r, e, p⟩ := k; exact ⟨r, Ev.congr (fun n => if_neg h) e, p⟩
theorem evp_ite {β : Type} {c : Prop} [Decidable c] {A B : Nat → Option β} {P : β → Prop} (h1 : c → EvP A P) (h2 : ¬ c → EvP B P) : EvP (fun n => if c then A n else B n) P := by
  by_cases h : c
  · exact evp_pos h (h1 h)
  · exact evp_neg h (h2 h)
theorem evp_step {β : Type} {g f : Nat → Option β} {P : β → Prop} (h : ∀ k, g (k + 1) = f k) (k : EvP f P) : EvP g P := by
  obtain ⟨r, e, p⟩ := k; exact ⟨r, Ev.step h e, p⟩
theorem evp_true {A : Nat → Option Bool} (h : EvP A (fun r => r = true)) : Ev A true := by
  obtain ⟨r, e, p⟩ := h; subst p; exact e
theorem evp_of {β : Type} {A : Nat → Option β} {P : β → Prop} {r : β} (h : Ev A r) (p : P r) : EvP A P := ⟨r, h, p⟩
end Go.Proofs.Ytgbapmmfhdphmaa.Pure
end
section
namespace Go.Proofs.Ytgbapmmfhdphmaa.Pure
open Go.RowKit Go.Proofs.Ytgbapmmfhdphmaa.P Go.Proofs.YtgbapmmfhdphmaaW.PrintWords Go.Proofs.YtgbapmmfhdphmaaW.PrintLast Go.Proofs.YtgbapmmfhdphmaaW.PrintMore
set_option linter.unusedVariables false
set_option linter.unusedSimpArgs false
theorem l01Own_f (l : List Int) (hl : l.length < 17592186044416) : spec_l01Own.f l = some l := by
  unfold spec_l01Own.f
  simp only [Option.bind_some, List.nil_append, List.length_nil, Nat.zero_add]
  rw [if_pos hl]
end Go.Proofs.Ytgbapmmfhdphmaa.Pure
end
section
namespace Go.Proofs.Ytgbapmmfhdphmaa.Pure
open Go.RowKit Go.Proofs.Ytgbapmmfhdphmaa.P Go.Proofs.YtgbapmmfhdphmaaW.PrintWords Go.Proofs.YtgbapmmfhdphmaaW.PrintLast Go.Proofs.YtgbapmmfhdphmaaW.PrintMore
set_option linter.unusedVariables false
set_option linter.unusedSimpArgs false
def Bytes (b : List Int) : Prop := (∀ x ∈ b, 0 ≤ x ∧ x ≤ 255) ∧ b.length ≤ 4096
def Ok (b : List Int) (i : Int) : Prop := 0 ≤ i ∧ i ≤ (b.length : Int)
theorem bits_bound (x : Int) : 0 ≤ Go.bits .and .u64 x 16777215 ∧ Go.bits .and .u64 x 16777215 ≤ 16777215 := by
  have h : (BitVec.ofInt 64 x &&& BitVec.ofInt 64 16777215).toNat ≤ 16777215 := by
    rw [BitVec.toNat_and]
    exact Nat.le_trans Nat.and_le_right (by decide)
  show 0 ≤ IntKind.u64.wrap ((BitVec.ofInt 64 x &&& BitVec.ofInt 64 16777215).toNat : Int) ∧ IntKind.u64.wrap ((BitVec.ofInt 64 x &&& BitVec.ofInt 64 16777215).toNat : Int) ≤ 16777215
  generalize (BitVec.ofInt 64 x &&& BitVec.ofInt 64 16777215).toNat = n at h
  have e : IntKind.u64.wrap (n : Int) = (n : Int) := by
    show (n : Int) % 18446744073709551616 = (n : Int)
    omega
  rw [e]
  omega
theorem next_f {b : List Int} (hb : Bytes b) {i : Int} (hi : Ok b i) (h n : Int) :
    ∃ v i2 h2, spec_l01Next.f b i h n = some (v, i2, h2) ∧ 0 ≤ v ∧ (1 ≤ n → v < n) ∧ (n < 1 → v = 0) ∧ Ok b i2 := by
  unfold spec_l01Next.f
  by_cases c : n < 1
  · rw [if_pos c]; exact ⟨_, _, _, rfl, by omega, fun _ => by omega, fun _ => rfl, hi⟩
  rw [if_neg c]
  have hy := bits_bound (IntKind.u64.wrap ((IntKind.u64.wrap (h * 6364136223846793005)) + 1442695040888963407) / 8589934592)
  generalize Go.bits .and .u64 (IntKind.u64.wrap ((IntKind.u64.wrap (h * 6364136223846793005)) + 1442695040888963407) / 8589934592) 16777215 = y at hy ⊢
  rw [wrap_id (x := y) (by omega) (by omega)]
  have hl := hb.2
  obtain ⟨h0, h1⟩ := hi
  by_cases d : i < (b.length : Int)
  · have hx := hb.1 _ (rd_mem (l := b) (i := i) h0 d)
    rw [if_pos d, if_pos h0, if_neg (by omega), wrap_id (x := rd b i) (by omega) (by omega), wrap_id (x := y + rd b i) (by omega) (by omega), wrap_id (x := i + 1) (by omega) (by omega)]
    exact ⟨_, _, _, rfl, Int.tmod_nonneg _ (by omega), fun _ => Int.tmod_lt_of_pos _ (by omega), fun h => absurd h c, by constructor <;> omega⟩
  · rw [if_neg d, if_neg (by omega)]
    exact ⟨_, _, _, rfl, Int.tmod_nonneg _ (by omega), fun _ => Int.tmod_lt_of_pos _ (by omega), fun h => absurd h c, ⟨h0, h1⟩⟩
theorem evp_next {β : Type} {b : List Int} (hb : Bytes b) {i : Int} (hi : Ok b i) {h n : Int} {f : Nat → Int × Int × Int → Option β} {P : β → Prop}
    (k : ∀ v i2 h2, 0 ≤ v → (1 ≤ n → v < n) → (n < 1 → v = 0) → Ok b i2 → EvP (fun m => f m (v, i2, h2)) P) : EvP (fun m => (spec_l01Next.f b i h n).bind (f m)) P := by
  obtain ⟨v, i2, h2, e, h1, h3, h4, h5⟩ := next_f hb hi h n
  exact evp_fix e (k v i2 h2 h1 h3 h4 h5)
theorem evp_pick {β : Type} {b : List Int} (hb : Bytes b) {i : Int} (hi : Ok b i) {h : Int} {l : List Int} (hl : 1 ≤ l.length) {f : Nat → Int × Int × Int → Option β} {P : β → Prop}
    (k : ∀ v i2 h2, v ∈ l → Ok b i2 → EvP (fun m => f m (v, i2, h2)) P) : EvP (fun m => (spec_l01Pick.f b i h l).bind (f m)) P := by
  obtain ⟨v, i2, h2, e, h1, h3, h4, h5⟩ := next_f hb hi h (l.length : Int)
  refine evp_fix (a := (rd l v, i2, h2)) ?_ (k _ i2 h2 (rd_mem h1 (h3 (by omega))) h5)
  unfold spec_l01Pick.f
  rw [e, Option.bind_some, if_pos h1, if_pos (h3 (by omega))]
theorem l01From_evp (b : List Int) (hl : b.length ≤ 4096) : EvP (fun k => spec_l01From.f k b) (fun r => r.1 = b ∧ r.2.1 = 0) := by
  have main : ∀ d n : Nat, n + d = b.length → ∀ h : Int, EvP (fun k => spec_l01From.l0 k b (n : Int) b 0 h) (fun r => r.1 = b ∧ r.2.1 = 0) := by
    intro d
    induction d with
    | zero =>
      intro n hn h
      exact evp_step (fun k => by rw [spec_l01From.l0]) (evp_neg (by omega) (evp_now ⟨rfl, rfl⟩))
    | succ d ih =>
      intro n hn h
      refine evp_step (fun k => by rw [spec_l01From.l0]) (evp_pos (by omega) (evp_pos (by omega) (evp_pos (by omega) ?_)))
      rw [wrap_succ (n := n) (by omega)]
      exact ih (n + 1) (by omega) _
  unfold spec_l01From.f
  exact main b.length 0 (by omega) _
theorem evp_from {β : Type} {b : List Int} (hb : Bytes b) {f : Nat → List Int × Int × Int → Option β} {P : β → Prop}
    (k : ∀ h, EvP (fun m => f m (b, 0, h)) P) : EvP (fun m => (spec_l01From.f m b).bind (f m)) P := by
  refine evp_bind (l01From_evp b hb.2) ?_
  rintro ⟨b2, i, h⟩ ⟨h1, h2⟩
  cases h1; cases h2
  exact k h
theorem ok_start (b : List Int) : Ok b 0 := by constructor <;> omega
theorem DrawTurns_l0 {b : List Int} (hb : Bytes b) (x1 x6 : Int) : ∀ (d : Nat) (l : List Int) (i h : Int), d ≤ 100000 → l.length + d ≤ 100000 → Ok b i →
    EvP (fun k => spec_l01DrawTurns.l0 k x1 l x6 (d : Int) b i h) (fun r => r.1.length = l.length + d ∧ Ok b r.2.1 ∧ ∀ x ∈ r.1, x ∈ l ∨ -1 ≤ x ∧ (x < x1 ∨ x ≤ 0)) := by
  intro d
  induction d with
  | zero =>
    intro l i h _ _ hi
    exact evp_step (fun k => by rw [spec_l01DrawTurns.l0]) (evp_neg (by omega) (evp_now ⟨rfl, hi, fun x hx => .inl hx⟩))
  | succ d ih =>
    intro l i h hd hl hi
    refine evp_step (fun k => by rw [spec_l01DrawTurns.l0]) ?_
    refine evp_pos (by omega) (evp_next hb hi fun v i2 h2 v0 v1 v2 hi2 => evp_next hb hi2 fun u i3 h3 u0 u1 u2 hi3 => ?_)
    rw [wrap_id (x := ((d + 1 : Nat) : Int) - 1) (by omega) (by omega), show ((d + 1 : Nat) : Int) - 1 = (d : Int) by omega]
    have fin : ∀ z : Int, -1 ≤ z ∧ (z < x1 ∨ z ≤ 0) → EvP (fun k => spec_l01DrawTurns.l0 k x1 (l ++ [z]) x6 (d : Int) b i3 h3) (fun r => r.1.length = l.length + (d + 1) ∧ Ok b r.2.1 ∧ ∀ x ∈ r.1, x ∈ l ∨ -1 ≤ x ∧ (x < x1 ∨ x ≤ 0)) := fun z hz => by
      refine evp_mono (ih (l ++ [z]) i3 h3 (by omega) (by rw [List.length_append, List.length_singleton]; omega) hi3) ?_
      rintro r ⟨r1, r2, r3⟩
      rw [List.length_append, List.length_singleton] at r1
      refine ⟨by omega, r2, fun x hx => ?_⟩
      rcases r3 x hx with hx | hx
      · rcases List.mem_append.1 hx with hx | hx
        · exact .inl hx
        · rw [List.mem_singleton.1 hx]; exact .inr hz
      · exact .inr hx
    refine evp_ite (fun _ => evp_pos (by omega) (fin _ (by omega))) (fun _ => evp_pos (by omega) (fin _ ?_))
    show -1 ≤ v ∧ (v < x1 ∨ v ≤ 0)
    by_cases c : 1 ≤ x1
    · have := v1 c; omega
    · have := v2 (by omega); omega
theorem DrawTurns_evp {b : List Int} (hb : Bytes b) {i : Int} (hi : Ok b i) (h x1 : Int) : EvP (fun k => spec_l01DrawTurns.f k b i h x1) (fun r => (1 ≤ r.1.length ∧ r.1.length ≤ 120) ∧ Ok b r.2.1 ∧ ∀ x ∈ r.1, -1 ≤ x ∧ (x < x1 ∨ x ≤ 0)) := by
  unfold spec_l01DrawTurns.f
  refine evp_pick hb hi (by decide) fun v i2 h2 hv hi2 => evp_pick hb hi2 (by decide) fun u i3 h3 hu hi3 => evp_next hb hi3 fun t i4 h4 t0 t1 t2 hi4 => ?_
  have hu2 : 1 ≤ u ∧ u ≤ 120 := by simp at hu; omega
  have ht := t1 (by omega)
  obtain ⟨m, rfl⟩ : ∃ m : Nat, t = m := ⟨t.toNat, by omega⟩
  show EvP (fun k => spec_l01DrawTurns.l0 k x1 [] v (wrap64 (1 + (m : Int))) b i4 h4) _
  rw [wrap_id (by omega) (by omega), show 1 + (m : Int) = ((m + 1 : Nat) : Int) by omega]
  refine evp_mono (DrawTurns_l0 hb x1 v (m + 1) [] i4 h4 (by omega) (by simp; omega) hi4) ?_
  rintro r ⟨r1, r2, r3⟩
  simp only [List.length_nil] at r1
  exact ⟨by omega, r2, fun x hx => by rcases r3 x hx with h | h; exact absurd h (by simp); exact h⟩
theorem DrawOf_evp {b : List Int} (hb : Bytes b) {i : Int} (hi : Ok b i) (h : Int) (m : Nat) (hm : m ≤ 1000) : EvP (fun k => spec_l01DrawOf.f k b i h (m : Int)) (fun r => r.1.length = m ∧ Ok b r.2.1) := by
  have main : ∀ (d n : Nat) (l : List Int) (i h : Int), n + d = m → l.length = n → Ok b i → EvP (fun k => spec_l01DrawOf.l0 k (m : Int) (n : Int) b i h l) (fun r => r.1.length = m ∧ Ok b r.2.1) := by
    intro d
    induction d with
    | zero =>
      intro n l i h hn hl hi
      exact evp_step (fun k => by rw [spec_l01DrawOf.l0]) (evp_neg (by omega) (evp_now ⟨by show l.length = m; omega, hi⟩))
    | succ d ih =>
      intro n l i h hn hl hi
      refine evp_step (fun k => by rw [spec_l01DrawOf.l0]) ?_
      refine evp_pos (by omega) (evp_pick hb hi (by decide) fun v i2 h2 hv hi2 => evp_next hb hi2 fun u i3 h3 u0 u1 u2 hi3 => evp_pos (by omega) ?_)
      rw [wrap_succ (n := n) (by omega)]
      exact ih (n + 1) _ i3 h3 (by omega) (by rw [List.length_append, List.length_singleton]; omega) hi3
  unfold spec_l01DrawOf.f
  exact main m 0 [] i h (by omega) rfl hi
theorem DrawServed_l1 {b : List Int} (hb : Bytes b) (m : Nat) (hm : m ≤ 1000) (x5 : List Int) (h5 : x5.length ≤ 120) : ∀ (d n : Nat) (l : List Int) (i h : Int), n + d = m → l.length = n → Ok b i →
    EvP (fun k => spec_l01DrawServed.l1 k (m : Int) x5 (n : Int) b i h l) (fun r => r.1.length = m ∧ r.2.1.length = x5.length ∧ Ok b r.2.2.1) := by
  intro d
  induction d with
  | zero =>
    intro n l i h hn hl hi
    exact evp_step (fun k => by rw [spec_l01DrawServed.l1]) (evp_neg (by omega) (evp_now ⟨by show l.length = m; omega, rfl, hi⟩))
  | succ d ih =>
    intro n l i h hn hl hi
    have fin : ∀ x9 : Int, EvP (fun k => spec_l01DrawServed.j3 k (m : Int) x5 (n : Int) x9 b i h l) (fun r => r.1.length = m ∧ r.2.1.length = x5.length ∧ Ok b r.2.2.1) := fun x9 => by
      refine evp_step (fun k => by rw [spec_l01DrawServed.j3]) ?_
      refine evp_next hb hi fun v i2 h2 v0 v1 v2 hi2 => evp_ite (fun _ => evp_next hb hi2 fun u i3 h3 u0 u1 u2 hi3 => evp_pos (by omega) ?_) (fun _ => evp_pos (by omega) ?_)
      · rw [wrap_succ (n := n) (by omega)]
        exact ih (n + 1) _ i3 h3 (by omega) (by rw [List.length_append, List.length_singleton]; omega) hi3
      · rw [wrap_succ (n := n) (by omega)]
        exact ih (n + 1) _ i2 h2 (by omega) (by rw [List.length_append, List.length_singleton]; omega) hi2
    refine evp_step (fun k => by rw [spec_l01DrawServed.l1]) (evp_pos (by omega) (evp_ev (l01Greatest_ev x5 n (by omega)) ?_))
    exact evp_ite (fun _ => fin _) (fun _ => fin _)
theorem DrawServed_l0 {b : List Int} (hb : Bytes b) (m : Nat) (hm : m ≤ 1000) (N : Nat) (hN : N ≤ 120) : ∀ (d n : Nat) (l : List Int) (i h : Int), n + d = m → l.length = N → Ok b i →
    EvP (fun k => spec_l01DrawServed.l0 k (m : Int) l (n : Int) b i h) (fun r => r.1.length = m ∧ r.2.1.length = N ∧ Ok b r.2.2.1) := by
  intro d
  induction d with
  | zero =>
    intro n l i h hn hl hi
    refine evp_step (fun k => by rw [spec_l01DrawServed.l0]) (evp_neg (by omega) (evp_step (fun k => by rw [spec_l01DrawServed.j1]) (evp_neg (by simp) ?_)))
    have := DrawServed_l1 hb m hm l (by omega) m 0 [] i h (by omega) rfl hi
    rw [hl] at this
    exact this
  | succ d ih =>
    intro n l i h hn hl hi
    refine evp_step (fun k => by rw [spec_l01DrawServed.l0]) (evp_pos (by omega) (evp_step (fun k => by rw [spec_l01DrawServed.j1]) ?_))
    by_cases c : (n : Int) < (l.length : Int)
    · rw [decide_eq_true c]
      refine evp_pos rfl (evp_ev (l01Greatest_ev l n (by omega)) ?_)
      refine evp_ite (fun _ => evp_pos (by omega) (evp_pos (by omega) ?_)) (fun _ => ?_)
      · rw [wrap_succ (n := n) (by omega)]
        exact ih (n + 1) _ i h (by omega) (by rw [List.length_set]; exact hl) hi
      · rw [wrap_succ (n := n) (by omega)]
        exact ih (n + 1) _ i h (by omega) hl hi
    · rw [decide_eq_false c]
      refine evp_neg (by simp) ?_
      have := DrawServed_l1 hb m hm l (by omega) m 0 [] i h (by omega) rfl hi
      rw [hl] at this
      exact this
theorem DrawServed_evp {b : List Int} (hb : Bytes b) {i : Int} (hi : Ok b i) (h : Int) : EvP (fun k => spec_l01DrawServed.f k b i h) (fun r => (1 ≤ r.1.length ∧ r.1.length ≤ 8) ∧ (1 ≤ r.2.1.length ∧ r.2.1.length ≤ 120) ∧ Ok b r.2.2.1) := by
  unfold spec_l01DrawServed.f
  refine evp_pick hb hi (by decide) fun v i2 h2 hv hi2 => evp_next hb hi2 fun u i3 h3 u0 u1 u2 hi3 => ?_
  have hv2 : 1 ≤ v ∧ v ≤ 8 := by simp at hv; omega
  have hu := u1 (by omega)
  obtain ⟨m, rfl⟩ : ∃ m : Nat, u = m := ⟨u.toNat, by omega⟩
  show EvP (fun k => (spec_l01DrawTurns.f k b i3 h3 (wrap64 (1 + (m : Int)))).bind fun bt111 => (spec_l01DrawServed.l0 k (wrap64 (1 + (m : Int))) bt111.1 0 b bt111.2.1 bt111.2.2)) _
  rw [wrap_id (by omega) (by omega), show 1 + (m : Int) = ((m + 1 : Nat) : Int) by omega]
  refine evp_bind (DrawTurns_evp hb hi3 h3 _) ?_
  rintro ⟨l, i4, h4⟩ ⟨r1, r2, r3⟩
  refine evp_mono (DrawServed_l0 hb (m + 1) (by omega) l.length r1.2 (m + 1) 0 l i4 h4 (by omega) rfl r2) ?_
  rintro r ⟨q1, q2, q3⟩
  have r1' : 1 ≤ l.length ∧ l.length ≤ 120 := r1
  exact ⟨by omega, by omega, q3⟩
theorem Draw_evp {b : List Int} (hb : Bytes b) {i : Int} (hi : Ok b i) (h : Int) : EvP (fun k => spec_l01Draw.f k b i h) (fun r => (1 ≤ r.1.length ∧ r.1.length ≤ 8) ∧ Ok b r.2.1) := by
  unfold spec_l01Draw.f
  refine evp_next hb hi fun v i2 h2 v0 v1 v2 hi2 => evp_ite (fun _ => evp_bind (DrawServed_evp hb hi2 h2) fun r hr => evp_now ⟨hr.1, hr.2.2⟩) (fun _ => evp_pick hb hi2 (by decide) fun u i3 h3 hu hi3 => evp_next hb hi3 fun t i4 h4 t0 t1 t2 hi4 => ?_)
  have hu2 : 1 ≤ u ∧ u ≤ 8 := by simp at hu; omega
  have ht := t1 (by omega)
  obtain ⟨m, rfl⟩ : ∃ m : Nat, t = m := ⟨t.toNat, by omega⟩
  show EvP (fun k => (spec_l01DrawOf.f k b i4 h4 (wrap64 (1 + (m : Int)))).bind fun bt123 => some (bt123.1, bt123.2.1, bt123.2.2)) _
  rw [wrap_id (by omega) (by omega), show 1 + (m : Int) = ((m + 1 : Nat) : Int) by omega]
  refine evp_bind (DrawOf_evp hb hi4 h4 (m + 1) (by omega)) fun r hr => evp_now ⟨?_, hr.2⟩
  have := hr.1
  show 1 ≤ r.1.length ∧ r.1.length ≤ 8
  omega
theorem Bad_evp {b : List Int} (hb : Bytes b) {i : Int} (hi : Ok b i) (h : Int) (l : List Int) (hl : 1 ≤ l.length ∧ l.length ≤ 1000) : EvP (fun k => spec_l01Bad.f k b i h l) (fun r => r.1.length ≤ 1000 ∧ Ok b r.2.1) := by
  have loop : ∀ (d : Nat) (x : List Int) (i h : Int), x.length ≤ 1000 → x.length + d ≥ 9 → Ok b i → EvP (fun k => spec_l01Bad.l0 k b i h x) (fun r => r.1.length ≤ 1000 ∧ Ok b r.2.1) := by
    intro d
    induction d with
    | zero =>
      intro x i h hx h9 hi
      exact evp_step (fun k => by rw [spec_l01Bad.l0]) (evp_neg (by omega) (evp_now ⟨hx, hi⟩))
    | succ d ih =>
      intro x i h hx h9 hi
      refine evp_step (fun k => by rw [spec_l01Bad.l0]) (evp_ite (fun c => evp_pos (by omega) ?_) (fun c => evp_now ⟨hx, hi⟩))
      exact ih _ i h (by rw [List.length_append, List.length_singleton]; omega) (by rw [List.length_append, List.length_singleton]; omega) hi
  unfold spec_l01Bad.f
  refine evp_fix (l01Own_f l (by omega)) (evp_next hb hi fun v i2 h2 v0 v1 v2 hi2 => evp_ite (fun _ => evp_now ⟨by simp, hi2⟩) (fun _ => evp_ite (fun _ => ?_) (fun _ => evp_ite (fun _ => loop 9 l i2 h2 hl.2 (by omega) hi2) (fun _ => evp_now ⟨hl.2, hi2⟩))))
  refine evp_fix (show spec_l01K.f l = some (l.length : Int) from rfl) (evp_next hb hi2 fun u i3 h3 u0 u1 u2 hi3 => evp_pick hb hi3 (by decide) fun t i4 h4 ht hi4 => evp_pos u0 (evp_pos (u1 (by omega)) (evp_now ⟨?_, hi4⟩)))
  show (l.set _ _).length ≤ 1000
  rw [List.length_set]; omega
theorem Spoil_evp {b : List Int} (hb : Bytes b) {i : Int} (hi : Ok b i) (h : Int) : EvP (fun k => spec_l01Spoil.f k b i h) (fun r => r.1.length ≤ 1000 ∧ Ok b r.2.1) := by
  unfold spec_l01Spoil.f
  exact evp_bind (Draw_evp hb hi h) fun r hr => evp_bind (Bad_evp hb hr.2 _ _ ⟨hr.1.1, by have := hr.1.2; omega⟩) fun q hq => evp_now hq
theorem evp_near {β : Type} {b : List Int} (hb : Bytes b) {i : Int} (hi : Ok b i) {h : Int} {a : Int} {f : Nat → Int × Int × Int → Option β} {P : β → Prop}
    (k : ∀ v i2 h2, Ok b i2 → (v = -1 ∨ v = wrap64 (a + 1) ∨ v = 1099511627776 ∨ v = -4611686018427387904 ∨ (0 ≤ v ∧ (1 ≤ wrap64 (a + 1) → v < wrap64 (a + 1)) ∧ (wrap64 (a + 1) < 1 → v = 0))) → EvP (fun m => f m (v, i2, h2)) P) : EvP (fun m => (spec_l01Near.f b i h a).bind (f m)) P := by
  obtain ⟨v, i2, h2, e, h1, h3, h4, h5⟩ := next_f hb hi h 14
  by_cases c : v = 0
  · obtain ⟨u, i3, h6, e2, q1, q3, q4, q5⟩ := next_f hb h5 h2 (([(-1), wrap64 (a + 1), 1099511627776, (-4611686018427387904)] : List Int).length : Int)
    have hu : u < 4 := q3 (by show (1 : Int) ≤ 4; decide)
    refine evp_fix (a := (rd [(-1), wrap64 (a + 1), 1099511627776, (-4611686018427387904)] u, i3, h6)) ?_ (k _ i3 h6 q5 ?_)
    · unfold spec_l01Near.f
      rw [e, Option.bind_some, if_pos c]
      unfold spec_l01Pick.f
      rw [e2, Option.bind_some, if_pos q1, if_pos (show u < (([(-1), wrap64 (a + 1), 1099511627776, (-4611686018427387904)] : List Int).length : Int) from hu), Option.bind_some]
    · have hm := rd_mem (l := [(-1), wrap64 (a + 1), 1099511627776, (-4611686018427387904)]) q1 (show u < (([(-1), wrap64 (a + 1), 1099511627776, (-4611686018427387904)] : List Int).length : Int) from hu)
      simp only [List.mem_cons, List.mem_nil_iff, or_false] at hm
      rcases hm with h | h | h | h
      · exact .inl h
      · exact .inr (.inl h)
      · exact .inr (.inr (.inl h))
      · exact .inr (.inr (.inr (.inl h)))
  · obtain ⟨u, i3, h6, e2, q1, q3, q4, q5⟩ := next_f hb h5 h2 (wrap64 (a + 1))
    refine evp_fix (a := (u, i3, h6)) ?_ (k _ i3 h6 q5 (.inr (.inr (.inr (.inr ⟨q1, q3, q4⟩)))))
    unfold spec_l01Near.f
    rw [e, Option.bind_some, if_neg c, e2, Option.bind_some]
end Go.Proofs.Ytgbapmmfhdphmaa.Pure
end
section
namespace Go.Proofs.Ytgbapmmfhdphmaa.Pure
open Go.RowKit Go.Proofs.Ytgbapmmfhdphmaa.P Go.Proofs.YtgbapmmfhdphmaaW.PrintWords Go.Proofs.YtgbapmmfhdphmaaW.PrintLast Go.Proofs.YtgbapmmfhdphmaaW.PrintMore
set_option linter.unusedVariables false
set_option linter.unusedSimpArgs false
theorem L03Draw_l0 {b : List Int} (hb : Bytes b) (x4 x5 : Int) (h4 : 1 ≤ x4 ∧ x4 ≤ 5) (h5 : 2 ≤ x5 ∧ x5 ≤ 3) : ∀ (d : Nat) (l : List Int) (i h : Int), l.length + d ≤ 1000 → Ok b i →
    EvP (fun k => spec_l03Draw.l0 k x4 x5 (d : Int) b i h l) (fun r => r.1.length = l.length + d ∧ Ok b r.2.1) := by
  intro d
  induction d with
  | zero =>
    intro l i h _ hi
    exact evp_step (fun k => by rw [spec_l03Draw.l0]) (evp_neg (by omega) (evp_now ⟨rfl, hi⟩))
  | succ d ih =>
    intro l i h hl hi
    have fin : ∀ z i h, Ok b i → EvP (fun k => spec_l03Draw.l0 k x4 x5 (wrap64 (((d + 1 : Nat) : Int) - 1)) b i h (l ++ [z])) (fun r => r.1.length = l.length + (d + 1) ∧ Ok b r.2.1) := fun z i h hi => by
      rw [wrap_id (x := ((d + 1 : Nat) : Int) - 1) (by omega) (by omega), show ((d + 1 : Nat) : Int) - 1 = (d : Int) by omega]
      refine evp_mono (ih (l ++ [z]) i h (by rw [List.length_append, List.length_singleton]; omega) hi) ?_
      rintro r ⟨r1, r2⟩
      rw [List.length_append, List.length_singleton] at r1
      exact ⟨by omega, r2⟩
    have inner : ∀ (n : Nat) (z i h : Int), n ≤ 100 → Ok b i → EvP (fun k => spec_l03Draw.l1 k x4 x5 ((d + 1 : Nat) : Int) z (n : Int) b i h l) (fun r => r.1.length = l.length + (d + 1) ∧ Ok b r.2.1) := by
      intro n
      induction n with
      | zero =>
        intro z i h _ hi
        exact evp_step (fun k => by rw [spec_l03Draw.l1]) (evp_neg (by omega) (evp_pos (by omega) (fin z i h hi)))
      | succ n ihn =>
        intro z i h hn hi
        refine evp_step (fun k => by rw [spec_l03Draw.l1]) (evp_pos (by omega) (evp_ite (fun _ => ?_) (fun _ => evp_pos (by omega) (fin z i h hi))))
        rw [wrap_id (x := ((n + 1 : Nat) : Int) - 1) (by omega) (by omega), show ((n + 1 : Nat) : Int) - 1 = (n : Int) by omega]
        exact ihn _ i h (by omega) hi
    refine evp_step (fun k => by rw [spec_l03Draw.l0]) ?_
    refine evp_pos (by omega) (evp_next hb hi fun v i2 h2 v0 v1 v2 hi2 => ?_)
    have hv := v1 (by omega)
    obtain ⟨m, rfl⟩ : ∃ m : Nat, v = m := ⟨v.toNat, by omega⟩
    exact inner m x4 i2 h2 (by omega) hi2
theorem L03Draw_evp {b : List Int} (hb : Bytes b) {i : Int} (hi : Ok b i) (h : Int) : EvP (fun k => spec_l03Draw.f k b i h) (fun r => (1 ≤ r.1.length ∧ r.1.length ≤ 8) ∧ Ok b r.2.1) := by
  unfold spec_l03Draw.f
  refine evp_next hb hi fun v i2 h2 v0 v1 v2 hi2 => evp_ite (fun _ => evp_bind (Draw_evp hb hi2 h2) fun r hr => evp_now hr) (fun _ => ?_)
  refine evp_pick hb hi2 (by decide) fun u i3 h3 hu hi3 => evp_pick hb hi3 (by decide) fun t i4 h4 ht hi4 => evp_next hb hi4 fun w i5 h5 w0 w1 w2 hi5 => ?_
  have hu2 : 1 ≤ u ∧ u ≤ 5 := by simp at hu; omega
  have ht2 : 2 ≤ t ∧ t ≤ 3 := by simp at ht; omega
  have hw := w1 (by omega)
  obtain ⟨m, rfl⟩ : ∃ m : Nat, w = m := ⟨w.toNat, by omega⟩
  show EvP (fun k => spec_l03Draw.l0 k u t (wrap64 (1 + (m : Int))) b i5 h5 []) _
  rw [wrap_id (by omega) (by omega), show 1 + (m : Int) = ((m + 1 : Nat) : Int) by omega]
  refine evp_mono (L03Draw_l0 hb u t hu2 ht2 (m + 1) [] i5 h5 (by simp; omega) hi5) ?_
  rintro r ⟨r1, r2⟩
  simp only [List.length_nil] at r1
  exact ⟨by omega, r2⟩
theorem DrawHarmonicTurns_evp {b : List Int} (hb : Bytes b) : EvP (fun k => spec_DrawHarmonicTurns.f k b) (fun r => r.length ≤ 1000) := by
  unfold spec_DrawHarmonicTurns.f
  exact evp_from hb fun h => evp_bind (L03Draw_evp hb (ok_start b) h) fun r hr => evp_bind (Bad_evp hb hr.2 _ _ ⟨hr.1.1, by have := hr.1.2; omega⟩) fun q hq => evp_now hq.1
theorem DrawLessenGaps_evp {b : List Int} (hb : Bytes b) : EvP (fun k => spec_DrawLessenGaps.f k b) (fun r => r.1.length ≤ 1000) := by
  unfold spec_DrawLessenGaps.f
  exact evp_from hb fun h => evp_bind (Spoil_evp hb (ok_start b) h) fun r hr => evp_pick hb hr.2 (by decide) fun u i3 h3 hu hi3 => evp_near hb hi3 fun v i4 h4 hi4 _ => evp_now hr.1
theorem L03Wide_evp {b : List Int} (hb : Bytes b) {i : Int} (hi : Ok b i) (h : Int) : EvP (fun k => spec_l03Wide.f k b i h) (fun r => (1 ≤ r.1.length ∧ r.1.length ≤ 8) ∧ Ok b r.2.1) := by
  unfold spec_l03Wide.f
  refine evp_pick hb hi (by decide) fun v i2 h2 hv hi2 => evp_next hb hi2 fun u i3 h3 u0 u1 u2 hi3 => ?_
  have hv2 : 1 ≤ v ∧ v ≤ 8 := by simp at hv; omega
  have hu := u1 (by omega)
  obtain ⟨m, rfl⟩ : ∃ m : Nat, u = m := ⟨u.toNat, by omega⟩
  show EvP (fun k => spec_l03Wide.l0 k (wrap64 (1 + (m : Int))) 0 b i3 h3 []) _
  rw [wrap_id (by omega) (by omega), show 1 + (m : Int) = ((m + 1 : Nat) : Int) by omega]
  have main : ∀ (d n : Nat) (l : List Int) (i h : Int), n + d = m + 1 → l.length = n → Ok b i → EvP (fun k => spec_l03Wide.l0 k ((m + 1 : Nat) : Int) (n : Int) b i h l) (fun r => r.1.length = m + 1 ∧ Ok b r.2.1) := by
    intro d
    induction d with
    | zero =>
      intro n l i h hn hl hi
      exact evp_step (fun k => by rw [spec_l03Wide.l0]) (evp_neg (by omega) (evp_now ⟨by show l.length = m + 1; omega, hi⟩))
    | succ d ih =>
      intro n l i h hn hl hi
      refine evp_step (fun k => by rw [spec_l03Wide.l0]) ?_
      refine evp_pos (by omega) (evp_next hb hi fun u i3 h3 u0 u1 u2 hi3 => evp_pos (by omega) ?_)
      rw [wrap_succ (n := n) (by omega)]
      exact ih (n + 1) _ i3 h3 (by omega) (by rw [List.length_append, List.length_singleton]; omega) hi3
  refine evp_mono (main (m + 1) 0 [] i3 h3 (by omega) rfl hi3) ?_
  rintro r ⟨r1, r2⟩
  exact ⟨by omega, r2⟩
theorem DrawTurnsByPowers_evp {b : List Int} (hb : Bytes b) : EvP (fun k => spec_DrawTurnsByPowers.f k b) (fun r => r.length ≤ 1000) := by
  unfold spec_DrawTurnsByPowers.f
  exact evp_from hb fun h => evp_bind (L03Wide_evp hb (ok_start b) h) fun r hr => evp_bind (Bad_evp hb hr.2 _ _ ⟨hr.1.1, by have := hr.1.2; omega⟩) fun q hq => evp_now hq.1
end Go.Proofs.Ytgbapmmfhdphmaa.Pure
end
section
namespace Go.Proofs.Ytgbapmmfhdphmaa.Pure
open Go.RowKit Go.Proofs.Ytgbapmmfhdphmaa.P Go.Proofs.YtgbapmmfhdphmaaW.PrintWords Go.Proofs.YtgbapmmfhdphmaaW.PrintLast Go.Proofs.YtgbapmmfhdphmaaW.PrintMore
set_option linter.unusedVariables false
set_option linter.unusedSimpArgs false
def harmR (G : List Int) : List Int × Int := if isTasks G = true then (if harmB G = true then (match harmT G with | some r => (r, 0) | none => ([], 4)) else ([], 5)) else ([], 1)
theorem HarmonicTurns_spec (G : List Int) (hl : G.length ≤ 1048576) : Ev (fun k => spec_HarmonicTurns.f k G) (harmR G) := by
  unfold spec_HarmonicTurns.f harmR
  refine ev_bind (l01Is_ev G hl) ?_
  cases ht : isTasks G with
  | false => exact ev_neg (by simp) (ev_now _)
  | true =>
    obtain ⟨h8, hG⟩ := (isTasks_iff G).1 ht
    rw [if_pos rfl]
    refine ev_pos rfl (ev_bind (l03Harmonic_ev G hG h8.2) ?_)
    cases hh : harmB G with
    | false => exact ev_neg (by simp) (ev_now _)
    | true =>
      rw [if_pos rfl]
      refine ev_pos rfl (ev_bind (l03Turns_ev G hG h8 hh) ?_)
      cases harmT G with
      | none => exact ev_neg (by simp) (ev_now _)
      | some r => exact ev_pos rfl (ev_now _)
theorem HarmonicTurns_impl (G : List Int) : Ev (fun k => impl_HarmonicTurns.f k G) (harmR G) := by
  unfold impl_HarmonicTurns.f harmR
  refine ev_fix (a := if isTasks G = true then 0 else 1) (by
    unfold impl_tasksCode.f
    rw [IsTasks_f, Option.bind_some]
    cases isTasks G <;> rfl) ?_
  cases ht : isTasks G with
  | false => exact ev_neg (by simp) (ev_now _)
  | true =>
    obtain ⟨h8, hG⟩ := (isTasks_iff G).1 ht
    rw [if_pos rfl, if_pos rfl]
    refine ev_pos rfl (ev_fix (isHarmonic_f G hG) ?_)
    cases hh : harmB G with
    | false => exact ev_neg (by simp) (ev_now _)
    | true =>
      have hn := harmT_none G hG h8 hh
      rw [if_pos rfl]
      refine ev_pos rfl (ev_bind (isThin_ev G hG h8 hh) ?_)
      cases hr : harmT G with
      | none => exact ev_neg (by rw [decide_eq_false (hn.1 hr)]; simp) (ev_now _)
      | some r =>
        refine ev_pos (decide_eq_true ?_) (ev_bind (harmonic_ev G hG h8 hh r hr) (ev_now _))
        by_cases c : sumG (great G).toNat G ≤ (great G).toNat
        · exact c
        · exact absurd (hn.2 c) (by rw [hr]; simp)
theorem harmR_length (G : List Int) : (harmR G).1.length ≤ 40 := by
  unfold harmR
  split
  · next ht =>
    obtain ⟨h8, hG⟩ := (isTasks_iff G).1 ht
    obtain ⟨_, g1, g2⟩ := harm_great hG h8.1
    split
    · split
      · next r hr =>
        have := gre_length G _ _ _ _ hr
        rw [List.length_replicate] at this
        show r.length ≤ 40
        omega
      · simp
    · simp
  · simp
end Go.Proofs.Ytgbapmmfhdphmaa.Pure
end
section
namespace Go.Proofs.Ytgbapmmfhdphmaa.Pure
open Go.RowKit Go.Proofs.Ytgbapmmfhdphmaa.P Go.Proofs.YtgbapmmfhdphmaaW.PrintWords Go.Proofs.YtgbapmmfhdphmaaW.PrintLast Go.Proofs.YtgbapmmfhdphmaaW.PrintMore
set_option linter.unusedVariables false
set_option linter.unusedSimpArgs false
def areHR (G : List Int) : Bool × Int := if isTasks G = true then (harmB G, 0) else (false, 1)
theorem AreHarmonic_impl (G : List Int) : impl_AreHarmonic.f G = some (areHR G) := by
  unfold impl_AreHarmonic.f areHR
  rw [tasksCode_f, Option.bind_some]
  cases ht : isTasks G with
  | false => rfl
  | true =>
    obtain ⟨h8, hG⟩ := (isTasks_iff G).1 ht
    rw [if_pos rfl, if_pos rfl, if_pos rfl, isHarmonic_f G hG]
    rfl
theorem AreHarmonic_spec (G : List Int) (hl : G.length ≤ 1048576) : Ev (fun k => spec_AreHarmonic.f k G) (areHR G) := by
  unfold spec_AreHarmonic.f areHR
  refine ev_bind (l01Is_ev G hl) ?_
  cases ht : isTasks G with
  | false => exact ev_neg (by simp) (ev_now _)
  | true =>
    obtain ⟨h8, hG⟩ := (isTasks_iff G).1 ht
    rw [if_pos rfl]
    exact ev_pos rfl (ev_bind (l03Harmonic_ev G hG h8.2) (ev_now _))
def lessR (G : List Int) (x : Int) : List Int × Int := if isTasks G = true then (if 1 ≤ x ∧ x ≤ 40 then (if x ≤ leastL G then (lesG G x, 0) else ([], 5)) else ([], 2)) else ([], 1)
theorem LessenGaps_impl (G : List Int) (x : Int) : Ev (fun k => impl_LessenGaps.f k G x) (lessR G x) := by
  unfold impl_LessenGaps.f lessR
  refine ev_fix (within_f _ _ _) (ev_fix (a := if isTasks G = true then (if 1 ≤ x ∧ x ≤ 40 then 0 else 2) else 1) ?_ ?_)
  · unfold impl_tasksCode.f
    rw [IsTasks_f, Option.bind_some]
    by_cases c : 1 ≤ x ∧ x ≤ 40
    · rw [decide_eq_true c, if_pos c]; cases isTasks G <;> rfl
    · rw [decide_eq_false c, if_neg c]; cases isTasks G <;> rfl
  cases ht : isTasks G with
  | false => exact ev_neg (by simp) (ev_now _)
  | true =>
    obtain ⟨h8, hG⟩ := (isTasks_iff G).1 ht
    rw [if_pos rfl, if_pos rfl]
    by_cases c : 1 ≤ x ∧ x ≤ 40
    · rw [if_pos c, if_pos c]
      refine ev_pos rfl (ev_bind (Min_ev G (by omega) h8.1) ?_)
      by_cases d : x ≤ leastL G
      · rw [if_pos d]
        exact ev_neg (by omega) (ev_bind (lessened_ev G hG h8.2 x c.1 ((le_leastL h8.1 x).1 d)) (ev_now _))
      · rw [if_neg d]
        exact ev_pos (by omega) (ev_now _)
    · rw [if_neg c, if_neg c]
      exact ev_neg (by simp) (ev_now _)
theorem LessenGaps_spec (G : List Int) (hl : G.length ≤ 1048576) (x : Int) : Ev (fun k => spec_LessenGaps.f k G x) (lessR G x) := by
  unfold spec_LessenGaps.f lessR
  refine ev_bind (l01Is_ev G hl) ?_
  cases ht : isTasks G with
  | false => exact ev_neg (by simp) (ev_now _)
  | true =>
    obtain ⟨h8, hG⟩ := (isTasks_iff G).1 ht
    rw [if_pos rfl]
    refine ev_pos rfl (ev_fix (l01In_f _ _ _) ?_)
    by_cases c : 1 ≤ x ∧ x ≤ 40
    · rw [if_pos c]
      refine ev_pos (decide_eq_true c) ?_
      by_cases d : x ≤ leastL G
      · rw [if_pos d]
        exact ev_bind (l03Lessened_ev G hG h8.2 x c.1 ((le_leastL h8.1 x).1 d)) (ev_pos rfl (ev_now _))
      · rw [if_neg d]
        exact ev_bind (l03Lessened_no G hG h8.2 x c.1 (fun h => d ((le_leastL h8.1 x).2 h))) (ev_neg (by simp) (ev_now _))
    · rw [if_neg c]
      exact ev_neg (by rw [decide_eq_false c]; simp) (ev_now _)
theorem dbl_max (g : Int) : ∀ (f : Nat) (n : Int), 1 ≤ n → g < n + f → g < 2 * dbl g f n := by
  intro f
  induction f with
  | zero => intro n h1 h2; simp only [dbl]; omega
  | succ f ih =>
    intro n h1 h2
    rw [dbl]
    by_cases c : 2 * n ≤ g
    · rw [if_pos c]; exact ih (2 * n) (by omega) (by omega)
    · rw [if_neg c]; omega
theorem doServe_less {G H l : List Int} (ht : isTasks G = true) (hl : isTurns l (G.length : Int) = true) (hH : ∀ i : Nat, i < G.length → 1 ≤ rd H (i : Int) ∧ rd H (i : Int) ≤ rd G (i : Int)) (h : ∀ i : Nat, i < G.length → ∃ f, Cyc l (i : Int) (rd H (i : Int)).toNat f) : doServeR G l = (true, 0) := by
  rw [doServeR, if_pos ht, if_pos hl]
  congr 1
  rw [List.all_eq_true]
  intro i hi
  have hi2 : i < G.length := by have := List.mem_range'_1.1 hi; omega
  obtain ⟨f, C⟩ := h i hi2
  have hg := hH i hi2
  rw [servesB, cyc_great C]
  exact decide_eq_true (by omega)
theorem les_rd {G : List Int} (hG : ∀ x ∈ G, 1 ≤ x ∧ x ≤ 40) {x : Int} (h1 : 1 ≤ x) (hx : ∀ g ∈ G, x ≤ g) (i : Nat) (hi : i < G.length) :
    rd (lesG G x) (i : Int) = dbl (rd G (i : Int)) 40 x ∧ (1 ≤ rd (lesG G x) (i : Int) ∧ rd (lesG G x) (i : Int) ≤ rd G (i : Int)) ∧ rd G (i : Int) < 2 * rd (lesG G x) (i : Int) ∧ Int.tmod (rd (lesG G x) (i : Int)) x = 0 := by
  have hg := hG _ (rd_mem (l := G) (i := (i : Int)) (by omega) (by omega))
  have hxg := hx _ (rd_mem (l := G) (i := (i : Int)) (by omega) (by omega))
  have e : rd (lesG G x) (i : Int) = dbl (rd G (i : Int)) 40 x := by
    rw [rd_nat (by rw [lesG_length]; exact hi), rd_nat hi]
    simp [lesG]
  obtain ⟨a, b, j, e2⟩ := dbl_ok (rd G (i : Int)) 40 x h1 hxg
  have m := dbl_max (rd G (i : Int)) 40 x h1 (by omega)
  rw [e]
  refine ⟨rfl, by omega, m, ?_⟩
  rw [e2]
  obtain ⟨n, rfl⟩ : ∃ n : Nat, x = n := ⟨x.toNat, by omega⟩
  rw [← Int.natCast_mul, tmod_nat, Nat.mul_mod_right]
  rfl
theorem les_serve {G r : List Int} (ht : isTasks G = true) {x : Int} (h1 : 1 ≤ x) (hx : x ≤ leastL G) (hr : harmT (lesG G x) = some r) : doServeR G r = (true, 0) := by
  obtain ⟨h8, hG⟩ := (isTasks_iff G).1 ht
  have hx2 := (le_leastL h8.1 x).1 hx
  have hlG := lesG_ok hG h1 hx2
  have hlen := lesG_length G x
  have ht2 : isTasks (lesG G x) = true := (isTasks_iff _).2 ⟨by rw [hlen]; exact h8, hlG⟩
  have hh := lesG_harm hG h1 hx2
  obtain ⟨_, q1, _⟩ := harm_turns ht2 hr
  rw [hlen] at q1
  refine doServe_less (H := lesG G x) ht q1 (fun i hi => (les_rd hG h1 hx2 i hi).2.1) fun i hi => ?_
  exact harmT_cyc hlG (by rw [hlen]; exact h8.1) hh hr i (by rw [hlen]; exact hi)
theorem oneT_ok {G : List Int} (h8 : 1 ≤ G.length) : ∀ (f : Nat) (x : Int), 1 ≤ x → (oneT G f x).2.2 = 0 → ∃ y, 1 ≤ y ∧ y ≤ leastL G ∧ harmT (lesG G y) = some (oneT G f x).1 := by
  intro f
  induction f with
  | zero => intro x h1 h; exact absurd h (by show ¬ (4 : Int) = 0; decide)
  | succ f ih =>
    intro x h1
    rw [oneT]
    by_cases c : x ≤ leastL G
    · rw [if_pos c]
      cases hr : harmT (lesG G x) with
      | some r => intro _; exact ⟨x, h1, c, hr⟩
      | none => exact ih (x + 1) (by omega)
    · rw [if_neg c]; intro h; exact absurd h (by decide)
theorem powR_ok {G : List Int} (h : (powR G).2 = 0) : isTasks G = true ∧ harmT (lesG G 1) = some (powR G).1 := by
  unfold powR at h ⊢
  split at h
  · next ht =>
    rw [if_pos ht]
    split at h
    · next r hr => exact ⟨ht, hr⟩
    · exact absurd h (by decide)
  · exact absurd h (by decide)
theorem oneR_ok {G : List Int} (h : (oneR G).2.2 = 0) : isTasks G = true ∧ ∃ y, 1 ≤ y ∧ y ≤ leastL G ∧ harmT (lesG G y) = some (oneR G).1 := by
  unfold oneR at h ⊢
  split at h
  · next ht =>
    obtain ⟨h8, hG⟩ := (isTasks_iff G).1 ht
    rw [if_pos ht]
    exact ⟨ht, oneT_ok h8.1 41 1 (by omega) h⟩
  · exact absurd h (by decide)
theorem one_le_leastL {G : List Int} (ht : isTasks G = true) : 1 ≤ leastL G := by
  obtain ⟨h8, hG⟩ := (isTasks_iff G).1 ht
  exact (le_leastL h8.1 1).2 fun g hg => (hG g hg).1
theorem pow_one {G : List Int} (h : (powR G).2 = 0) : (oneR G).2.2 = 0 := by
  obtain ⟨ht, hr⟩ := powR_ok h
  rw [oneR, if_pos ht, oneT, if_pos (one_le_leastL ht), hr]
theorem pow_serve {G : List Int} (h : (powR G).2 = 0) : doServeR G (powR G).1 = (true, 0) := by
  obtain ⟨ht, hr⟩ := powR_ok h
  exact les_serve ht (by omega) (one_le_leastL ht) hr
theorem one_serve {G : List Int} (h : (oneR G).2.2 = 0) : doServeR G (oneR G).1 = (true, 0) := by
  obtain ⟨ht, y, h1, h2, hr⟩ := oneR_ok h
  exact les_serve ht h1 h2 hr
theorem Harmonic_j8 (G : List Int) : Ev (fun k => laws_FnHarmonic.j8 k (powR G).1 (powR G).2 G) true := by
  refine Ev.step (fun k => by rw [laws_FnHarmonic.j8]) ?_
  by_cases c : (powR G).2 = 0
  · have E := DoServe_impl G (powR G).1
    rw [pow_serve c] at E
    exact ev_pos c (ev_bind E (ev_pos rfl (ev_pos rfl (ev_now _))))
  · exact ev_neg c (ev_now _)
theorem Harmonic_j7 (G : List Int) : Ev (fun k => laws_FnHarmonic.j7 k (powR G).1 (powR G).2 (oneR G).1 (oneR G).2.2 false G) true := by
  refine Ev.step (fun k => by rw [laws_FnHarmonic.j7]) (ev_neg (by simp) ?_)
  by_cases c : (oneR G).2.2 = 0
  · have E := DoServe_impl G (oneR G).1
    rw [one_serve c] at E
    exact ev_pos c (ev_bind E (ev_pos rfl (ev_pos rfl (Harmonic_j8 G))))
  · exact ev_neg c (Harmonic_j8 G)
theorem Harmonic_j6 {b : List Int} (hb : Bytes b) : Ev (fun k => laws_FnHarmonic.j6 k b) true := by
  refine Ev.step (fun k => by rw [laws_FnHarmonic.j6]) (evp_true ?_)
  refine evp_bind (DrawTurnsByPowers_evp hb) fun G hG => evp_of ?_ rfl
  have e1 := powR_length G
  have e2 := oneR_length G
  refine ev_bind (TurnsByPowers_impl G) (ev_bind (TurnsByPowers_spec G (by omega)) (ev_bind (TurnsByOne_impl G) (ev_bind (TurnsByOne_spec G (by omega)) (ev_pos rfl (ev_bind (likeInts_ev _ (by omega)) (ev_pos rfl (ev_pos rfl (ev_bind (likeInts_ev _ (by omega)) (ev_pos rfl (ev_pos rfl ?_))))))))))
  by_cases c : (powR G).2 = 0
  · refine ev_pos c ?_
    rw [pow_one c]
    have h := Harmonic_j7 G
    rw [pow_one c] at h
    exact h
  · exact ev_neg c (Harmonic_j7 G)
theorem Harmonic_l0 {b : List Int} (hb : Bytes b) {G : List Int} (ht : isTasks G = true) {x : Int} (h1 : 1 ≤ x) (hx : x ≤ leastL G) : ∀ d n : Nat, n + d = G.length → Ev (fun k => laws_FnHarmonic.l0 k b x (G.length : Int) (n : Int) G (lesG G x)) true := by
  obtain ⟨h8, hG⟩ := (isTasks_iff G).1 ht
  have hx2 := (le_leastL h8.1 x).1 hx
  have hlen := lesG_length G x
  intro d
  induction d with
  | zero =>
    intro n hn
    exact Ev.step (fun k => by rw [laws_FnHarmonic.l0]) (ev_neg (by omega) (Harmonic_j6 hb))
  | succ d ih =>
    intro n hn
    obtain ⟨_, q1, q2, q3⟩ := les_rd hG h1 hx2 n (by omega)
    have hg := hG _ (rd_mem (l := G) (i := (n : Int)) (by omega) (by omega))
    refine Ev.step (fun k => by rw [laws_FnHarmonic.l0]) (ev_pos (by omega) (ev_pos (by omega) (ev_pos (by omega) (ev_pos (by omega) (ev_neg (by omega) (ev_neg ?_ (ev_neg (by omega) (ev_pos q3 ?_))))))))
    · rw [wrap_id (by omega) (by omega)]; omega
    · rw [wrap_succ (n := n) (by omega)]
      exact ih (n + 1) (by omega)
end Go.Proofs.Ytgbapmmfhdphmaa.Pure
end
