/- The program's SortTasks returns what the reference's returns, for all tasks; no condition beside. -/
import Derived.Test.YtbpgfjoplbkgmaaCFnExactSortTasks6
import Derived.Test.YtbpgfjoplbkgmaaRows
section
namespace Go.Proofs.Ytbpgfjoplbkgmaa.P
open Go.RowKit Go.Proofs.YtbpgfjoplbkgmaaW.PrintWords Go.Proofs.YtbpgfjoplbkgmaaW.PrintLast Go.Proofs.YtbpgfjoplbkgmaaW.PrintMore
attribute [local go_sem] max2_int min2_int max_two min_two max_three min_three max_four min_four   -- for this text's walks alone
set_option linter.unusedVariables false
set_option linter.unusedSimpArgs false
/-- THE ONE PURE STATEMENT of laws_FnExactSortTasks. -/
def laws_FnExactSortTasks.Pure : Prop := ∀ (l0_0 : List Int), okRow (okInt .i64) l0_0 → ∃ k, laws_FnExactSortTasks.f k l0_0 = some true
theorem laws_FnExactSortTasks.walk (P : laws_FnExactSortTasks.Pure) (A0_0 : Option Addr) (c0_0 : Nat) (l0_0 : List Int) (w : World) (hr0_0 : Kd.C (Kd.int .i64) w A0_0 l0_0.length l0_0) (hc0_0 : l0_0.length ≤ c0_0) (w0_0 : okRow (okInt .i64) l0_0) :
  Calls Try.prog 6 #[.agg #[.slice A0_0 l0_0.length c0_0]] w fun e w' => e = .returned (.bool true) ∧ Below w.heap.size w w' := by
 obtain ⟨k, h⟩ := P l0_0 w0_0
 refine (laws_FnExactSortTasks.calls k A0_0 c0_0 l0_0 true w hr0_0 hc0_0 h).mono ?_
 rintro e w' ⟨rfl, hd⟩
 exact ⟨rfl, hd⟩
end Go.Proofs.Ytbpgfjoplbkgmaa.P
end
section
namespace Go.Proofs.Ytbpgfjoplbkgmaa.Pure
open Go.RowKit Go.Proofs.Ytbpgfjoplbkgmaa.P Go.Proofs.YtbpgfjoplbkgmaaW.PrintWords Go.Proofs.YtbpgfjoplbkgmaaW.PrintLast Go.Proofs.YtbpgfjoplbkgmaaW.PrintMore
set_option linter.unusedVariables false
set_option linter.unusedSimpArgs false
theorem ev_pos {α : Type} {c : Prop} [Decidable c] {A B : Nat → Option α} {r : α} (h : c) (e : Ev A r) : Ev (fun n => if c then A n else B n) r := Ev.congr (fun n => if_pos h) e
theorem ev_neg {α : Type} {c : Prop} [Decidable c] {A B : Nat → Option α} {r : α} (h : ¬ c) (e : Ev B r) : Ev (fun n => if c then A n else B n) r := Ev.congr (fun n => if_neg h) e
theorem ev_now {α : Type} (r : α) : Ev (fun _ => some r) r := Ev.now r
theorem ev_is {α : Type} {g : Option α} {r : α} (h : g = some r) : Ev (fun _ => g) r := by subst h; exact Ev.now r
theorem ev_bind {α β : Type} {g : Nat → Option α} {f : Nat → α → Option β} {a : α} {r : β} (h : Ev g a) (k : Ev (fun n => f n a) r) : Ev (fun n => (g n).bind (f n)) r := Ev.bind h k
theorem ev_fix {α β : Type} {g : Option α} {f : Nat → α → Option β} {a : α} {r : β} (h : g = some a) (k : Ev (fun n => f n a) r) : Ev (fun n => g.bind (f n)) r := by subst h; exact k
theorem ev_rounds {α : Type} {g : Nat → Option α} {r : α} (h : Ev g r) : ∃ k, g k = some r := h.rounds
theorem wrap_id {x : Int} (h1 : -9223372036854775808 ≤ x) (h2 : x ≤ 9223372036854775807) : wrap64 x = x := by unfold wrap64; omega
theorem wrap_succ {n : Nat} (h : n + 1 ≤ 9223372036854775807) : wrap64 ((n : Int) + 1) = ((n + 1 : Nat) : Int) := by rw [wrap_id (by omega) (by omega)]; omega
theorem rd_nat {l : List Int} {n : Nat} (h : n < l.length) : rd l (n : Int) = l[n] := by simp [rd, h]
end Go.Proofs.Ytbpgfjoplbkgmaa.Pure
end
section
namespace Go.Proofs.Ytbpgfjoplbkgmaa.Pure
open Go.RowKit Go.Proofs.Ytbpgfjoplbkgmaa.P Go.Proofs.YtbpgfjoplbkgmaaW.PrintWords Go.Proofs.YtbpgfjoplbkgmaaW.PrintLast Go.Proofs.YtbpgfjoplbkgmaaW.PrintMore
set_option linter.unusedVariables false
set_option linter.unusedSimpArgs false
theorem toInt64S_l0 (l : List Int) (hl : l.length ≤ 9223372036854775807) : ∀ d n : Nat, n + d = l.length → Ev (fun k => laws_toInt64S.l0 k l (l.take n ++ List.replicate d 0) (n : Int)) l := by
  intro d
  induction d with
  | zero =>
    intro n hn
    refine Ev.step (fun k => by rw [laws_toInt64S.l0]) ?_
    refine ev_neg (by omega) ?_
    rw [List.take_of_length_le (by omega), List.replicate_zero, List.append_nil]
    exact ev_now l
  | succ d ih =>
    intro n hn
    have hlt : n < l.length := by omega
    refine Ev.step (fun k => by rw [laws_toInt64S.l0]) ?_
    refine ev_pos (by omega) (ev_pos (by omega) (ev_pos ?_ ?_))
    · rw [List.length_append, List.length_take, List.length_replicate]; omega
    · rw [wrap_succ (by omega), rd_nat hlt, Int.toNat_natCast]
      have e : (l.take n ++ List.replicate (d + 1) 0).set n l[n] = l.take (n + 1) ++ List.replicate d 0 := by
        rw [List.set_append_right _ _ (by rw [List.length_take]; omega), List.length_take, Nat.min_eq_left (by omega), Nat.sub_self, List.replicate_succ, List.set_cons_zero, List.take_succ_eq_append_getElem hlt, List.append_assoc]
        rfl
      rw [e]
      exact ih (n + 1) (by omega)
/-- toInt64S hands back the list. -/
theorem toInt64S_ev (l : List Int) (hl : l.length ≤ 35184372088832) : Ev (fun k => laws_toInt64S.f k l) l := by
  unfold laws_toInt64S.f
  refine ev_pos (by omega) (ev_pos (by omega) ?_)
  rw [Int.toNat_natCast]
  exact toInt64S_l0 l (by omega) l.length 0 (by omega)
theorem eqInt64S_l0 (l : List Int) (hl : l.length ≤ 9223372036854775807) : ∀ d n : Nat, n + d = l.length → Ev (fun k => laws_eqInt64S.l0 k l l (n : Int)) true := by
  intro d
  induction d with
  | zero =>
    intro n hn
    refine Ev.step (fun k => by rw [laws_eqInt64S.l0]) ?_
    exact ev_neg (by omega) (ev_now true)
  | succ d ih =>
    intro n hn
    refine Ev.step (fun k => by rw [laws_eqInt64S.l0]) ?_
    refine ev_pos (by omega) (ev_pos (by omega) (ev_pos (by omega) (ev_pos rfl ?_)))
    rw [wrap_succ (by omega)]
    exact ih (n + 1) (by omega)
/-- eqInt64S says that a list is itself. -/
theorem eqInt64S_ev (l : List Int) (hl : l.length ≤ 9223372036854775807) : Ev (fun k => laws_eqInt64S.f k l l) true := by
  unfold laws_eqInt64S.f
  exact ev_pos rfl (eqInt64S_l0 l hl l.length 0 (by omega))
end Go.Proofs.Ytbpgfjoplbkgmaa.Pure
end
section
namespace Go.Proofs.Ytbpgfjoplbkgmaa.Pure
open Go.RowKit Go.Proofs.Ytbpgfjoplbkgmaa.P Go.Proofs.YtbpgfjoplbkgmaaW.PrintWords Go.Proofs.YtbpgfjoplbkgmaaW.PrintLast Go.Proofs.YtbpgfjoplbkgmaaW.PrintMore
set_option linter.unusedVariables false
set_option linter.unusedSimpArgs false
/-- the numbers from m on -/
def upFrom (m : Int) : Nat → List Int
  | 0 => []
  | n + 1 => m :: upFrom (m + 1) n
theorem upFrom_length (n : Nat) : ∀ m, (upFrom m n).length = n := by
  induction n with
  | zero => intro m; rfl
  | succ n ih => intro m; simp [upFrom, ih]
theorem upFrom_get (n : Nat) : ∀ (m : Int) (j : Nat), j < n → (upFrom m n)[j]? = some (m + j) := by
  induction n with
  | zero => intro m j h; omega
  | succ n ih =>
    intro m j h
    cases j with
    | zero => simp [upFrom]
    | succ j => simp only [upFrom, List.getElem?_cons_succ]; rw [ih (m + 1) j (by omega)]; congr 1; omega
theorem upFrom_succ (n : Nat) (m : Int) : upFrom m (n + 1) = upFrom m n ++ [m + n] := by
  apply List.ext_getElem?
  intro j
  rcases Nat.lt_or_ge j n with h | h
  · rw [upFrom_get _ _ _ (by omega), List.getElem?_append_left (by rw [upFrom_length]; exact h), upFrom_get _ _ _ h]
  · rw [List.getElem?_append_right (by rw [upFrom_length]; exact h), upFrom_length]
    rcases Nat.eq_or_lt_of_le h with rfl | h
    · rw [upFrom_get _ _ _ (by omega)]; simp
    · rw [List.getElem?_eq_none (by rw [upFrom_length]; omega), List.getElem?_eq_none (by simp; omega)]
theorem markInt64S_l0 (l : List Int) (m : Int) (h0 : 0 ≤ m) (hl : m + l.length ≤ 9223372036854775807) : ∀ d n : Nat, n + d = l.length → Ev (fun k => laws_markInt64S.l0 k (upFrom m n ++ l.drop n) (m + n) (n : Int)) (m + l.length, upFrom m l.length) := by
  intro d
  induction d with
  | zero =>
    intro n hn
    refine Ev.step (fun k => by rw [laws_markInt64S.l0]) ?_
    refine ev_neg (by rw [List.length_append, upFrom_length, List.length_drop]; omega) ?_
    rw [List.drop_of_length_le (by omega), List.append_nil, show n = l.length by omega]
    exact ev_now _
  | succ d ih =>
    intro n hn
    have hlt : n < l.length := by omega
    refine Ev.step (fun k => by rw [laws_markInt64S.l0]) ?_
    refine ev_pos (by rw [List.length_append, upFrom_length, List.length_drop]; omega) (ev_pos (by omega) ?_)
    rw [wrap_succ (by omega), wrap_id (x := m + n + 1) (by omega) (by omega), Int.toNat_natCast]
    have e : (upFrom m n ++ l.drop n).set n (m + n) = upFrom m (n + 1) ++ l.drop (n + 1) := by
      rw [List.set_append_right _ _ (by rw [upFrom_length]; omega), upFrom_length, Nat.sub_self, List.drop_eq_getElem_cons hlt, List.set_cons_zero, upFrom_succ, List.append_assoc]
      rfl
    rw [e, show m + (n : Int) + 1 = m + ((n + 1 : Nat) : Int) by omega]
    exact ih (n + 1) (by omega)
theorem markInt64S_ev (l : List Int) (m : Int) (h0 : 0 ≤ m) (hl : m + l.length ≤ 9223372036854775807) : Ev (fun k => laws_markInt64S.f k l m) (m + l.length, upFrom m l.length) := by
  unfold laws_markInt64S.f
  have h := markInt64S_l0 l m h0 hl l.length 0 (by omega)
  simpa [upFrom] using h
theorem heldInt64S_l0 (m : Int) (h0 : 0 ≤ m) (N : Nat) (hl : m + N ≤ 9223372036854775807) : ∀ d n : Nat, n + d = N → Ev (fun k => laws_heldInt64S.l0 k (upFrom m N) (m + n) (n : Int)) (m + N) := by
  intro d
  induction d with
  | zero =>
    intro n hn
    refine Ev.step (fun k => by rw [laws_heldInt64S.l0]) ?_
    refine ev_neg (by rw [upFrom_length]; omega) ?_
    rw [show n = N by omega]
    exact ev_now _
  | succ d ih =>
    intro n hn
    refine Ev.step (fun k => by rw [laws_heldInt64S.l0]) ?_
    refine ev_pos (by rw [upFrom_length]; omega) (ev_pos (by omega) (ev_pos ?_ ?_))
    · have h := upFrom_get N m n (by omega)
      simp [rd, h]
    · rw [wrap_succ (by omega), wrap_id (x := m + n + 1) (by omega) (by omega), show m + (n : Int) + 1 = m + ((n + 1 : Nat) : Int) by omega]
      exact ih (n + 1) (by omega)
theorem heldInt64S_ev (m : Int) (h0 : 0 ≤ m) (N : Nat) (hl : m + N ≤ 9223372036854775807) : Ev (fun k => laws_heldInt64S.f k (upFrom m N) m) (m + N) := by
  unfold laws_heldInt64S.f
  have h := heldInt64S_l0 m h0 N hl N 0 (by omega)
  simpa using h
end Go.Proofs.Ytbpgfjoplbkgmaa.Pure
end
section
namespace Go.Proofs.Ytbpgfjoplbkgmaa.Pure
open Go.RowKit Go.Proofs.Ytbpgfjoplbkgmaa.P Go.Proofs.YtbpgfjoplbkgmaaW.PrintWords Go.Proofs.YtbpgfjoplbkgmaaW.PrintLast Go.Proofs.YtbpgfjoplbkgmaaW.PrintMore
set_option linter.unusedVariables false
set_option linter.unusedSimpArgs false
theorem szInt64S_f (l : List Int) (a : Int) (hl : l.length ≤ maxLen) (ha : 0 ≤ a ∧ a ≤ 1048576) : ∃ r, laws_szInt64S.f l a = some r ∧ (r < 0 ∨ (0 ≤ r ∧ r ≤ a ∧ (l.length : Int) ≤ a)) := by
  unfold laws_szInt64S.f
  unfold maxLen at hl
  rw [wrap_id (by omega) (by omega)]
  by_cases h : a - (l.length : Int) < 0
  · exact ⟨-1, by rw [if_pos h], .inl (by omega)⟩
  · exact ⟨a - l.length, by rw [if_neg h], .inr (by omega)⟩
end Go.Proofs.Ytbpgfjoplbkgmaa.Pure
end
section
namespace Go.Proofs.Ytbpgfjoplbkgmaa.Pure
open Go.RowKit Go.Proofs.Ytbpgfjoplbkgmaa.P Go.Proofs.YtbpgfjoplbkgmaaW.PrintWords Go.Proofs.YtbpgfjoplbkgmaaW.PrintLast Go.Proofs.YtbpgfjoplbkgmaaW.PrintMore
set_option linter.unusedVariables false
set_option linter.unusedSimpArgs false
theorem szTasks_f (l : List Int) (hl : l.length ≤ maxLen) : ∃ r, laws_szTasks.f l 1048576 = some r ∧ (r < 0 ∨ (0 ≤ r ∧ l.length ≤ 1048576)) := by
  unfold laws_szTasks.f
  obtain ⟨r1, e1, h1⟩ := szInt64S_f l 1048576 hl (by omega)
  rw [e1, Option.bind_some]
  rcases h1 with h1 | h1
  · exact ⟨-1, by rw [if_pos h1], .inl (by omega)⟩
  · exact ⟨r1, by rw [if_neg (by omega)], .inr (by omega)⟩
theorem toTasks_ev (l : List Int) (hl : l.length ≤ 1048576) : Ev (fun k => laws_toTasks.f k l) l := by
  unfold laws_toTasks.f
  exact ev_bind (toInt64S_ev l (by omega)) (ev_now _)
theorem eqTasks_ev (l : List Int) (hl : l.length ≤ 1048576) : Ev (fun k => laws_eqTasks.f k l l) true := by
  unfold laws_eqTasks.f
  exact ev_bind (eqInt64S_ev l (by omega)) (ev_pos rfl (ev_now _))
end Go.Proofs.Ytbpgfjoplbkgmaa.Pure
end
section
namespace Go.Proofs.Ytbpgfjoplbkgmaa.P
open Go.RowKit Go.Proofs.YtbpgfjoplbkgmaaW.PrintWords Go.Proofs.YtbpgfjoplbkgmaaW.PrintLast Go.Proofs.YtbpgfjoplbkgmaaW.PrintMore
attribute [local go_sem] max2_int min2_int max_two min_two max_three min_three max_four min_four   -- for this text's walks alone
set_option linter.unusedVariables false
set_option linter.unusedSimpArgs false
def math_bits_Mul64.f (a0 : Int) (a1 : Int) : Option (Int × Int) := some (IntKind.u64.wrap ((IntKind.u64.wrap ((IntKind.u64.wrap ((a0 / 4294967296) * (a1 / 4294967296))) + ((IntKind.u64.wrap ((IntKind.u64.wrap ((a0 / 4294967296) * (Go.bits .and .u64 a1 4294967295))) + ((IntKind.u64.wrap ((Go.bits .and .u64 a0 4294967295) * (Go.bits .and .u64 a1 4294967295))) / 4294967296))) / 4294967296))) + ((IntKind.u64.wrap ((Go.bits .and .u64 (IntKind.u64.wrap ((IntKind.u64.wrap ((a0 / 4294967296) * (Go.bits .and .u64 a1 4294967295))) + ((IntKind.u64.wrap ((Go.bits .and .u64 a0 4294967295) * (Go.bits .and .u64 a1 4294967295))) / 4294967296))) 4294967295) + (IntKind.u64.wrap ((Go.bits .and .u64 a0 4294967295) * (a1 / 4294967296))))) / 4294967296)), IntKind.u64.wrap (a0 * a1))
end Go.Proofs.Ytbpgfjoplbkgmaa.P
end
section
namespace Go.Proofs.Ytbpgfjoplbkgmaa.P
open Go.RowKit Go.Proofs.YtbpgfjoplbkgmaaW.PrintWords Go.Proofs.YtbpgfjoplbkgmaaW.PrintLast Go.Proofs.YtbpgfjoplbkgmaaW.PrintMore
attribute [local go_sem] max2_int min2_int max_two min_two max_three min_three max_four min_four   -- for this text's walks alone
set_option linter.unusedVariables false
set_option linter.unusedSimpArgs false
def math_bits_Mul.f (a0 : Int) (a1 : Int) : Option (Int × Int) := (math_bits_Mul64.f a0 a1).bind fun bt101 => (some (bt101.1, bt101.2))
end Go.Proofs.Ytbpgfjoplbkgmaa.P
end
section
namespace Go.Proofs.Ytbpgfjoplbkgmaa.P
open Go.RowKit Go.Proofs.YtbpgfjoplbkgmaaW.PrintWords Go.Proofs.YtbpgfjoplbkgmaaW.PrintLast Go.Proofs.YtbpgfjoplbkgmaaW.PrintMore
attribute [local go_sem] max2_int min2_int max_two min_two max_three min_three max_four min_four   -- for this text's walks alone
set_option linter.unusedVariables false
set_option linter.unusedSimpArgs false
def slices_Repeat_Sint64_int64.f (l0 : List Int) (a1 : Int) : Option (List Int) := if l0.length = 1 ∧ (0 ≤ a1 ∧ a1 < 4294967296) then some (List.replicate a1.toNat (rd l0 0)) else if (1 ≤ l0.length ∧ l0.length ≤ 1024) ∧ (1 ≤ a1 ∧ a1 ≤ 1024) then some (List.replicate a1.toNat l0).flatten else none
end Go.Proofs.Ytbpgfjoplbkgmaa.P
end
section
namespace Go.Proofs.Ytbpgfjoplbkgmaa.P
open Go.RowKit Go.Proofs.YtbpgfjoplbkgmaaW.PrintWords Go.Proofs.YtbpgfjoplbkgmaaW.PrintLast Go.Proofs.YtbpgfjoplbkgmaaW.PrintMore
attribute [local go_sem] max2_int min2_int max_two min_two max_three min_three max_four min_four   -- for this text's walks alone
set_option linter.unusedVariables false
set_option linter.unusedSimpArgs false
def slices_Max_Sint64_int64.l0 : Nat → List Int → Int → Int → Option (Int)
  | 0, _, _, _ => none
  | k + 1, x0, x3, x4 => if x4 < (x0.length : Int) then (if 0 ≤ x4 then (slices_Max_Sint64_int64.l0 k x0 (mx x3 (rd x0 x4)) (wrap64 (x4 + 1))) else (none)) else (some x3)
def slices_Max_Sint64_int64.f (k : Nat) (l0 : List Int) : Option (Int) := if (l0.length : Int) < 1 then (none) else (if 0 < (l0.length : Int) then (slices_Max_Sint64_int64.l0 k l0 (rd l0 0) 1) else (none))
theorem slices_Max_Sint64_int64.mono_l : ∀ k, (∀ y0 y1 y2, LeO (slices_Max_Sint64_int64.l0 k y0 y1 y2) (slices_Max_Sint64_int64.l0 (k + 1) y0 y1 y2))
  | 0 => fun _ _ _ r h => by simp [slices_Max_Sint64_int64.l0] at h
  | k + 1 => by
    have ih0 := slices_Max_Sint64_int64.mono_l k
    · intro y0 y1 y2
      unfold slices_Max_Sint64_int64.l0
      repeat' first
      | (with_reducible exact ih0 _ _ _)
      | (with_reducible exact LeO.refl _)
      | (with_reducible exact LeO.none _)
      | (with_reducible refine LeO.ite ?_ ?_)
      | (with_reducible refine LeO.bind ?_ (fun _ => ?_))
      | exact ih0 _ _ _
      | exact LeO.none _
      | refine LeO.ite ?_ ?_
      | refine LeO.bind ?_ (fun _ => ?_)
theorem slices_Max_Sint64_int64.mono : ∀ a0 k, LeO (slices_Max_Sint64_int64.f k a0) (slices_Max_Sint64_int64.f (k + 1) a0) := by
  intro a0 k
  have ih0 := slices_Max_Sint64_int64.mono_l k
  unfold slices_Max_Sint64_int64.f
  repeat' first
      | (with_reducible exact ih0 _ _ _)
      | (with_reducible exact LeO.refl _)
      | (with_reducible exact LeO.none _)
      | (with_reducible refine LeO.ite ?_ ?_)
      | (with_reducible refine LeO.bind ?_ (fun _ => ?_))
      | exact ih0 _ _ _
      | exact LeO.none _
      | refine LeO.ite ?_ ?_
      | refine LeO.bind ?_ (fun _ => ?_)
end Go.Proofs.Ytbpgfjoplbkgmaa.P
end
section
namespace Go.Proofs.Ytbpgfjoplbkgmaa.P
open Go.RowKit Go.Proofs.YtbpgfjoplbkgmaaW.PrintWords Go.Proofs.YtbpgfjoplbkgmaaW.PrintLast Go.Proofs.YtbpgfjoplbkgmaaW.PrintMore
attribute [local go_sem] max2_int min2_int max_two min_two max_three min_three max_four min_four   -- for this text's walks alone
set_option linter.unusedVariables false
set_option linter.unusedSimpArgs false
def slices_Index_Sint64_int64.l0 : Nat → List Int → Int → Int → Int → Option (Int)
  | 0, _, _, _, _ => none
  | k + 1, x0, x1, x7, x8 => if x8 < x7 then (if 0 ≤ x8 then (if x8 < (x0.length : Int) then (if x1 = (rd x0 x8) then (some x8) else (slices_Index_Sint64_int64.l0 k x0 x1 x7 (wrap64 (x8 + 1)))) else (none)) else (none)) else (some (-1))
def slices_Index_Sint64_int64.f (k : Nat) (l0 : List Int) (a1 : Int) : Option (Int) := slices_Index_Sint64_int64.l0 k l0 a1 (l0.length : Int) 0
theorem slices_Index_Sint64_int64.mono_l : ∀ k, (∀ y0 y1 y2 y3, LeO (slices_Index_Sint64_int64.l0 k y0 y1 y2 y3) (slices_Index_Sint64_int64.l0 (k + 1) y0 y1 y2 y3))
  | 0 => fun _ _ _ _ r h => by simp [slices_Index_Sint64_int64.l0] at h
  | k + 1 => by
    have ih0 := slices_Index_Sint64_int64.mono_l k
    · intro y0 y1 y2 y3
      unfold slices_Index_Sint64_int64.l0
      repeat' first
      | (with_reducible exact ih0 _ _ _ _)
      | (with_reducible exact LeO.refl _)
      | (with_reducible exact LeO.none _)
      | (with_reducible refine LeO.ite ?_ ?_)
      | (with_reducible refine LeO.bind ?_ (fun _ => ?_))
      | exact ih0 _ _ _ _
      | exact LeO.none _
      | refine LeO.ite ?_ ?_
      | refine LeO.bind ?_ (fun _ => ?_)
theorem slices_Index_Sint64_int64.mono : ∀ a0 a1 k, LeO (slices_Index_Sint64_int64.f k a0 a1) (slices_Index_Sint64_int64.f (k + 1) a0 a1) := by
  intro a0 a1 k
  have ih0 := slices_Index_Sint64_int64.mono_l k
  unfold slices_Index_Sint64_int64.f
  repeat' first
      | (with_reducible exact ih0 _ _ _ _)
      | (with_reducible exact LeO.refl _)
      | (with_reducible exact LeO.none _)
      | (with_reducible refine LeO.ite ?_ ?_)
      | (with_reducible refine LeO.bind ?_ (fun _ => ?_))
      | exact ih0 _ _ _ _
      | exact LeO.none _
      | refine LeO.ite ?_ ?_
      | refine LeO.bind ?_ (fun _ => ?_)
end Go.Proofs.Ytbpgfjoplbkgmaa.P
end
section
namespace Go.Proofs.Ytbpgfjoplbkgmaa.P
open Go.RowKit Go.Proofs.YtbpgfjoplbkgmaaW.PrintWords Go.Proofs.YtbpgfjoplbkgmaaW.PrintLast Go.Proofs.YtbpgfjoplbkgmaaW.PrintMore
attribute [local go_sem] max2_int min2_int max_two min_two max_three min_three max_four min_four   -- for this text's walks alone
set_option linter.unusedVariables false
set_option linter.unusedSimpArgs false
mutual
def impl_Tasks_harmonic.l0 : Nat → List Int → List Int → Int → Int → List Int → Option (List Int)
  | 0, _, _, _, _, _ => none
  | k + 1, x3, x13, x14, x15, x102000 => if x15 < x14 then (if 0 ≤ x15 then (if x15 < (x13.length : Int) then ((slices_Index_Sint64_int64.f k x3 (-1)).bind fun t113 => (impl_Tasks_harmonic.l1 k x3 (rd x13 x15) t113 x13 x14 x15 x102000)) else (none)) else (none)) else (some x3)
def impl_Tasks_harmonic.l1 : Nat → List Int → Int → Int → List Int → Int → Int → List Int → Option (List Int)
  | 0, _, _, _, _, _, _, _ => none
  | k + 1, x3, x5, x6, x13, x14, x15, x102000 => if x6 < (x3.length : Int) then (if 0 ≤ x6 then (if 0 ≤ x5 then (if x5 < (x102000.length : Int) then (impl_Tasks_harmonic.l1 k (x3.set (x6 : Int).toNat x5) x5 (wrap64 (x6 + (rd x102000 x5))) x13 x14 x15 x102000) else (none)) else (none)) else (none)) else (impl_Tasks_harmonic.l0 k x3 x13 x14 (wrap64 (x15 + 1)) x102000)
end
def impl_Tasks_harmonic.f (k : Nat) (l0_0 : List Int) : Option (List Int) := (slices_Max_Sint64_int64.f k l0_0).bind fun t105 => ((slices_Repeat_Sint64_int64.f (([(-1)] : List Int)) t105).bind fun t106 => ((impl_Tasks_byGap.f k l0_0).bind fun t109 => (impl_Tasks_harmonic.l0 k t106 t109 (t109.length : Int) 0 l0_0)))
theorem impl_Tasks_harmonic.mono_l : ∀ k, (∀ y0 y1 y2 y3 y4, LeO (impl_Tasks_harmonic.l0 k y0 y1 y2 y3 y4) (impl_Tasks_harmonic.l0 (k + 1) y0 y1 y2 y3 y4)) ∧ (∀ y0 y1 y2 y3 y4 y5 y6, LeO (impl_Tasks_harmonic.l1 k y0 y1 y2 y3 y4 y5 y6) (impl_Tasks_harmonic.l1 (k + 1) y0 y1 y2 y3 y4 y5 y6))
  | 0 => ⟨fun _ _ _ _ _ r h => by simp [impl_Tasks_harmonic.l0] at h, fun _ _ _ _ _ _ _ r h => by simp [impl_Tasks_harmonic.l1] at h⟩
  | k + 1 => by
    obtain ⟨ih0, ih1⟩ := impl_Tasks_harmonic.mono_l k
    refine ⟨?_, ?_⟩
    · intro y0 y1 y2 y3 y4
      unfold impl_Tasks_harmonic.l0
      repeat' first
      | (with_reducible exact ih0 _ _ _ _ _)
      | (with_reducible exact ih1 _ _ _ _ _ _ _)
      | (with_reducible exact impl_Tasks_byGap.mono _ _)
      | (with_reducible exact slices_Index_Sint64_int64.mono _ _ _)
      | (with_reducible exact slices_Max_Sint64_int64.mono _ _)
      | (with_reducible exact LeO.refl _)
      | (with_reducible exact LeO.none _)
      | (with_reducible refine LeO.ite ?_ ?_)
      | (with_reducible refine LeO.bind ?_ (fun _ => ?_))
      | exact ih0 _ _ _ _ _
      | exact ih1 _ _ _ _ _ _ _
      | exact impl_Tasks_byGap.mono _ _
      | exact slices_Index_Sint64_int64.mono _ _ _
      | exact slices_Max_Sint64_int64.mono _ _
      | exact LeO.none _
      | refine LeO.ite ?_ ?_
      | refine LeO.bind ?_ (fun _ => ?_)
    · intro y0 y1 y2 y3 y4 y5 y6
      unfold impl_Tasks_harmonic.l1
      repeat' first
      | (with_reducible exact ih0 _ _ _ _ _)
      | (with_reducible exact ih1 _ _ _ _ _ _ _)
      | (with_reducible exact impl_Tasks_byGap.mono _ _)
      | (with_reducible exact slices_Index_Sint64_int64.mono _ _ _)
      | (with_reducible exact slices_Max_Sint64_int64.mono _ _)
      | (with_reducible exact LeO.refl _)
      | (with_reducible exact LeO.none _)
      | (with_reducible refine LeO.ite ?_ ?_)
      | (with_reducible refine LeO.bind ?_ (fun _ => ?_))
      | exact ih0 _ _ _ _ _
      | exact ih1 _ _ _ _ _ _ _
      | exact impl_Tasks_byGap.mono _ _
      | exact slices_Index_Sint64_int64.mono _ _ _
      | exact slices_Max_Sint64_int64.mono _ _
      | exact LeO.none _
      | refine LeO.ite ?_ ?_
      | refine LeO.bind ?_ (fun _ => ?_)
theorem impl_Tasks_harmonic.mono : ∀ a0 k, LeO (impl_Tasks_harmonic.f k a0) (impl_Tasks_harmonic.f (k + 1) a0) := by
  intro a0 k
  obtain ⟨ih0, ih1⟩ := impl_Tasks_harmonic.mono_l k
  unfold impl_Tasks_harmonic.f
  repeat' first
      | (with_reducible exact ih0 _ _ _ _ _)
      | (with_reducible exact ih1 _ _ _ _ _ _ _)
      | (with_reducible exact impl_Tasks_byGap.mono _ _)
      | (with_reducible exact slices_Index_Sint64_int64.mono _ _ _)
      | (with_reducible exact slices_Max_Sint64_int64.mono _ _)
      | (with_reducible exact LeO.refl _)
      | (with_reducible exact LeO.none _)
      | (with_reducible refine LeO.ite ?_ ?_)
      | (with_reducible refine LeO.bind ?_ (fun _ => ?_))
      | exact ih0 _ _ _ _ _
      | exact ih1 _ _ _ _ _ _ _
      | exact impl_Tasks_byGap.mono _ _
      | exact slices_Index_Sint64_int64.mono _ _ _
      | exact slices_Max_Sint64_int64.mono _ _
      | exact LeO.none _
      | refine LeO.ite ?_ ?_
      | refine LeO.bind ?_ (fun _ => ?_)
end Go.Proofs.Ytbpgfjoplbkgmaa.P
end
section
namespace Go.Proofs.Ytbpgfjoplbkgmaa.P
open Go.RowKit Go.Proofs.YtbpgfjoplbkgmaaW.PrintWords Go.Proofs.YtbpgfjoplbkgmaaW.PrintLast Go.Proofs.YtbpgfjoplbkgmaaW.PrintMore
attribute [local go_sem] max2_int min2_int max_two min_two max_three min_three max_four min_four   -- for this text's walks alone
set_option linter.unusedVariables false
set_option linter.unusedSimpArgs false
def impl_divisor.l0 : Nat → Int → Int → Option (Int)
  | 0, _, _ => none
  | k + 1, x0, x1 => if x1 = 0 then (some x0) else (impl_divisor.l0 k x1 (Int.tmod x0 x1))
def impl_divisor.f (k : Nat) (a0 : Int) (a1 : Int) : Option (Int) := impl_divisor.l0 k a0 a1
theorem impl_divisor.mono_l : ∀ k, (∀ y0 y1, LeO (impl_divisor.l0 k y0 y1) (impl_divisor.l0 (k + 1) y0 y1))
  | 0 => fun _ _ r h => by simp [impl_divisor.l0] at h
  | k + 1 => by
    have ih0 := impl_divisor.mono_l k
    · intro y0 y1
      unfold impl_divisor.l0
      repeat' first
      | (with_reducible exact ih0 _ _)
      | (with_reducible exact LeO.refl _)
      | (with_reducible exact LeO.none _)
      | (with_reducible refine LeO.ite ?_ ?_)
      | (with_reducible refine LeO.bind ?_ (fun _ => ?_))
      | exact ih0 _ _
      | exact LeO.none _
      | refine LeO.ite ?_ ?_
      | refine LeO.bind ?_ (fun _ => ?_)
theorem impl_divisor.mono : ∀ a0 a1 k, LeO (impl_divisor.f k a0 a1) (impl_divisor.f (k + 1) a0 a1) := by
  intro a0 a1 k
  have ih0 := impl_divisor.mono_l k
  unfold impl_divisor.f
  repeat' first
      | (with_reducible exact ih0 _ _)
      | (with_reducible exact LeO.refl _)
      | (with_reducible exact LeO.none _)
      | (with_reducible refine LeO.ite ?_ ?_)
      | (with_reducible refine LeO.bind ?_ (fun _ => ?_))
      | exact ih0 _ _
      | exact LeO.none _
      | refine LeO.ite ?_ ?_
      | refine LeO.bind ?_ (fun _ => ?_)
end Go.Proofs.Ytbpgfjoplbkgmaa.P
end
section
namespace Go.Proofs.Ytbpgfjoplbkgmaa.P
open Go.RowKit Go.Proofs.YtbpgfjoplbkgmaaW.PrintWords Go.Proofs.YtbpgfjoplbkgmaaW.PrintLast Go.Proofs.YtbpgfjoplbkgmaaW.PrintMore
attribute [local go_sem] max2_int min2_int max_two min_two max_three min_three max_four min_four   -- for this text's walks alone
set_option linter.unusedVariables false
set_option linter.unusedSimpArgs false
def impl_Tasks_multiple.l0 : Nat → Int → List Int → Int → Int → Option (Int)
  | 0, _, _, _, _ => none
  | k + 1, x3, x7, x8, x9 => if x9 < x8 then (if 0 ≤ x9 then (if x9 < (x7.length : Int) then ((impl_divisor.f k x3 (rd x7 x9)).bind fun t103 => (if t103 = 0 then (none) else (impl_Tasks_multiple.l0 k (wrap64 ((wrap64 (Int.tdiv x3 t103)) * (rd x7 x9))) x7 x8 (wrap64 (x9 + 1))))) else (none)) else (none)) else (some x3)
def impl_Tasks_multiple.f (k : Nat) (l0_0 : List Int) : Option (Int) := impl_Tasks_multiple.l0 k 1 l0_0 (l0_0.length : Int) 0
theorem impl_Tasks_multiple.mono_l : ∀ k, (∀ y0 y1 y2 y3, LeO (impl_Tasks_multiple.l0 k y0 y1 y2 y3) (impl_Tasks_multiple.l0 (k + 1) y0 y1 y2 y3))
  | 0 => fun _ _ _ _ r h => by simp [impl_Tasks_multiple.l0] at h
  | k + 1 => by
    have ih0 := impl_Tasks_multiple.mono_l k
    · intro y0 y1 y2 y3
      unfold impl_Tasks_multiple.l0
      repeat' first
      | (with_reducible exact ih0 _ _ _ _)
      | (with_reducible exact impl_divisor.mono _ _ _)
      | (with_reducible exact LeO.refl _)
      | (with_reducible exact LeO.none _)
      | (with_reducible refine LeO.ite ?_ ?_)
      | (with_reducible refine LeO.bind ?_ (fun _ => ?_))
      | exact ih0 _ _ _ _
      | exact impl_divisor.mono _ _ _
      | exact LeO.none _
      | refine LeO.ite ?_ ?_
      | refine LeO.bind ?_ (fun _ => ?_)
theorem impl_Tasks_multiple.mono : ∀ a0 k, LeO (impl_Tasks_multiple.f k a0) (impl_Tasks_multiple.f (k + 1) a0) := by
  intro a0 k
  have ih0 := impl_Tasks_multiple.mono_l k
  unfold impl_Tasks_multiple.f
  repeat' first
      | (with_reducible exact ih0 _ _ _ _)
      | (with_reducible exact impl_divisor.mono _ _ _)
      | (with_reducible exact LeO.refl _)
      | (with_reducible exact LeO.none _)
      | (with_reducible refine LeO.ite ?_ ?_)
      | (with_reducible refine LeO.bind ?_ (fun _ => ?_))
      | exact ih0 _ _ _ _
      | exact impl_divisor.mono _ _ _
      | exact LeO.none _
      | refine LeO.ite ?_ ?_
      | refine LeO.bind ?_ (fun _ => ?_)
end Go.Proofs.Ytbpgfjoplbkgmaa.P
end
section
namespace Go.Proofs.Ytbpgfjoplbkgmaa.P
open Go.RowKit Go.Proofs.YtbpgfjoplbkgmaaW.PrintWords Go.Proofs.YtbpgfjoplbkgmaaW.PrintLast Go.Proofs.YtbpgfjoplbkgmaaW.PrintMore
attribute [local go_sem] max2_int min2_int max_two min_two max_three min_three max_four min_four   -- for this text's walks alone
set_option linter.unusedVariables false
set_option linter.unusedSimpArgs false
def impl_Tasks_density.l0 : Nat → Int → Int → List Int → Int → Int → Option (Int × Int)
  | 0, _, _, _, _, _ => none
  | k + 1, x4, x5, x12, x13, x14 => if x14 < x13 then (if 0 ≤ x14 then (if x14 < (x12.length : Int) then (if (rd x12 x14) = 0 then (none) else (impl_Tasks_density.l0 k x4 (wrap64 (x5 + (wrap64 (Int.tdiv x4 (rd x12 x14))))) x12 x13 (wrap64 (x14 + 1)))) else (none)) else (none)) else ((impl_divisor.f k x5 x4).bind fun t104 => (if t104 = 0 then (none) else (some (wrap64 (Int.tdiv x5 t104), wrap64 (Int.tdiv x4 t104)))))
def impl_Tasks_density.f (k : Nat) (l0_0 : List Int) : Option (Int × Int) := (impl_Tasks_multiple.f k l0_0).bind fun t102 => (impl_Tasks_density.l0 k t102 0 l0_0 (l0_0.length : Int) 0)
theorem impl_Tasks_density.mono_l : ∀ k, (∀ y0 y1 y2 y3 y4, LeO (impl_Tasks_density.l0 k y0 y1 y2 y3 y4) (impl_Tasks_density.l0 (k + 1) y0 y1 y2 y3 y4))
  | 0 => fun _ _ _ _ _ r h => by simp [impl_Tasks_density.l0] at h
  | k + 1 => by
    have ih0 := impl_Tasks_density.mono_l k
    · intro y0 y1 y2 y3 y4
      unfold impl_Tasks_density.l0
      repeat' first
      | (with_reducible exact ih0 _ _ _ _ _)
      | (with_reducible exact impl_Tasks_multiple.mono _ _)
      | (with_reducible exact impl_divisor.mono _ _ _)
      | (with_reducible exact LeO.refl _)
      | (with_reducible exact LeO.none _)
      | (with_reducible refine LeO.ite ?_ ?_)
      | (with_reducible refine LeO.bind ?_ (fun _ => ?_))
      | exact ih0 _ _ _ _ _
      | exact impl_Tasks_multiple.mono _ _
      | exact impl_divisor.mono _ _ _
      | exact LeO.none _
      | refine LeO.ite ?_ ?_
      | refine LeO.bind ?_ (fun _ => ?_)
theorem impl_Tasks_density.mono : ∀ a0 k, LeO (impl_Tasks_density.f k a0) (impl_Tasks_density.f (k + 1) a0) := by
  intro a0 k
  have ih0 := impl_Tasks_density.mono_l k
  unfold impl_Tasks_density.f
  repeat' first
      | (with_reducible exact ih0 _ _ _ _ _)
      | (with_reducible exact impl_Tasks_multiple.mono _ _)
      | (with_reducible exact impl_divisor.mono _ _ _)
      | (with_reducible exact LeO.refl _)
      | (with_reducible exact LeO.none _)
      | (with_reducible refine LeO.ite ?_ ?_)
      | (with_reducible refine LeO.bind ?_ (fun _ => ?_))
      | exact ih0 _ _ _ _ _
      | exact impl_Tasks_multiple.mono _ _
      | exact impl_divisor.mono _ _ _
      | exact LeO.none _
      | refine LeO.ite ?_ ?_
      | refine LeO.bind ?_ (fun _ => ?_)
end Go.Proofs.Ytbpgfjoplbkgmaa.P
end
section
namespace Go.Proofs.Ytbpgfjoplbkgmaa.P
open Go.RowKit Go.Proofs.YtbpgfjoplbkgmaaW.PrintWords Go.Proofs.YtbpgfjoplbkgmaaW.PrintLast Go.Proofs.YtbpgfjoplbkgmaaW.PrintMore
attribute [local go_sem] max2_int min2_int max_two min_two max_three min_three max_four min_four   -- for this text's walks alone
set_option linter.unusedVariables false
set_option linter.unusedSimpArgs false
def impl_Tasks_isThin.f (k : Nat) (l0_0 : List Int) : Option (Bool) := (impl_Tasks_density.f k l0_0).bind fun bt102 => (some (decide (bt102.1 ≤ bt102.2)))
theorem impl_Tasks_isThin.mono : ∀ a0 k, LeO (impl_Tasks_isThin.f k a0) (impl_Tasks_isThin.f (k + 1) a0) := by
  intro a0 k
  unfold impl_Tasks_isThin.f
  repeat' first
      | (with_reducible exact impl_Tasks_density.mono _ _)
      | (with_reducible exact LeO.refl _)
      | (with_reducible exact LeO.none _)
      | (with_reducible refine LeO.ite ?_ ?_)
      | (with_reducible refine LeO.bind ?_ (fun _ => ?_))
      | exact impl_Tasks_density.mono _ _
      | exact LeO.none _
      | refine LeO.ite ?_ ?_
      | refine LeO.bind ?_ (fun _ => ?_)
end Go.Proofs.Ytbpgfjoplbkgmaa.P
end
section
namespace Go.Proofs.Ytbpgfjoplbkgmaa.P
open Go.RowKit Go.Proofs.YtbpgfjoplbkgmaaW.PrintWords Go.Proofs.YtbpgfjoplbkgmaaW.PrintLast Go.Proofs.YtbpgfjoplbkgmaaW.PrintMore
attribute [local go_sem] max2_int min2_int max_two min_two max_three min_three max_four min_four   -- for this text's walks alone
set_option linter.unusedVariables false
set_option linter.unusedSimpArgs false
mutual
def impl_Tasks_lessened.l0 : Nat → Int → List Int → Int → Int → List Int → Option (List Int)
  | 0, _, _, _, _, _ => none
  | k + 1, x1, x10, x11, x12, x104000 => if x12 < x11 then (if 0 ≤ x12 then (if x12 < (x10.length : Int) then (impl_Tasks_lessened.l1 k x1 (rd x10 x12) x1 x10 x11 x12 x104000) else (none)) else (none)) else (some x104000)
def impl_Tasks_lessened.l1 : Nat → Int → Int → Int → List Int → Int → Int → List Int → Option (List Int)
  | 0, _, _, _, _, _, _, _ => none
  | k + 1, x1, x7, x8, x10, x11, x12, x104000 => if (wrap64 (2 * x8)) ≤ x7 then (impl_Tasks_lessened.l1 k x1 x7 (wrap64 (x8 * 2)) x10 x11 x12 x104000) else (if x104000.length < 17592186044416 then (impl_Tasks_lessened.l0 k x1 x10 x11 (wrap64 (x12 + 1)) (x104000 ++ [x8])) else (none))
end
def impl_Tasks_lessened.f (k : Nat) (l0_0 : List Int) (a1 : Int) : Option (List Int) := impl_Tasks_lessened.l0 k a1 l0_0 (l0_0.length : Int) 0 ([] : List Int)
theorem impl_Tasks_lessened.mono_l : ∀ k, (∀ y0 y1 y2 y3 y4, LeO (impl_Tasks_lessened.l0 k y0 y1 y2 y3 y4) (impl_Tasks_lessened.l0 (k + 1) y0 y1 y2 y3 y4)) ∧ (∀ y0 y1 y2 y3 y4 y5 y6, LeO (impl_Tasks_lessened.l1 k y0 y1 y2 y3 y4 y5 y6) (impl_Tasks_lessened.l1 (k + 1) y0 y1 y2 y3 y4 y5 y6))
  | 0 => ⟨fun _ _ _ _ _ r h => by simp [impl_Tasks_lessened.l0] at h, fun _ _ _ _ _ _ _ r h => by simp [impl_Tasks_lessened.l1] at h⟩
  | k + 1 => by
    obtain ⟨ih0, ih1⟩ := impl_Tasks_lessened.mono_l k
    refine ⟨?_, ?_⟩
    · intro y0 y1 y2 y3 y4
      unfold impl_Tasks_lessened.l0
      repeat' first
      | (with_reducible exact ih0 _ _ _ _ _)
      | (with_reducible exact ih1 _ _ _ _ _ _ _)
      | (with_reducible exact LeO.refl _)
      | (with_reducible exact LeO.none _)
      | (with_reducible refine LeO.ite ?_ ?_)
      | (with_reducible refine LeO.bind ?_ (fun _ => ?_))
      | exact ih0 _ _ _ _ _
      | exact ih1 _ _ _ _ _ _ _
      | exact LeO.none _
      | refine LeO.ite ?_ ?_
      | refine LeO.bind ?_ (fun _ => ?_)
    · intro y0 y1 y2 y3 y4 y5 y6
      unfold impl_Tasks_lessened.l1
      repeat' first
      | (with_reducible exact ih0 _ _ _ _ _)
      | (with_reducible exact ih1 _ _ _ _ _ _ _)
      | (with_reducible exact LeO.refl _)
      | (with_reducible exact LeO.none _)
      | (with_reducible refine LeO.ite ?_ ?_)
      | (with_reducible refine LeO.bind ?_ (fun _ => ?_))
      | exact ih0 _ _ _ _ _
      | exact ih1 _ _ _ _ _ _ _
      | exact LeO.none _
      | refine LeO.ite ?_ ?_
      | refine LeO.bind ?_ (fun _ => ?_)
theorem impl_Tasks_lessened.mono : ∀ a0 a1 k, LeO (impl_Tasks_lessened.f k a0 a1) (impl_Tasks_lessened.f (k + 1) a0 a1) := by
  intro a0 a1 k
  obtain ⟨ih0, ih1⟩ := impl_Tasks_lessened.mono_l k
  unfold impl_Tasks_lessened.f
  repeat' first
      | (with_reducible exact ih0 _ _ _ _ _)
      | (with_reducible exact ih1 _ _ _ _ _ _ _)
      | (with_reducible exact LeO.refl _)
      | (with_reducible exact LeO.none _)
      | (with_reducible refine LeO.ite ?_ ?_)
      | (with_reducible refine LeO.bind ?_ (fun _ => ?_))
      | exact ih0 _ _ _ _ _
      | exact ih1 _ _ _ _ _ _ _
      | exact LeO.none _
      | refine LeO.ite ?_ ?_
      | refine LeO.bind ?_ (fun _ => ?_)
end Go.Proofs.Ytbpgfjoplbkgmaa.P
end
section
namespace Go.Proofs.Ytbpgfjoplbkgmaa.P
open Go.RowKit Go.Proofs.YtbpgfjoplbkgmaaW.PrintWords Go.Proofs.YtbpgfjoplbkgmaaW.PrintLast Go.Proofs.YtbpgfjoplbkgmaaW.PrintMore
attribute [local go_sem] max2_int min2_int max_two min_two max_three min_three max_four min_four   -- for this text's walks alone
set_option linter.unusedVariables false
set_option linter.unusedSimpArgs false
def slices_Min_Sint64_int64.l0 : Nat → List Int → Int → Int → Option (Int)
  | 0, _, _, _ => none
  | k + 1, x0, x3, x4 => if x4 < (x0.length : Int) then (if 0 ≤ x4 then (slices_Min_Sint64_int64.l0 k x0 (mn x3 (rd x0 x4)) (wrap64 (x4 + 1))) else (none)) else (some x3)
def slices_Min_Sint64_int64.f (k : Nat) (l0 : List Int) : Option (Int) := if (l0.length : Int) < 1 then (none) else (if 0 < (l0.length : Int) then (slices_Min_Sint64_int64.l0 k l0 (rd l0 0) 1) else (none))
theorem slices_Min_Sint64_int64.mono_l : ∀ k, (∀ y0 y1 y2, LeO (slices_Min_Sint64_int64.l0 k y0 y1 y2) (slices_Min_Sint64_int64.l0 (k + 1) y0 y1 y2))
  | 0 => fun _ _ _ r h => by simp [slices_Min_Sint64_int64.l0] at h
  | k + 1 => by
    have ih0 := slices_Min_Sint64_int64.mono_l k
    · intro y0 y1 y2
      unfold slices_Min_Sint64_int64.l0
      repeat' first
      | (with_reducible exact ih0 _ _ _)
      | (with_reducible exact LeO.refl _)
      | (with_reducible exact LeO.none _)
      | (with_reducible refine LeO.ite ?_ ?_)
      | (with_reducible refine LeO.bind ?_ (fun _ => ?_))
      | exact ih0 _ _ _
      | exact LeO.none _
      | refine LeO.ite ?_ ?_
      | refine LeO.bind ?_ (fun _ => ?_)
theorem slices_Min_Sint64_int64.mono : ∀ a0 k, LeO (slices_Min_Sint64_int64.f k a0) (slices_Min_Sint64_int64.f (k + 1) a0) := by
  intro a0 k
  have ih0 := slices_Min_Sint64_int64.mono_l k
  unfold slices_Min_Sint64_int64.f
  repeat' first
      | (with_reducible exact ih0 _ _ _)
      | (with_reducible exact LeO.refl _)
      | (with_reducible exact LeO.none _)
      | (with_reducible refine LeO.ite ?_ ?_)
      | (with_reducible refine LeO.bind ?_ (fun _ => ?_))
      | exact ih0 _ _ _
      | exact LeO.none _
      | refine LeO.ite ?_ ?_
      | refine LeO.bind ?_ (fun _ => ?_)
end Go.Proofs.Ytbpgfjoplbkgmaa.P
end
section
namespace Go.Proofs.Ytbpgfjoplbkgmaa.P
open Go.RowKit Go.Proofs.YtbpgfjoplbkgmaaW.PrintWords Go.Proofs.YtbpgfjoplbkgmaaW.PrintLast Go.Proofs.YtbpgfjoplbkgmaaW.PrintMore
attribute [local go_sem] max2_int min2_int max_two min_two max_three min_three max_four min_four   -- for this text's walks alone
set_option linter.unusedVariables false
set_option linter.unusedSimpArgs false
def impl_TurnsByOne.l0 : Nat → Int → List Int → Option (List Int × Int × Int)
  | 0, _, _ => none
  | k + 1, x6, x102000 => (slices_Min_Sint64_int64.f k x102000).bind fun t103 => (if x6 ≤ t103 then ((impl_Tasks_lessened.f k x102000 x6).bind fun t104 => ((impl_Tasks_isThin.f k t104).bind fun t108 => (if t108 = true then ((impl_Tasks_harmonic.f k t104).bind fun t109 => (some (t109, x6, 0))) else (impl_TurnsByOne.l0 k (wrap64 (x6 + 1)) x102000)))) else (some (([] : List Int), 0, 4)))
def impl_TurnsByOne.f (k : Nat) (l0_0 : List Int) : Option (List Int × Int × Int) := (impl_tasksCode.f l0_0 true).bind fun t102 => (if t102 = 0 then (impl_TurnsByOne.l0 k 1 l0_0) else (some (([] : List Int), 0, t102)))
theorem impl_TurnsByOne.mono_l : ∀ k, (∀ y0 y1, LeO (impl_TurnsByOne.l0 k y0 y1) (impl_TurnsByOne.l0 (k + 1) y0 y1))
  | 0 => fun _ _ r h => by simp [impl_TurnsByOne.l0] at h
  | k + 1 => by
    have ih0 := impl_TurnsByOne.mono_l k
    · intro y0 y1
      unfold impl_TurnsByOne.l0
      repeat' first
      | (with_reducible exact ih0 _ _)
      | (with_reducible exact impl_Tasks_harmonic.mono _ _)
      | (with_reducible exact impl_Tasks_isThin.mono _ _)
      | (with_reducible exact impl_Tasks_lessened.mono _ _ _)
      | (with_reducible exact slices_Min_Sint64_int64.mono _ _)
      | (with_reducible exact LeO.refl _)
      | (with_reducible exact LeO.none _)
      | (with_reducible refine LeO.ite ?_ ?_)
      | (with_reducible refine LeO.bind ?_ (fun _ => ?_))
      | exact ih0 _ _
      | exact impl_Tasks_harmonic.mono _ _
      | exact impl_Tasks_isThin.mono _ _
      | exact impl_Tasks_lessened.mono _ _ _
      | exact slices_Min_Sint64_int64.mono _ _
      | exact LeO.none _
      | refine LeO.ite ?_ ?_
      | refine LeO.bind ?_ (fun _ => ?_)
theorem impl_TurnsByOne.mono : ∀ a0 k, LeO (impl_TurnsByOne.f k a0) (impl_TurnsByOne.f (k + 1) a0) := by
  intro a0 k
  have ih0 := impl_TurnsByOne.mono_l k
  unfold impl_TurnsByOne.f
  repeat' first
      | (with_reducible exact ih0 _ _)
      | (with_reducible exact impl_Tasks_harmonic.mono _ _)
      | (with_reducible exact impl_Tasks_isThin.mono _ _)
      | (with_reducible exact impl_Tasks_lessened.mono _ _ _)
      | (with_reducible exact slices_Min_Sint64_int64.mono _ _)
      | (with_reducible exact LeO.refl _)
      | (with_reducible exact LeO.none _)
      | (with_reducible refine LeO.ite ?_ ?_)
      | (with_reducible refine LeO.bind ?_ (fun _ => ?_))
      | exact ih0 _ _
      | exact impl_Tasks_harmonic.mono _ _
      | exact impl_Tasks_isThin.mono _ _
      | exact impl_Tasks_lessened.mono _ _ _
      | exact slices_Min_Sint64_int64.mono _ _
      | exact LeO.none _
      | refine LeO.ite ?_ ?_
      | refine LeO.bind ?_ (fun _ => ?_)
end Go.Proofs.Ytbpgfjoplbkgmaa.P
end
section
namespace Go.Proofs.Ytbpgfjoplbkgmaa.P
open Go.RowKit Go.Proofs.YtbpgfjoplbkgmaaW.PrintWords Go.Proofs.YtbpgfjoplbkgmaaW.PrintLast Go.Proofs.YtbpgfjoplbkgmaaW.PrintMore
attribute [local go_sem] max2_int min2_int max_two min_two max_three min_three max_four min_four   -- for this text's walks alone
set_option linter.unusedVariables false
set_option linter.unusedSimpArgs false
def impl_TurnsByPowers.f (k : Nat) (l0_0 : List Int) : Option (List Int × Int) := (impl_tasksCode.f l0_0 true).bind fun t102 => (if t102 = 0 then ((impl_Tasks_lessened.f k l0_0 1).bind fun t103 => ((impl_Tasks_isThin.f k t103).bind fun t107 => (if t107 = true then ((impl_Tasks_harmonic.f k t103).bind fun t108 => (some (t108, 0))) else (some (([] : List Int), 4))))) else (some (([] : List Int), t102)))
theorem impl_TurnsByPowers.mono : ∀ a0 k, LeO (impl_TurnsByPowers.f k a0) (impl_TurnsByPowers.f (k + 1) a0) := by
  intro a0 k
  unfold impl_TurnsByPowers.f
  repeat' first
      | (with_reducible exact impl_Tasks_harmonic.mono _ _)
      | (with_reducible exact impl_Tasks_isThin.mono _ _)
      | (with_reducible exact impl_Tasks_lessened.mono _ _ _)
      | (with_reducible exact LeO.refl _)
      | (with_reducible exact LeO.none _)
      | (with_reducible refine LeO.ite ?_ ?_)
      | (with_reducible refine LeO.bind ?_ (fun _ => ?_))
      | exact impl_Tasks_harmonic.mono _ _
      | exact impl_Tasks_isThin.mono _ _
      | exact impl_Tasks_lessened.mono _ _ _
      | exact LeO.none _
      | refine LeO.ite ?_ ?_
      | refine LeO.bind ?_ (fun _ => ?_)
end Go.Proofs.Ytbpgfjoplbkgmaa.P
end
section
namespace Go.Proofs.Ytbpgfjoplbkgmaa.P
open Go.RowKit Go.Proofs.YtbpgfjoplbkgmaaW.PrintWords Go.Proofs.YtbpgfjoplbkgmaaW.PrintLast Go.Proofs.YtbpgfjoplbkgmaaW.PrintMore
attribute [local go_sem] max2_int min2_int max_two min_two max_three min_three max_four min_four   -- for this text's walks alone
set_option linter.unusedVariables false
set_option linter.unusedSimpArgs false
mutual
def spec_l03Lessened.l0 : Nat → Int → Int → List Int → List Int → Option (List Int × Bool)
  | 0, _, _, _, _ => none
  | k + 1, x1, x7, x102000, x107000 => if x7 < (x102000.length : Int) then (if 0 ≤ x7 then (if (rd x102000 x7) < x1 then (some (([] : List Int), false)) else (spec_l03Lessened.l1 k x1 x7 x1 x102000 x107000)) else (none)) else (some (x107000, true))
def spec_l03Lessened.l1 : Nat → Int → Int → Int → List Int → List Int → Option (List Int × Bool)
  | 0, _, _, _, _, _ => none
  | k + 1, x1, x7, x8, x102000, x107000 => if 0 ≤ x7 then (if x7 < (x102000.length : Int) then (if (wrap64 (2 * x8)) ≤ (rd x102000 x7) then (spec_l03Lessened.l1 k x1 x7 (wrap64 (2 * x8)) x102000 x107000) else (if x107000.length < 17592186044416 then (spec_l03Lessened.l0 k x1 (wrap64 (x7 + 1)) x102000 (x107000 ++ [x8])) else (none))) else (none)) else (none)
end
def spec_l03Lessened.f (k : Nat) (l0_0 : List Int) (a1 : Int) : Option (List Int × Bool) := spec_l03Lessened.l0 k a1 0 l0_0 (([] : List Int))
theorem spec_l03Lessened.mono_l : ∀ k, (∀ y0 y1 y2 y3, LeO (spec_l03Lessened.l0 k y0 y1 y2 y3) (spec_l03Lessened.l0 (k + 1) y0 y1 y2 y3)) ∧ (∀ y0 y1 y2 y3 y4, LeO (spec_l03Lessened.l1 k y0 y1 y2 y3 y4) (spec_l03Lessened.l1 (k + 1) y0 y1 y2 y3 y4))
  | 0 => ⟨fun _ _ _ _ r h => by simp [spec_l03Lessened.l0] at h, fun _ _ _ _ _ r h => by simp [spec_l03Lessened.l1] at h⟩
  | k + 1 => by
    obtain ⟨ih0, ih1⟩ := spec_l03Lessened.mono_l k
    refine ⟨?_, ?_⟩
    · intro y0 y1 y2 y3
      unfold spec_l03Lessened.l0
      repeat' first
      | (with_reducible exact ih0 _ _ _ _)
      | (with_reducible exact ih1 _ _ _ _ _)
      | (with_reducible exact LeO.refl _)
      | (with_reducible exact LeO.none _)
      | (with_reducible refine LeO.ite ?_ ?_)
      | (with_reducible refine LeO.bind ?_ (fun _ => ?_))
      | exact ih0 _ _ _ _
      | exact ih1 _ _ _ _ _
      | exact LeO.none _
      | refine LeO.ite ?_ ?_
      | refine LeO.bind ?_ (fun _ => ?_)
    · intro y0 y1 y2 y3 y4
      unfold spec_l03Lessened.l1
      repeat' first
      | (with_reducible exact ih0 _ _ _ _)
      | (with_reducible exact ih1 _ _ _ _ _)
      | (with_reducible exact LeO.refl _)
      | (with_reducible exact LeO.none _)
      | (with_reducible refine LeO.ite ?_ ?_)
      | (with_reducible refine LeO.bind ?_ (fun _ => ?_))
      | exact ih0 _ _ _ _
      | exact ih1 _ _ _ _ _
      | exact LeO.none _
      | refine LeO.ite ?_ ?_
      | refine LeO.bind ?_ (fun _ => ?_)
theorem spec_l03Lessened.mono : ∀ a0 a1 k, LeO (spec_l03Lessened.f k a0 a1) (spec_l03Lessened.f (k + 1) a0 a1) := by
  intro a0 a1 k
  obtain ⟨ih0, ih1⟩ := spec_l03Lessened.mono_l k
  unfold spec_l03Lessened.f
  repeat' first
      | (with_reducible exact ih0 _ _ _ _)
      | (with_reducible exact ih1 _ _ _ _ _)
      | (with_reducible exact LeO.refl _)
      | (with_reducible exact LeO.none _)
      | (with_reducible refine LeO.ite ?_ ?_)
      | (with_reducible refine LeO.bind ?_ (fun _ => ?_))
      | exact ih0 _ _ _ _
      | exact ih1 _ _ _ _ _
      | exact LeO.none _
      | refine LeO.ite ?_ ?_
      | refine LeO.bind ?_ (fun _ => ?_)
end Go.Proofs.Ytbpgfjoplbkgmaa.P
end
section
namespace Go.Proofs.Ytbpgfjoplbkgmaa.P
open Go.RowKit Go.Proofs.YtbpgfjoplbkgmaaW.PrintWords Go.Proofs.YtbpgfjoplbkgmaaW.PrintLast Go.Proofs.YtbpgfjoplbkgmaaW.PrintMore
attribute [local go_sem] max2_int min2_int max_two min_two max_three min_three max_four min_four   -- for this text's walks alone
set_option linter.unusedVariables false
set_option linter.unusedSimpArgs false
mutual
def spec_l03Turns.l0 : Nat → List Int → List Int → Int → List Int → Option (List Int × Bool)
  | 0, _, _, _, _ => none
  | k + 1, x5, x6, x7, x109000 => if 0 ≤ (wrap64 ((x5.length : Int) - 1)) then (if (wrap64 ((x5.length : Int) - 1)) < (x109000.length : Int) then (if x7 < (rd x109000 (wrap64 ((x5.length : Int) - 1))) then (if x6.length < 17592186044416 then (spec_l03Turns.l0 k x5 (x6 ++ [(-1)]) (wrap64 (x7 + 1)) x109000) else (none)) else (spec_l03Turns.l1 k x5 x6 0 x109000)) else (none)) else (none)
def spec_l03Turns.l1 : Nat → List Int → List Int → Int → List Int → Option (List Int × Bool)
  | 0, _, _, _, _ => none
  | k + 1, x5, x6, x8, x109000 => if x8 < (x5.length : Int) then (spec_l03Turns.l2 k x5 x6 x8 0 x109000) else (some (x6, true))
def spec_l03Turns.j3 : Nat → List Int → List Int → Int → Int → List Int → Option (List Int × Bool)
  | 0, _, _, _, _, _ => none
  | k + 1, x5, x6, x8, x9, x109000 => if x9 = (x6.length : Int) then (some (([] : List Int), false)) else (spec_l03Turns.l3 k x5 x6 x8 x9 x109000)
def spec_l03Turns.l3 : Nat → List Int → List Int → Int → Int → List Int → Option (List Int × Bool)
  | 0, _, _, _, _, _ => none
  | k + 1, x5, x6, x8, x9, x109000 => if x9 < (x6.length : Int) then (if 0 ≤ x8 then (if x8 < (x5.length : Int) then (if 0 ≤ x9 then (if x8 < (x109000.length : Int) then (spec_l03Turns.l3 k x5 (x6.set (x9 : Int).toNat (rd x5 x8)) x8 (wrap64 (x9 + (rd x109000 x8))) x109000) else (none)) else (none)) else (none)) else (none)) else (spec_l03Turns.l1 k x5 x6 (wrap64 (x8 + 1)) x109000)
def spec_l03Turns.l2 : Nat → List Int → List Int → Int → Int → List Int → Option (List Int × Bool)
  | 0, _, _, _, _, _ => none
  | k + 1, x5, x6, x8, x9, x109000 => if x9 < (x6.length : Int) then (if 0 ≤ x9 then (if (rd x6 x9) ≥ 0 then (spec_l03Turns.l2 k x5 x6 x8 (wrap64 (x9 + 1)) x109000) else (spec_l03Turns.j3 k x5 x6 x8 x9 x109000)) else (none)) else (spec_l03Turns.j3 k x5 x6 x8 x9 x109000)
end
def spec_l03Turns.f (k : Nat) (l0_0 : List Int) : Option (List Int × Bool) := (spec_l01Sorted.f k l0_0).bind fun bt102 => (spec_l03Turns.l0 k bt102.2 (([] : List Int)) 0 bt102.1)
theorem spec_l03Turns.mono_l : ∀ k, (∀ y0 y1 y2 y3, LeO (spec_l03Turns.l0 k y0 y1 y2 y3) (spec_l03Turns.l0 (k + 1) y0 y1 y2 y3)) ∧ (∀ y0 y1 y2 y3, LeO (spec_l03Turns.l1 k y0 y1 y2 y3) (spec_l03Turns.l1 (k + 1) y0 y1 y2 y3)) ∧ (∀ y0 y1 y2 y3 y4, LeO (spec_l03Turns.j3 k y0 y1 y2 y3 y4) (spec_l03Turns.j3 (k + 1) y0 y1 y2 y3 y4)) ∧ (∀ y0 y1 y2 y3 y4, LeO (spec_l03Turns.l3 k y0 y1 y2 y3 y4) (spec_l03Turns.l3 (k + 1) y0 y1 y2 y3 y4)) ∧ (∀ y0 y1 y2 y3 y4, LeO (spec_l03Turns.l2 k y0 y1 y2 y3 y4) (spec_l03Turns.l2 (k + 1) y0 y1 y2 y3 y4))
  | 0 => ⟨fun _ _ _ _ r h => by simp [spec_l03Turns.l0] at h, fun _ _ _ _ r h => by simp [spec_l03Turns.l1] at h, fun _ _ _ _ _ r h => by simp [spec_l03Turns.j3] at h, fun _ _ _ _ _ r h => by simp [spec_l03Turns.l3] at h, fun _ _ _ _ _ r h => by simp [spec_l03Turns.l2] at h⟩
  | k + 1 => by
    obtain ⟨ih0, ih1, ih2, ih3, ih4⟩ := spec_l03Turns.mono_l k
    refine ⟨?_, ?_, ?_, ?_, ?_⟩
    · intro y0 y1 y2 y3
      unfold spec_l03Turns.l0
      repeat' first
      | (with_reducible exact ih0 _ _ _ _)
      | (with_reducible exact ih1 _ _ _ _)
      | (with_reducible exact ih2 _ _ _ _ _)
      | (with_reducible exact ih3 _ _ _ _ _)
      | (with_reducible exact ih4 _ _ _ _ _)
      | (with_reducible exact spec_l01Sorted.mono _ _)
      | (with_reducible exact LeO.refl _)
      | (with_reducible exact LeO.none _)
      | (with_reducible refine LeO.ite ?_ ?_)
      | (with_reducible refine LeO.bind ?_ (fun _ => ?_))
      | exact ih0 _ _ _ _
      | exact ih1 _ _ _ _
      | exact ih2 _ _ _ _ _
      | exact ih3 _ _ _ _ _
      | exact ih4 _ _ _ _ _
      | exact spec_l01Sorted.mono _ _
      | exact LeO.none _
      | refine LeO.ite ?_ ?_
      | refine LeO.bind ?_ (fun _ => ?_)
    · intro y0 y1 y2 y3
      unfold spec_l03Turns.l1
      repeat' first
      | (with_reducible exact ih0 _ _ _ _)
      | (with_reducible exact ih1 _ _ _ _)
      | (with_reducible exact ih2 _ _ _ _ _)
      | (with_reducible exact ih3 _ _ _ _ _)
      | (with_reducible exact ih4 _ _ _ _ _)
      | (with_reducible exact spec_l01Sorted.mono _ _)
      | (with_reducible exact LeO.refl _)
      | (with_reducible exact LeO.none _)
      | (with_reducible refine LeO.ite ?_ ?_)
      | (with_reducible refine LeO.bind ?_ (fun _ => ?_))
      | exact ih0 _ _ _ _
      | exact ih1 _ _ _ _
      | exact ih2 _ _ _ _ _
      | exact ih3 _ _ _ _ _
      | exact ih4 _ _ _ _ _
      | exact spec_l01Sorted.mono _ _
      | exact LeO.none _
      | refine LeO.ite ?_ ?_
      | refine LeO.bind ?_ (fun _ => ?_)
    · intro y0 y1 y2 y3 y4
      unfold spec_l03Turns.j3
      repeat' first
      | (with_reducible exact ih0 _ _ _ _)
      | (with_reducible exact ih1 _ _ _ _)
      | (with_reducible exact ih2 _ _ _ _ _)
      | (with_reducible exact ih3 _ _ _ _ _)
      | (with_reducible exact ih4 _ _ _ _ _)
      | (with_reducible exact spec_l01Sorted.mono _ _)
      | (with_reducible exact LeO.refl _)
      | (with_reducible exact LeO.none _)
      | (with_reducible refine LeO.ite ?_ ?_)
      | (with_reducible refine LeO.bind ?_ (fun _ => ?_))
      | exact ih0 _ _ _ _
      | exact ih1 _ _ _ _
      | exact ih2 _ _ _ _ _
      | exact ih3 _ _ _ _ _
      | exact ih4 _ _ _ _ _
      | exact spec_l01Sorted.mono _ _
      | exact LeO.none _
      | refine LeO.ite ?_ ?_
      | refine LeO.bind ?_ (fun _ => ?_)
    · intro y0 y1 y2 y3 y4
      unfold spec_l03Turns.l3
      repeat' first
      | (with_reducible exact ih0 _ _ _ _)
      | (with_reducible exact ih1 _ _ _ _)
      | (with_reducible exact ih2 _ _ _ _ _)
      | (with_reducible exact ih3 _ _ _ _ _)
      | (with_reducible exact ih4 _ _ _ _ _)
      | (with_reducible exact spec_l01Sorted.mono _ _)
      | (with_reducible exact LeO.refl _)
      | (with_reducible exact LeO.none _)
      | (with_reducible refine LeO.ite ?_ ?_)
      | (with_reducible refine LeO.bind ?_ (fun _ => ?_))
      | exact ih0 _ _ _ _
      | exact ih1 _ _ _ _
      | exact ih2 _ _ _ _ _
      | exact ih3 _ _ _ _ _
      | exact ih4 _ _ _ _ _
      | exact spec_l01Sorted.mono _ _
      | exact LeO.none _
      | refine LeO.ite ?_ ?_
      | refine LeO.bind ?_ (fun _ => ?_)
    · intro y0 y1 y2 y3 y4
      unfold spec_l03Turns.l2
      repeat' first
      | (with_reducible exact ih0 _ _ _ _)
      | (with_reducible exact ih1 _ _ _ _)
      | (with_reducible exact ih2 _ _ _ _ _)
      | (with_reducible exact ih3 _ _ _ _ _)
      | (with_reducible exact ih4 _ _ _ _ _)
      | (with_reducible exact spec_l01Sorted.mono _ _)
      | (with_reducible exact LeO.refl _)
      | (with_reducible exact LeO.none _)
      | (with_reducible refine LeO.ite ?_ ?_)
      | (with_reducible refine LeO.bind ?_ (fun _ => ?_))
      | exact ih0 _ _ _ _
      | exact ih1 _ _ _ _
      | exact ih2 _ _ _ _ _
      | exact ih3 _ _ _ _ _
      | exact ih4 _ _ _ _ _
      | exact spec_l01Sorted.mono _ _
      | exact LeO.none _
      | refine LeO.ite ?_ ?_
      | refine LeO.bind ?_ (fun _ => ?_)
theorem spec_l03Turns.mono : ∀ a0 k, LeO (spec_l03Turns.f k a0) (spec_l03Turns.f (k + 1) a0) := by
  intro a0 k
  obtain ⟨ih0, ih1, ih2, ih3, ih4⟩ := spec_l03Turns.mono_l k
  unfold spec_l03Turns.f
  repeat' first
      | (with_reducible exact ih0 _ _ _ _)
      | (with_reducible exact ih1 _ _ _ _)
      | (with_reducible exact ih2 _ _ _ _ _)
      | (with_reducible exact ih3 _ _ _ _ _)
      | (with_reducible exact ih4 _ _ _ _ _)
      | (with_reducible exact spec_l01Sorted.mono _ _)
      | (with_reducible exact LeO.refl _)
      | (with_reducible exact LeO.none _)
      | (with_reducible refine LeO.ite ?_ ?_)
      | (with_reducible refine LeO.bind ?_ (fun _ => ?_))
      | exact ih0 _ _ _ _
      | exact ih1 _ _ _ _
      | exact ih2 _ _ _ _ _
      | exact ih3 _ _ _ _ _
      | exact ih4 _ _ _ _ _
      | exact spec_l01Sorted.mono _ _
      | exact LeO.none _
      | refine LeO.ite ?_ ?_
      | refine LeO.bind ?_ (fun _ => ?_)
end Go.Proofs.Ytbpgfjoplbkgmaa.P
end
section
namespace Go.Proofs.Ytbpgfjoplbkgmaa.P
open Go.RowKit Go.Proofs.YtbpgfjoplbkgmaaW.PrintWords Go.Proofs.YtbpgfjoplbkgmaaW.PrintLast Go.Proofs.YtbpgfjoplbkgmaaW.PrintMore
attribute [local go_sem] max2_int min2_int max_two min_two max_three min_three max_four min_four   -- for this text's walks alone
set_option linter.unusedVariables false
set_option linter.unusedSimpArgs false
def spec_TurnsByOne.l0 : Nat → Int → List Int → Option (List Int × Int × Int)
  | 0, _, _ => none
  | k + 1, x5, x102000 => (spec_l03Lessened.f k x102000 x5).bind fun bt103 => (if bt103.2 = true then ((spec_l03Turns.f k bt103.1).bind fun bt108 => (if bt108.2 = true then (some (bt108.1, x5, 0)) else (spec_TurnsByOne.l0 k (wrap64 (x5 + 1)) x102000))) else (some (([] : List Int), 0, 4)))
def spec_TurnsByOne.f (k : Nat) (l0_0 : List Int) : Option (List Int × Int × Int) := (spec_l01Is.f k l0_0).bind fun t102 => (if t102 = true then (spec_TurnsByOne.l0 k 1 l0_0) else (some (([] : List Int), 0, 1)))
theorem spec_TurnsByOne.mono_l : ∀ k, (∀ y0 y1, LeO (spec_TurnsByOne.l0 k y0 y1) (spec_TurnsByOne.l0 (k + 1) y0 y1))
  | 0 => fun _ _ r h => by simp [spec_TurnsByOne.l0] at h
  | k + 1 => by
    have ih0 := spec_TurnsByOne.mono_l k
    · intro y0 y1
      unfold spec_TurnsByOne.l0
      repeat' first
      | (with_reducible exact ih0 _ _)
      | (with_reducible exact spec_l01Is.mono _ _)
      | (with_reducible exact spec_l03Lessened.mono _ _ _)
      | (with_reducible exact spec_l03Turns.mono _ _)
      | (with_reducible exact LeO.refl _)
      | (with_reducible exact LeO.none _)
      | (with_reducible refine LeO.ite ?_ ?_)
      | (with_reducible refine LeO.bind ?_ (fun _ => ?_))
      | exact ih0 _ _
      | exact spec_l01Is.mono _ _
      | exact spec_l03Lessened.mono _ _ _
      | exact spec_l03Turns.mono _ _
      | exact LeO.none _
      | refine LeO.ite ?_ ?_
      | refine LeO.bind ?_ (fun _ => ?_)
theorem spec_TurnsByOne.mono : ∀ a0 k, LeO (spec_TurnsByOne.f k a0) (spec_TurnsByOne.f (k + 1) a0) := by
  intro a0 k
  have ih0 := spec_TurnsByOne.mono_l k
  unfold spec_TurnsByOne.f
  repeat' first
      | (with_reducible exact ih0 _ _)
      | (with_reducible exact spec_l01Is.mono _ _)
      | (with_reducible exact spec_l03Lessened.mono _ _ _)
      | (with_reducible exact spec_l03Turns.mono _ _)
      | (with_reducible exact LeO.refl _)
      | (with_reducible exact LeO.none _)
      | (with_reducible refine LeO.ite ?_ ?_)
      | (with_reducible refine LeO.bind ?_ (fun _ => ?_))
      | exact ih0 _ _
      | exact spec_l01Is.mono _ _
      | exact spec_l03Lessened.mono _ _ _
      | exact spec_l03Turns.mono _ _
      | exact LeO.none _
      | refine LeO.ite ?_ ?_
      | refine LeO.bind ?_ (fun _ => ?_)
end Go.Proofs.Ytbpgfjoplbkgmaa.P
end
section
namespace Go.Proofs.Ytbpgfjoplbkgmaa.P
open Go.RowKit Go.Proofs.YtbpgfjoplbkgmaaW.PrintWords Go.Proofs.YtbpgfjoplbkgmaaW.PrintLast Go.Proofs.YtbpgfjoplbkgmaaW.PrintMore
attribute [local go_sem] max2_int min2_int max_two min_two max_three min_three max_four min_four   -- for this text's walks alone
set_option linter.unusedVariables false
set_option linter.unusedSimpArgs false
def spec_TurnsByPowers.f (k : Nat) (l0_0 : List Int) : Option (List Int × Int) := (spec_l01Is.f k l0_0).bind fun t102 => (if t102 = true then ((spec_l03Lessened.f k l0_0 1).bind fun bt103 => ((spec_l03Turns.f k bt103.1).bind fun bt108 => (if bt108.2 = true then (some (bt108.1, 0)) else (some (([] : List Int), 4))))) else (some (([] : List Int), 1)))
theorem spec_TurnsByPowers.mono : ∀ a0 k, LeO (spec_TurnsByPowers.f k a0) (spec_TurnsByPowers.f (k + 1) a0) := by
  intro a0 k
  unfold spec_TurnsByPowers.f
  repeat' first
      | (with_reducible exact spec_l01Is.mono _ _)
      | (with_reducible exact spec_l03Lessened.mono _ _ _)
      | (with_reducible exact spec_l03Turns.mono _ _)
      | (with_reducible exact LeO.refl _)
      | (with_reducible exact LeO.none _)
      | (with_reducible refine LeO.ite ?_ ?_)
      | (with_reducible refine LeO.bind ?_ (fun _ => ?_))
      | exact spec_l01Is.mono _ _
      | exact spec_l03Lessened.mono _ _ _
      | exact spec_l03Turns.mono _ _
      | exact LeO.none _
      | refine LeO.ite ?_ ?_
      | refine LeO.bind ?_ (fun _ => ?_)
end Go.Proofs.Ytbpgfjoplbkgmaa.P
end
section
namespace Go.Proofs.Ytbpgfjoplbkgmaa.P
open Go.RowKit Go.Proofs.YtbpgfjoplbkgmaaW.PrintWords Go.Proofs.YtbpgfjoplbkgmaaW.PrintLast Go.Proofs.YtbpgfjoplbkgmaaW.PrintMore
attribute [local go_sem] max2_int min2_int max_two min_two max_three min_three max_four min_four   -- for this text's walks alone
set_option linter.unusedVariables false
set_option linter.unusedSimpArgs false
def harm1 (a b : Int) : Bool := Int.tmod (mx a b) (mn a b) == 0
def impl_Tasks_isHarmonic.f (l0_0 : List Int) : Option Bool := if (∀ x ∈ l0_0, 1 ≤ x) then some (l0_0.all fun a => l0_0.all fun b => harm1 a b) else none
end Go.Proofs.Ytbpgfjoplbkgmaa.P
end
section
namespace Go.Proofs.Ytbpgfjoplbkgmaa.P
open Go.RowKit Go.Proofs.YtbpgfjoplbkgmaaW.PrintWords Go.Proofs.YtbpgfjoplbkgmaaW.PrintLast Go.Proofs.YtbpgfjoplbkgmaaW.PrintMore
attribute [local go_sem] max2_int min2_int max_two min_two max_three min_three max_four min_four   -- for this text's walks alone
set_option linter.unusedVariables false
set_option linter.unusedSimpArgs false
mutual
def spec_l03Harmonic.l0 : Nat → Int → List Int → Option (Bool)
  | 0, _, _ => none
  | k + 1, x3, x102000 => if x3 < (x102000.length : Int) then (spec_l03Harmonic.l1 k x3 0 x102000) else (some true)
def spec_l03Harmonic.l1 : Nat → Int → Int → List Int → Option (Bool)
  | 0, _, _, _ => none
  | k + 1, x3, x4, x102000 => if x4 < x3 then (if 0 ≤ x3 then (if x3 < (x102000.length : Int) then (if 0 ≤ x4 then (if x4 < (x102000.length : Int) then (if (rd x102000 x4) = 0 then (none) else (if (Int.tmod (rd x102000 x3) (rd x102000 x4)) = 0 then (spec_l03Harmonic.l1 k x3 (wrap64 (x4 + 1)) x102000) else (if (rd x102000 x3) = 0 then (none) else (if (Int.tmod (rd x102000 x4) (rd x102000 x3)) = 0 then (spec_l03Harmonic.l1 k x3 (wrap64 (x4 + 1)) x102000) else (some false))))) else (none)) else (none)) else (none)) else (none)) else (spec_l03Harmonic.l0 k (wrap64 (x3 + 1)) x102000)
end
def spec_l03Harmonic.f (k : Nat) (l0_0 : List Int) : Option (Bool) := spec_l03Harmonic.l0 k 0 l0_0
theorem spec_l03Harmonic.mono_l : ∀ k, (∀ y0 y1, LeO (spec_l03Harmonic.l0 k y0 y1) (spec_l03Harmonic.l0 (k + 1) y0 y1)) ∧ (∀ y0 y1 y2, LeO (spec_l03Harmonic.l1 k y0 y1 y2) (spec_l03Harmonic.l1 (k + 1) y0 y1 y2))
  | 0 => ⟨fun _ _ r h => by simp [spec_l03Harmonic.l0] at h, fun _ _ _ r h => by simp [spec_l03Harmonic.l1] at h⟩
  | k + 1 => by
    obtain ⟨ih0, ih1⟩ := spec_l03Harmonic.mono_l k
    refine ⟨?_, ?_⟩
    · intro y0 y1
      unfold spec_l03Harmonic.l0
      repeat' first
      | (with_reducible exact ih0 _ _)
      | (with_reducible exact ih1 _ _ _)
      | (with_reducible exact LeO.refl _)
      | (with_reducible exact LeO.none _)
      | (with_reducible refine LeO.ite ?_ ?_)
      | (with_reducible refine LeO.bind ?_ (fun _ => ?_))
      | exact ih0 _ _
      | exact ih1 _ _ _
      | exact LeO.none _
      | refine LeO.ite ?_ ?_
      | refine LeO.bind ?_ (fun _ => ?_)
    · intro y0 y1 y2
      unfold spec_l03Harmonic.l1
      repeat' first
      | (with_reducible exact ih0 _ _)
      | (with_reducible exact ih1 _ _ _)
      | (with_reducible exact LeO.refl _)
      | (with_reducible exact LeO.none _)
      | (with_reducible refine LeO.ite ?_ ?_)
      | (with_reducible refine LeO.bind ?_ (fun _ => ?_))
      | exact ih0 _ _
      | exact ih1 _ _ _
      | exact LeO.none _
      | refine LeO.ite ?_ ?_
      | refine LeO.bind ?_ (fun _ => ?_)
theorem spec_l03Harmonic.mono : ∀ a0 k, LeO (spec_l03Harmonic.f k a0) (spec_l03Harmonic.f (k + 1) a0) := by
  intro a0 k
  obtain ⟨ih0, ih1⟩ := spec_l03Harmonic.mono_l k
  unfold spec_l03Harmonic.f
  repeat' first
      | (with_reducible exact ih0 _ _)
      | (with_reducible exact ih1 _ _ _)
      | (with_reducible exact LeO.refl _)
      | (with_reducible exact LeO.none _)
      | (with_reducible refine LeO.ite ?_ ?_)
      | (with_reducible refine LeO.bind ?_ (fun _ => ?_))
      | exact ih0 _ _
      | exact ih1 _ _ _
      | exact LeO.none _
      | refine LeO.ite ?_ ?_
      | refine LeO.bind ?_ (fun _ => ?_)
end Go.Proofs.Ytbpgfjoplbkgmaa.P
end
section
namespace Go.Proofs.Ytbpgfjoplbkgmaa.P
open Go.RowKit Go.Proofs.YtbpgfjoplbkgmaaW.PrintWords Go.Proofs.YtbpgfjoplbkgmaaW.PrintLast Go.Proofs.YtbpgfjoplbkgmaaW.PrintMore
attribute [local go_sem] max2_int min2_int max_two min_two max_three min_three max_four min_four   -- for this text's walks alone
set_option linter.unusedVariables false
set_option linter.unusedSimpArgs false
def impl_areTurns.f (l0 : List Int) (a1 : Int) : Option Bool := some (decide (1 ≤ (l0.length : Int) ∧ (l0.length : Int) ≤ 120) && l0.all fun i => decide (-1 ≤ i ∧ i ≤ wrap64 (a1 - 1)))
end Go.Proofs.Ytbpgfjoplbkgmaa.P
end
section
namespace Go.Proofs.Ytbpgfjoplbkgmaa.P
open Go.RowKit Go.Proofs.YtbpgfjoplbkgmaaW.PrintWords Go.Proofs.YtbpgfjoplbkgmaaW.PrintLast Go.Proofs.YtbpgfjoplbkgmaaW.PrintMore
attribute [local go_sem] max2_int min2_int max_two min_two max_three min_three max_four min_four   -- for this text's walks alone
set_option linter.unusedVariables false
set_option linter.unusedSimpArgs false
def impl_share.l0 : Nat → Int → Int → List Int → Int → Int → Option (Int)
  | 0, _, _, _, _, _ => none
  | k + 1, x1, x5, x8, x9, x10 => if x10 < x9 then (if 0 ≤ x10 then (if x10 < (x8.length : Int) then (if (rd x8 x10) = x1 then (impl_share.l0 k x1 (wrap64 (x5 + 1)) x8 x9 (wrap64 (x10 + 1))) else (impl_share.l0 k x1 x5 x8 x9 (wrap64 (x10 + 1)))) else (none)) else (none)) else (some x5)
def impl_share.f (k : Nat) (l0 : List Int) (a1 : Int) : Option (Int) := impl_share.l0 k a1 0 l0 (l0.length : Int) 0
theorem impl_share.mono_l : ∀ k, (∀ y0 y1 y2 y3 y4, LeO (impl_share.l0 k y0 y1 y2 y3 y4) (impl_share.l0 (k + 1) y0 y1 y2 y3 y4))
  | 0 => fun _ _ _ _ _ r h => by simp [impl_share.l0] at h
  | k + 1 => by
    have ih0 := impl_share.mono_l k
    · intro y0 y1 y2 y3 y4
      unfold impl_share.l0
      repeat' first
      | (with_reducible exact ih0 _ _ _ _ _)
      | (with_reducible exact LeO.refl _)
      | (with_reducible exact LeO.none _)
      | (with_reducible refine LeO.ite ?_ ?_)
      | (with_reducible refine LeO.bind ?_ (fun _ => ?_))
      | exact ih0 _ _ _ _ _
      | exact LeO.none _
      | refine LeO.ite ?_ ?_
      | refine LeO.bind ?_ (fun _ => ?_)
theorem impl_share.mono : ∀ a0 a1 k, LeO (impl_share.f k a0 a1) (impl_share.f (k + 1) a0 a1) := by
  intro a0 a1 k
  have ih0 := impl_share.mono_l k
  unfold impl_share.f
  repeat' first
      | (with_reducible exact ih0 _ _ _ _ _)
      | (with_reducible exact LeO.refl _)
      | (with_reducible exact LeO.none _)
      | (with_reducible refine LeO.ite ?_ ?_)
      | (with_reducible refine LeO.bind ?_ (fun _ => ?_))
      | exact ih0 _ _ _ _ _
      | exact LeO.none _
      | refine LeO.ite ?_ ?_
      | refine LeO.bind ?_ (fun _ => ?_)
end Go.Proofs.Ytbpgfjoplbkgmaa.P
end
section
namespace Go.Proofs.Ytbpgfjoplbkgmaa.P
open Go.RowKit Go.Proofs.YtbpgfjoplbkgmaaW.PrintWords Go.Proofs.YtbpgfjoplbkgmaaW.PrintLast Go.Proofs.YtbpgfjoplbkgmaaW.PrintMore
attribute [local go_sem] max2_int min2_int max_two min_two max_three min_three max_four min_four   -- for this text's walks alone
set_option linter.unusedVariables false
set_option linter.unusedSimpArgs false
def impl_sharesOf.l0 : Nat → List Int → List Int → Int → Int → Option (List Int)
  | 0, _, _, _, _ => none
  | k + 1, x0, x3, x7, x8 => if x8 < x7 then ((impl_share.f k x0 x8).bind fun t102 => (if x3.length < 17592186044416 then (impl_sharesOf.l0 k x0 (x3 ++ [t102]) x7 (wrap64 (x8 + 1))) else (none))) else (some x3)
def impl_sharesOf.f (k : Nat) (l0 : List Int) : Option (List Int) := (slices_Max_Sint64_int64.f k l0).bind fun t101 => (impl_sharesOf.l0 k l0 ([] : List Int) (wrap64 (t101 + 1)) 0)
theorem impl_sharesOf.mono_l : ∀ k, (∀ y0 y1 y2 y3, LeO (impl_sharesOf.l0 k y0 y1 y2 y3) (impl_sharesOf.l0 (k + 1) y0 y1 y2 y3))
  | 0 => fun _ _ _ _ r h => by simp [impl_sharesOf.l0] at h
  | k + 1 => by
    have ih0 := impl_sharesOf.mono_l k
    · intro y0 y1 y2 y3
      unfold impl_sharesOf.l0
      repeat' first
      | (with_reducible exact ih0 _ _ _ _)
      | (with_reducible exact impl_share.mono _ _ _)
      | (with_reducible exact slices_Max_Sint64_int64.mono _ _)
      | (with_reducible exact LeO.refl _)
      | (with_reducible exact LeO.none _)
      | (with_reducible refine LeO.ite ?_ ?_)
      | (with_reducible refine LeO.bind ?_ (fun _ => ?_))
      | exact ih0 _ _ _ _
      | exact impl_share.mono _ _ _
      | exact slices_Max_Sint64_int64.mono _ _
      | exact LeO.none _
      | refine LeO.ite ?_ ?_
      | refine LeO.bind ?_ (fun _ => ?_)
theorem impl_sharesOf.mono : ∀ a0 k, LeO (impl_sharesOf.f k a0) (impl_sharesOf.f (k + 1) a0) := by
  intro a0 k
  have ih0 := impl_sharesOf.mono_l k
  unfold impl_sharesOf.f
  repeat' first
      | (with_reducible exact ih0 _ _ _ _)
      | (with_reducible exact impl_share.mono _ _ _)
      | (with_reducible exact slices_Max_Sint64_int64.mono _ _)
      | (with_reducible exact LeO.refl _)
      | (with_reducible exact LeO.none _)
      | (with_reducible refine LeO.ite ?_ ?_)
      | (with_reducible refine LeO.bind ?_ (fun _ => ?_))
      | exact ih0 _ _ _ _
      | exact impl_share.mono _ _ _
      | exact slices_Max_Sint64_int64.mono _ _
      | exact LeO.none _
      | refine LeO.ite ?_ ?_
      | refine LeO.bind ?_ (fun _ => ?_)
end Go.Proofs.Ytbpgfjoplbkgmaa.P
end
section
namespace Go.Proofs.Ytbpgfjoplbkgmaa.P
open Go.RowKit Go.Proofs.YtbpgfjoplbkgmaaW.PrintWords Go.Proofs.YtbpgfjoplbkgmaaW.PrintLast Go.Proofs.YtbpgfjoplbkgmaaW.PrintMore
attribute [local go_sem] max2_int min2_int max_two min_two max_three min_three max_four min_four   -- for this text's walks alone
set_option linter.unusedVariables false
set_option linter.unusedSimpArgs false
def slices_Contains_Sint64_int64.f (k : Nat) (l0 : List Int) (a1 : Int) : Option (Bool) := (slices_Index_Sint64_int64.f k l0 a1).bind fun t101 => (some (decide (t101 ≥ 0)))
theorem slices_Contains_Sint64_int64.mono : ∀ a0 a1 k, LeO (slices_Contains_Sint64_int64.f k a0 a1) (slices_Contains_Sint64_int64.f (k + 1) a0 a1) := by
  intro a0 a1 k
  unfold slices_Contains_Sint64_int64.f
  repeat' first
      | (with_reducible exact slices_Index_Sint64_int64.mono _ _ _)
      | (with_reducible exact LeO.refl _)
      | (with_reducible exact LeO.none _)
      | (with_reducible refine LeO.ite ?_ ?_)
      | (with_reducible refine LeO.bind ?_ (fun _ => ?_))
      | exact slices_Index_Sint64_int64.mono _ _ _
      | exact LeO.none _
      | refine LeO.ite ?_ ?_
      | refine LeO.bind ?_ (fun _ => ?_)
end Go.Proofs.Ytbpgfjoplbkgmaa.P
end
section
namespace Go.Proofs.Ytbpgfjoplbkgmaa.P
open Go.RowKit Go.Proofs.YtbpgfjoplbkgmaaW.PrintWords Go.Proofs.YtbpgfjoplbkgmaaW.PrintLast Go.Proofs.YtbpgfjoplbkgmaaW.PrintMore
attribute [local go_sem] max2_int min2_int max_two min_two max_three min_three max_four min_four   -- for this text's walks alone
set_option linter.unusedVariables false
set_option linter.unusedSimpArgs false
def impl_levelCode.f (k : Nat) (l0 : List Int) : Option (Int) := (impl_areTurns.f l0 8).bind fun t101 => (if t101 = true then ((slices_Contains_Sint64_int64.f k l0 (-1)).bind fun t102 => (if t102 = true then (some 5) else ((impl_sharesOf.f k l0).bind fun t103 => ((slices_Contains_Sint64_int64.f k t103 0).bind fun t106 => (if t106 = true then (some 5) else (if (l0.length : Int) > 60 then (some 5) else (some 0))))))) else (some 2))
theorem impl_levelCode.mono : ∀ a0 k, LeO (impl_levelCode.f k a0) (impl_levelCode.f (k + 1) a0) := by
  intro a0 k
  unfold impl_levelCode.f
  repeat' first
      | (with_reducible exact impl_sharesOf.mono _ _)
      | (with_reducible exact slices_Contains_Sint64_int64.mono _ _ _)
      | (with_reducible exact LeO.refl _)
      | (with_reducible exact LeO.none _)
      | (with_reducible refine LeO.ite ?_ ?_)
      | (with_reducible refine LeO.bind ?_ (fun _ => ?_))
      | exact impl_sharesOf.mono _ _
      | exact slices_Contains_Sint64_int64.mono _ _ _
      | exact LeO.none _
      | refine LeO.ite ?_ ?_
      | refine LeO.bind ?_ (fun _ => ?_)
end Go.Proofs.Ytbpgfjoplbkgmaa.P
end
section
namespace Go.Proofs.Ytbpgfjoplbkgmaa.P
open Go.RowKit Go.Proofs.YtbpgfjoplbkgmaaW.PrintWords Go.Proofs.YtbpgfjoplbkgmaaW.PrintLast Go.Proofs.YtbpgfjoplbkgmaaW.PrintMore
attribute [local go_sem] max2_int min2_int max_two min_two max_three min_three max_four min_four   -- for this text's walks alone
set_option linter.unusedVariables false
set_option linter.unusedSimpArgs false
def spec_l01Turns.l0 : Nat → List Int → Int → Int → Option (Bool)
  | 0, _, _, _ => none
  | k + 1, x0, x1, x5 => if x5 < (x0.length : Int) then (if 0 ≤ x5 then ((spec_l01In.f (rd x0 x5) (-1) (wrap64 (x1 - 1))).bind fun t102 => (if t102 = true then (spec_l01Turns.l0 k x0 x1 (wrap64 (x5 + 1))) else (some false))) else (none)) else ((spec_l01In.f (x0.length : Int) 1 120).bind fun t103 => (some t103))
def spec_l01Turns.f (k : Nat) (l0 : List Int) (a1 : Int) : Option (Bool) := spec_l01Turns.l0 k l0 a1 0
theorem spec_l01Turns.mono_l : ∀ k, (∀ y0 y1 y2, LeO (spec_l01Turns.l0 k y0 y1 y2) (spec_l01Turns.l0 (k + 1) y0 y1 y2))
  | 0 => fun _ _ _ r h => by simp [spec_l01Turns.l0] at h
  | k + 1 => by
    have ih0 := spec_l01Turns.mono_l k
    · intro y0 y1 y2
      unfold spec_l01Turns.l0
      repeat' first
      | (with_reducible exact ih0 _ _ _)
      | (with_reducible exact LeO.refl _)
      | (with_reducible exact LeO.none _)
      | (with_reducible refine LeO.ite ?_ ?_)
      | (with_reducible refine LeO.bind ?_ (fun _ => ?_))
      | exact ih0 _ _ _
      | exact LeO.none _
      | refine LeO.ite ?_ ?_
      | refine LeO.bind ?_ (fun _ => ?_)
theorem spec_l01Turns.mono : ∀ a0 a1 k, LeO (spec_l01Turns.f k a0 a1) (spec_l01Turns.f (k + 1) a0 a1) := by
  intro a0 a1 k
  have ih0 := spec_l01Turns.mono_l k
  unfold spec_l01Turns.f
  repeat' first
      | (with_reducible exact ih0 _ _ _)
      | (with_reducible exact LeO.refl _)
      | (with_reducible exact LeO.none _)
      | (with_reducible refine LeO.ite ?_ ?_)
      | (with_reducible refine LeO.bind ?_ (fun _ => ?_))
      | exact ih0 _ _ _
      | exact LeO.none _
      | refine LeO.ite ?_ ?_
      | refine LeO.bind ?_ (fun _ => ?_)
end Go.Proofs.Ytbpgfjoplbkgmaa.P
end
section
namespace Go.Proofs.Ytbpgfjoplbkgmaa.Pure
open Go.RowKit Go.Proofs.Ytbpgfjoplbkgmaa.P Go.Proofs.YtbpgfjoplbkgmaaW.PrintWords Go.Proofs.YtbpgfjoplbkgmaaW.PrintLast Go.Proofs.YtbpgfjoplbkgmaaW.PrintMore
set_option linter.unusedVariables false
set_option linter.unusedSimpArgs false
theorem l01In_f (n lo hi : Int) : spec_l01In.f n lo hi = some (decide (lo ≤ n ∧ n ≤ hi)) := by
  unfold spec_l01In.f
  by_cases h : n ≥ lo
  · rw [if_pos h]; simp [show lo ≤ n from h]
  · rw [if_neg h]; simp [show ¬ lo ≤ n from h]
theorem all_take_succ {α : Type} (p : α → Bool) (l : List α) (n : Nat) (h : n < l.length) : (l.take (n + 1)).all p = ((l.take n).all p && p l[n]) := by
  rw [List.take_succ_eq_append_getElem h, List.all_append]; simp
theorem all_false_at {α : Type} (p : α → Bool) (l : List α) (n : Nat) (h : n < l.length) (hp : p l[n] = false) : l.all p = false := by
  rw [Bool.eq_false_iff]
  intro ha
  rw [List.all_eq_true] at ha
  rw [ha _ (List.getElem_mem h)] at hp
  cases hp
end Go.Proofs.Ytbpgfjoplbkgmaa.Pure
end
section
namespace Go.Proofs.Ytbpgfjoplbkgmaa.Pure
open Go.RowKit Go.Proofs.Ytbpgfjoplbkgmaa.P Go.Proofs.YtbpgfjoplbkgmaaW.PrintWords Go.Proofs.YtbpgfjoplbkgmaaW.PrintLast Go.Proofs.YtbpgfjoplbkgmaaW.PrintMore
set_option linter.unusedVariables false
set_option linter.unusedSimpArgs false
/-- the digit of the road between two places -/
def roadOf (i j : Int) : Int := 2 ^ ((max i j) * ((max i j) - 1) / 2 + min i j).toNat
/-- Two places are near: the same, or joined. -/
def nearB (b i j : Int) : Bool := if i = j then true else Go.bits .and .i64 b (roadOf i j) != 0
end Go.Proofs.Ytbpgfjoplbkgmaa.Pure
end
section
namespace Go.Proofs.Ytbpgfjoplbkgmaa.Pure
open Go.RowKit Go.Proofs.Ytbpgfjoplbkgmaa.P Go.Proofs.YtbpgfjoplbkgmaaW.PrintWords Go.Proofs.YtbpgfjoplbkgmaaW.PrintLast Go.Proofs.YtbpgfjoplbkgmaaW.PrintMore
set_option linter.unusedVariables false
set_option linter.unusedSimpArgs false
theorem rd_set {l : List Int} {b i : Nat} {x : Int} (hb : b < l.length) : rd (l.set b x) (i : Nat) = if i = b then x else rd l (i : Nat) := by
  simp only [rd, Int.toNat_natCast, List.getD_eq_getElem?_getD, List.getElem?_set]
  by_cases h : b = i
  · subst h; simp [hb]
  · rw [if_neg h, if_neg (fun e => h e.symm)]
end Go.Proofs.Ytbpgfjoplbkgmaa.Pure
end
section
namespace Go.Proofs.Ytbpgfjoplbkgmaa.Pure
open Go.RowKit Go.Proofs.Ytbpgfjoplbkgmaa.P Go.Proofs.YtbpgfjoplbkgmaaW.PrintWords Go.Proofs.YtbpgfjoplbkgmaaW.PrintLast Go.Proofs.YtbpgfjoplbkgmaaW.PrintMore
set_option linter.unusedVariables false
set_option linter.unusedSimpArgs false
def neg : List Int → Nat
  | [] => 0
  | y :: l => (if y < 0 then 1 else 0) + neg l
theorem neg_set (v : Int) (hv : 0 ≤ v) : ∀ (l : List Int) (n : Nat) (h : n < l.length), l[n] < 0 → neg (l.set n v) + 1 = neg l := by
  intro l
  induction l with
  | nil => intro n h; simp at h
  | cons y l ih =>
    intro n h hn
    cases n with
    | zero =>
      simp only [List.getElem_cons_zero] at hn
      simp only [List.set_cons_zero, neg]
      rw [if_neg (by omega), if_pos hn]
      omega
    | succ n =>
      simp only [List.getElem_cons_succ] at hn
      simp only [List.set_cons_succ, neg]
      have := ih n (by simpa using h) hn
      omega
def stepJ (b h : Int) (j : Nat) (s : List Int × List Int) : List Int × List Int := if rd s.1 (j : Int) < 0 ∧ nearB b h (j : Int) = true then (s.1.set j (rd s.1 h + 1), s.2 ++ [(j : Int)]) else s
def inJ (b h : Int) : Nat → Nat → List Int × List Int → List Int × List Int
  | 0, _, s => s
  | d + 1, j, s => inJ b h d (j + 1) (stepJ b h j s)
structure Bfs (a : Nat) (s : List Int × List Int) : Prop where
  len : s.1.length = a
  mem : ∀ x ∈ s.2, 0 ≤ x ∧ x < (a : Int) ∧ 0 ≤ rd s.1 x
  hi : ∀ i : Nat, i < a → rd s.1 (i : Int) ≤ (s.2.length : Int)
  num : s.2.length + neg s.1 ≤ a
theorem Bfs.step {a : Nat} {b h : Int} {j : Nat} {s : List Int × List Int} (B : Bfs a s) (hj : j < a) (hh : 0 ≤ h ∧ h < (a : Int) ∧ 0 ≤ rd s.1 h) : Bfs a (stepJ b h j s) := by
  unfold stepJ
  split
  · next c =>
    have hl := B.len
    refine ⟨by rw [List.length_set]; exact hl, fun x hx => ?_, fun i hi => ?_, ?_⟩
    · rcases List.mem_append.1 hx with hx | hx
      · obtain ⟨h1, h2, h3⟩ := B.mem x hx
        obtain ⟨n, rfl⟩ : ∃ n : Nat, x = n := ⟨x.toNat, by omega⟩
        refine ⟨h1, h2, ?_⟩
        show 0 ≤ rd (s.1.set j _) (n : Int)
        rw [rd_set (by omega)]
        split <;> omega
      · rw [List.mem_singleton.1 hx]
        refine ⟨by omega, by omega, ?_⟩
        show 0 ≤ rd (s.1.set j _) (j : Int)
        rw [rd_set (by omega), if_pos rfl]
        omega
    · have h1 := B.hi i hi
      have h2 := B.hi h.toNat (by omega)
      rw [show ((h.toNat : Nat) : Int) = h by omega] at h2
      show rd (s.1.set j _) (i : Int) ≤ ((s.2 ++ [(j : Int)]).length : Int)
      rw [rd_set (by omega), List.length_append, List.length_singleton]
      split <;> omega
    · have c1 := c.1
      rw [rd_nat (by omega)] at c1
      have := neg_set (rd s.1 h + 1) (by omega) s.1 j (by omega) c1
      have := B.num
      show (s.2 ++ [(j : Int)]).length + neg (s.1.set j (rd s.1 h + 1)) ≤ a
      rw [List.length_append, List.length_singleton]
      omega
  · exact B
theorem stepJ_head {a : Nat} {b h : Int} {j : Nat} {s : List Int × List Int} (B : Bfs a s) (hj : j < a) (hh : 0 ≤ h ∧ h < (a : Int) ∧ 0 ≤ rd s.1 h) : 0 ≤ rd (stepJ b h j s).1 h := by
  unfold stepJ
  split
  · have hl := B.len
    obtain ⟨n, rfl⟩ : ∃ n : Nat, h = n := ⟨h.toNat, by omega⟩
    show 0 ≤ rd (s.1.set j _) (n : Int)
    rw [rd_set (by omega)]
    split <;> omega
  · exact hh.2.2
theorem Bfs.inner {a : Nat} {b h : Int} : ∀ d j : Nat, j + d = a → ∀ s : List Int × List Int, Bfs a s → (0 ≤ h ∧ h < (a : Int) ∧ 0 ≤ rd s.1 h) → Bfs a (inJ b h d j s) := by
  intro d
  induction d with
  | zero => intro j _ s B _; exact B
  | succ d ih => intro j hj s B hh; exact ih (j + 1) (by omega) _ (B.step (by omega) hh) ⟨hh.1, hh.2.1, stepJ_head B (by omega) hh⟩
end Go.Proofs.Ytbpgfjoplbkgmaa.Pure
end
section
namespace Go.Proofs.Ytbpgfjoplbkgmaa.Pure
open Go.RowKit Go.Proofs.Ytbpgfjoplbkgmaa.P Go.Proofs.YtbpgfjoplbkgmaaW.PrintWords Go.Proofs.YtbpgfjoplbkgmaaW.PrintLast Go.Proofs.YtbpgfjoplbkgmaaW.PrintMore
set_option linter.unusedVariables false
set_option linter.unusedSimpArgs false
def insB (G : List Int) (x : Int) : List Int → List Int → List Int
  | [], B => x :: B
  | y :: ra, B => if rd G x < rd G y then insB G x ra (y :: B) else (y :: ra).reverse ++ x :: B
def ordF (G : List Int) : Nat → List Int
  | 0 => []
  | n + 1 => insB G (n : Int) (ordF G n).reverse []
theorem insB_length (G : List Int) (x : Int) : ∀ ra B, (insB G x ra B).length = ra.length + B.length + 1 := by
  intro ra
  induction ra with
  | nil => intro B; simp [insB]
  | cons y ra ih =>
    intro B
    rw [insB]
    split
    · rw [ih, List.length_cons, List.length_cons]; omega
    · simp only [List.length_append, List.length_reverse, List.length_cons]; omega
theorem ordF_length (G : List Int) : ∀ n, (ordF G n).length = n := by
  intro n
  induction n with
  | zero => rfl
  | succ n ih => rw [ordF, insB_length, List.length_reverse, ih]; simp
theorem insB_mem (G : List Int) (x z : Int) : ∀ ra B, z ∈ insB G x ra B ↔ z = x ∨ z ∈ ra ∨ z ∈ B := by
  intro ra
  induction ra with
  | nil => intro B; simp [insB]
  | cons y ra ih =>
    intro B
    rw [insB]
    split
    · rw [ih]
      simp only [List.mem_cons]
      constructor
      · rintro (h | h | h | h)
        · exact .inl h
        · exact .inr (.inl (.inr h))
        · exact .inr (.inl (.inl h))
        · exact .inr (.inr h)
      · rintro (h | (h | h) | h)
        · exact .inl h
        · exact .inr (.inr (.inl h))
        · exact .inr (.inl h)
        · exact .inr (.inr (.inr h))
    · simp only [List.mem_append, List.mem_reverse, List.mem_cons]
      constructor
      · rintro ((h | h) | h | h)
        · exact .inr (.inl (.inl h))
        · exact .inr (.inl (.inr h))
        · exact .inl h
        · exact .inr (.inr h)
      · rintro (h | (h | h) | h)
        · exact .inr (.inl h)
        · exact .inl (.inl h)
        · exact .inl (.inr h)
        · exact .inr (.inr h)
theorem ordF_mem (G : List Int) : ∀ n (z : Int), z ∈ ordF G n ↔ 0 ≤ z ∧ z < (n : Int) := by
  intro n
  induction n with
  | zero => intro z; simp [ordF] <;> omega
  | succ n ih =>
    intro z
    rw [ordF, insB_mem, List.mem_reverse, ih]
    simp only [List.not_mem_nil, or_false]
    omega
theorem rd_mid (A B : List Int) (x : Int) : rd (A ++ x :: B) (A.length : Int) = x := by
  rw [rd_nat (by simp)]
  simp
theorem set_mid1 (A B : List Int) (x y : Int) : (A ++ x :: B).set A.length y = A ++ y :: B := by
  rw [List.set_append_right _ _ (Nat.le_refl _), Nat.sub_self, List.set_cons_zero]
theorem upTo_split (n m : Nat) (h : n < m) : (List.range' n (m - n)).map (fun (i : Nat) => (i : Int)) = (n : Int) :: (List.range' (n + 1) (m - (n + 1))).map (fun (i : Nat) => (i : Int)) := by
  obtain ⟨d, hd⟩ : ∃ d, m - n = d + 1 := ⟨m - n - 1, by omega⟩
  rw [hd, List.range'_succ, show m - (n + 1) = d by omega]
  rfl
theorem impl_ins_l1 (G : List Int) (hG : ∀ x ∈ G, 1 ≤ x ∧ x ≤ 40) (m i : Nat) (hm : m ≤ G.length) (hm8 : m ≤ 100) (hi : i < m) (x : Int) (hx : 0 ≤ x ∧ x < (G.length : Int)) (rest : List Int) (R : List Int) : ∀ ra B : List Int, ra.length + B.length = i → rest.length + i + 1 = m → (∀ z ∈ ra, 0 ≤ z ∧ z < (G.length : Int)) →
    Ev (fun k => insF.l0 (gapCmp G) k (insB G x ra B ++ rest) 0 (m : Int) ((i + 1 : Nat) : Int)) R →
    Ev (fun k => insF.l1 (gapCmp G) k (ra.reverse ++ x :: (B ++ rest)) 0 (m : Int) (i : Int) (ra.length : Int)) R := by
  intro ra
  induction ra with
  | nil =>
    intro B hB hr hz hR
    refine Ev.step (fun k => by rw [insF.l1]) ?_
    rw [wrap_succ (n := i) (by omega)]
    exact ev_neg (by simp) hR
  | cons y ra ih =>
    intro B hB hr hz hR
    rw [List.length_cons] at hB
    have hy := hz y List.mem_cons_self
    have gx := hG (rd G x) (rd_mem hx.1 hx.2)
    have gy := hG (rd G y) (rd_mem hy.1 hy.2)
    have ej : wrap64 (((y :: ra).length : Int) - 1) = (ra.length : Int) := by
      rw [List.length_cons, wrap_id (by omega) (by omega)]; omega
    have e1 : rd ((y :: ra).reverse ++ x :: (B ++ rest)) ((y :: ra).length : Int) = x := by
      have := rd_mid (y :: ra).reverse (B ++ rest) x
      rwa [List.length_reverse] at this
    have e2 : rd ((y :: ra).reverse ++ x :: (B ++ rest)) (ra.length : Int) = y := by
      have := rd_mid ra.reverse (x :: (B ++ rest)) y
      rw [List.length_reverse] at this
      rw [List.reverse_cons, List.append_assoc]
      exact this
    have hlen : ((y :: ra).reverse ++ x :: (B ++ rest)).length = m := by
      simp only [List.length_append, List.length_reverse, List.length_cons]; omega
    refine Ev.step (fun k => by rw [insF.l1]) ?_
    rw [ej, e1, e2, hlen]
    refine ev_pos (by rw [List.length_cons]; omega) (ev_pos (by omega) (ev_pos (by rw [List.length_cons]; omega) (ev_pos (by omega) (ev_pos (by omega) ?_))))
    rw [insB] at hR
    by_cases c : rd G x < rd G y
    · rw [if_pos c] at hR
      refine ev_pos (by unfold gapCmp; rw [wrap_id (by omega) (by omega)]; omega) (ev_pos (by rw [List.length_cons]; omega) ?_)
      have e3 : (((y :: ra).reverse ++ x :: (B ++ rest)).set ((y :: ra).length : Int).toNat y).set (ra.length : Int).toNat x = ra.reverse ++ x :: ((y :: B) ++ rest) := by
        rw [Int.toNat_natCast, Int.toNat_natCast]
        have h1 := set_mid1 (y :: ra).reverse (B ++ rest) x y
        rw [List.length_reverse] at h1
        rw [h1, List.reverse_cons, List.append_assoc]
        have h2 := set_mid1 ra.reverse (y :: (B ++ rest)) y x
        rw [List.length_reverse] at h2
        exact h2
      rw [e3]
      exact ih (y :: B) (by rw [List.length_cons]; omega) hr (fun z hz' => hz z (List.mem_cons_of_mem _ hz')) hR
    · rw [if_neg c] at hR
      refine ev_neg (by unfold gapCmp; rw [wrap_id (by omega) (by omega)]; omega) ?_
      rw [wrap_succ (n := i) (by omega)]
      rw [List.append_assoc] at hR
      exact hR
theorem impl_ins_l0 (G : List Int) (hG : ∀ x ∈ G, 1 ≤ x ∧ x ≤ 40) (m : Nat) (hm : m ≤ G.length) (hm8 : m ≤ 100) : ∀ d i : Nat, i + d = m →
    Ev (fun k => insF.l0 (gapCmp G) k (ordF G i ++ (List.range' i (m - i)).map fun (j : Nat) => (j : Int)) 0 (m : Int) (i : Int)) (ordF G m) := by
  intro d
  induction d with
  | zero =>
    intro i hi
    obtain rfl : i = m := by omega
    refine Ev.step (fun k => by rw [insF.l0]) ?_
    rw [Nat.sub_self]
    exact ev_neg (by omega) (ev_is (by simp))
  | succ d ih =>
    intro i hi
    have hl := ordF_length G i
    have ih := ih (i + 1) (by omega)
    rw [ordF] at ih
    have h := impl_ins_l1 G hG m i hm hm8 (by omega) (i : Int) (by omega) _ _ (ordF G i).reverse [] (by rw [List.length_reverse, hl]; rfl) (by rw [List.length_map, List.length_range']; omega) (fun z hz => by
      have := (ordF_mem G i z).1 (List.mem_reverse.1 hz); omega) ih
    rw [List.reverse_reverse, List.length_reverse, hl, List.nil_append] at h
    refine Ev.step (fun k => by rw [insF.l0]) ?_
    rw [upTo_split i m (by omega)]
    exact ev_pos (by omega) h
theorem byGap_ev (G : List Int) (hG : ∀ x ∈ G, 1 ≤ x ∧ x ≤ 40) (h8 : 1 ≤ G.length ∧ G.length ≤ 8) : Ev (fun k => impl_Tasks_byGap.f k G) (ordF G G.length) := by
  have main : ∀ d n : Nat, n + d = G.length → Ev (fun k => impl_Tasks_byGap.l0 k G (G.length : Int) ((List.range' 0 n).map fun (j : Nat) => (j : Int)) (n : Int)) (ordF G G.length) := by
    intro d
    induction d with
    | zero =>
      intro n hn
      obtain rfl : n = G.length := by omega
      refine Ev.step (fun k => by rw [impl_Tasks_byGap.l0]) ?_
      refine ev_neg (by omega) (ev_pos ⟨by simp; omega, fun x hx => ?_⟩ ?_)
      · obtain ⟨j, hj, rfl⟩ := List.mem_map.1 hx
        have := List.mem_range'_1.1 hj
        omega
      · have h := impl_ins_l0 G hG G.length (Nat.le_refl _) (by omega) (G.length - 1) 1 (by omega)
        have e : ordF G 1 ++ (List.range' 1 (G.length - 1)).map (fun (j : Nat) => (j : Int)) = (List.range' 0 G.length).map (fun (j : Nat) => (j : Int)) := by
          have := upTo_split 0 G.length (by omega)
          rw [Nat.sub_zero] at this
          rw [this]
          rfl
        rw [e] at h
        rw [wrap_id (by omega) (by omega), show (((List.range' 0 G.length).map fun (j : Nat) => (j : Int)).length : Int) = (G.length : Int) by simp]
        exact h
    | succ d ih =>
      intro n hn
      refine Ev.step (fun k => by rw [impl_Tasks_byGap.l0]) ?_
      rw [wrap_succ (by omega)]
      have ih := ih (n + 1) (by omega)
      rw [List.range'_1_concat, List.map_append] at ih
      simp only [List.map_cons, List.map_nil, Nat.zero_add] at ih
      exact ev_pos (by omega) (ev_pos (by simp; omega) ih)
  unfold impl_Tasks_byGap.f
  refine ev_fix (show impl_Tasks_many.f G = some (G.length : Int) from rfl) ?_
  exact main G.length 0 (by omega)
def gapsBy (G o : List Int) : List Int := o.map fun t => rd G t
theorem spec_ins_l1 (G : List Int) (hG : ∀ x ∈ G, 1 ≤ x ∧ x ≤ 40) (i : Nat) (hi : i < G.length) (hi8 : i ≤ 100) (R : List Int × List Int) : ∀ (ra B : List Int) (z : Int), ra.length + B.length = i → (∀ y ∈ ra, 0 ≤ y ∧ y < (G.length : Int)) →
    Ev (fun k => spec_l01Sorted.l0 k (insB G (i : Int) ra B) ((i + 1 : Nat) : Int) G) R →
    Ev (fun k => spec_l01Sorted.l1 k (ra.reverse ++ z :: B) (i : Int) (ra.length : Int) G) R := by
  intro ra
  induction ra with
  | nil =>
    intro B z hB hz hR
    refine Ev.step (fun k => by rw [spec_l01Sorted.l1]) ?_
    rw [wrap_succ (n := i) (by omega)]
    refine ev_neg (by simp) (ev_pos (by simp) (ev_pos (by simp) ?_))
    exact hR
  | cons y ra ih =>
    intro B z hB hz hR
    rw [List.length_cons] at hB
    have hy := hz y List.mem_cons_self
    have ej : wrap64 (((y :: ra).length : Int) - 1) = (ra.length : Int) := by
      rw [List.length_cons, wrap_id (by omega) (by omega)]; omega
    have e2 : rd ((y :: ra).reverse ++ z :: B) (ra.length : Int) = y := by
      have := rd_mid ra.reverse (z :: B) y
      rw [List.length_reverse] at this
      rw [List.reverse_cons, List.append_assoc]
      exact this
    have hlen : ((y :: ra).reverse ++ z :: B).length = i + 1 := by
      simp only [List.length_append, List.length_reverse, List.length_cons]; omega
    have hset : ∀ v : Int, ((y :: ra).reverse ++ z :: B).set ((y :: ra).length : Int).toNat v = (y :: ra).reverse ++ v :: B := fun v => by
      have h1 := set_mid1 (y :: ra).reverse B z v
      rw [List.length_reverse] at h1
      rw [Int.toNat_natCast]
      exact h1
    refine Ev.step (fun k => by rw [spec_l01Sorted.l1]) ?_
    rw [ej, e2, hlen, hset, hset]
    refine ev_pos (by rw [List.length_cons]; omega) (ev_pos (by omega) (ev_pos (by omega) (ev_pos (by omega) (ev_pos (by omega) (ev_pos (by omega) (ev_pos (by omega) ?_))))))
    rw [insB] at hR
    by_cases c : rd G (i : Int) < rd G y
    · rw [if_pos c] at hR
      refine ev_pos (by omega) (ev_pos (by rw [List.length_cons]; omega) (ev_pos (by rw [List.length_cons]; omega) ?_))
      have h := ih (y :: B) y (by rw [List.length_cons]; omega) (fun v hv => hz v (List.mem_cons_of_mem _ hv)) hR
      rw [List.reverse_cons, List.append_assoc]
      exact h
    · rw [if_neg c] at hR
      refine ev_neg (by omega) (ev_pos (by rw [List.length_cons]; omega) (ev_pos (by rw [List.length_cons]; omega) ?_))
      rw [wrap_succ (n := i) (by omega)]
      exact hR
theorem spec_sort_l2 (G o : List Int) (ho : ∀ t ∈ o, 0 ≤ t ∧ t < (G.length : Int)) (h8 : o.length ≤ 100) : ∀ d n : Nat, n + d = o.length → Ev (fun k => spec_l01Sorted.l2 k o (n : Int) G (gapsBy G (o.take n))) (gapsBy G o, o) := by
  intro d
  induction d with
  | zero =>
    intro n hn
    rw [List.take_of_length_le (by omega)]
    refine Ev.step (fun k => by rw [spec_l01Sorted.l2]) ?_
    exact ev_neg (by omega) (ev_now _)
  | succ d ih =>
    intro n hn
    have hlt : n < o.length := by omega
    have hm := ho _ (List.getElem_mem hlt)
    refine Ev.step (fun k => by rw [spec_l01Sorted.l2]) ?_
    rw [rd_nat hlt, wrap_succ (by omega)]
    have ih := ih (n + 1) (by omega)
    rw [List.take_succ_eq_append_getElem hlt, gapsBy, List.map_append] at ih
    exact ev_pos (by omega) (ev_pos (by omega) (ev_pos (by omega) (ev_pos (by omega) (ev_pos (by rw [gapsBy, List.length_map, List.length_take]; omega) ih))))
theorem l01Sorted_ev (G : List Int) (hG : ∀ x ∈ G, 1 ≤ x ∧ x ≤ 40) (h8 : G.length ≤ 8) : Ev (fun k => spec_l01Sorted.f k G) (gapsBy G (ordF G G.length), ordF G G.length) := by
  have main : ∀ d i : Nat, i + d = G.length → Ev (fun k => spec_l01Sorted.l0 k (ordF G i) (i : Int) G) (gapsBy G (ordF G G.length), ordF G G.length) := by
    intro d
    induction d with
    | zero =>
      intro i hi
      obtain rfl : i = G.length := by omega
      have hl := ordF_length G G.length
      refine Ev.step (fun k => by rw [spec_l01Sorted.l0]) (ev_fix (show spec_l01K.f G = some (G.length : Int) from rfl) ?_)
      exact ev_neg (by omega) (spec_sort_l2 G _ (fun t ht => (ordF_mem G _ t).1 ht) (by omega) G.length 0 (by omega))
    | succ d ih =>
      intro i hi
      have hl := ordF_length G i
      have ih := ih (i + 1) (by omega)
      rw [ordF] at ih
      have h := spec_ins_l1 G hG i (by omega) (by omega) _ (ordF G i).reverse [] (i : Int) (by rw [List.length_reverse, hl]; rfl) (fun y hy => by
        have := (ordF_mem G i y).1 (List.mem_reverse.1 hy); omega) ih
      rw [List.reverse_reverse, List.length_reverse] at h
      refine Ev.step (fun k => by rw [spec_l01Sorted.l0]) (ev_fix (show spec_l01K.f G = some (G.length : Int) from rfl) ?_)
      exact ev_pos (by omega) (ev_pos (by omega) h)
  unfold spec_l01Sorted.f
  exact main G.length 0 (by omega)
end Go.Proofs.Ytbpgfjoplbkgmaa.Pure
end
section
namespace Go.Proofs.Ytbpgfjoplbkgmaa.P
open Go.RowKit Go.Proofs.YtbpgfjoplbkgmaaW.PrintWords Go.Proofs.YtbpgfjoplbkgmaaW.PrintLast Go.Proofs.YtbpgfjoplbkgmaaW.PrintMore
attribute [local go_sem] max2_int min2_int max_two min_two max_three min_three max_four min_four   -- for this text's walks alone
set_option linter.unusedVariables false
set_option linter.unusedSimpArgs false
def spec_l01Gcd.l0 : Nat → Int → Int → Option (Int)
  | 0, _, _ => none
  | k + 1, x0, x1 => if x1 = 0 then (some x0) else (spec_l01Gcd.l0 k x1 (Int.tmod x0 x1))
def spec_l01Gcd.f (k : Nat) (a0 : Int) (a1 : Int) : Option (Int) := spec_l01Gcd.l0 k a0 a1
theorem spec_l01Gcd.mono_l : ∀ k, (∀ y0 y1, LeO (spec_l01Gcd.l0 k y0 y1) (spec_l01Gcd.l0 (k + 1) y0 y1))
  | 0 => fun _ _ r h => by simp [spec_l01Gcd.l0] at h
  | k + 1 => by
    have ih0 := spec_l01Gcd.mono_l k
    · intro y0 y1
      unfold spec_l01Gcd.l0
      repeat' first
      | (with_reducible exact ih0 _ _)
      | (with_reducible exact LeO.refl _)
      | (with_reducible exact LeO.none _)
      | (with_reducible refine LeO.ite ?_ ?_)
      | (with_reducible refine LeO.bind ?_ (fun _ => ?_))
      | exact ih0 _ _
      | exact LeO.none _
      | refine LeO.ite ?_ ?_
      | refine LeO.bind ?_ (fun _ => ?_)
theorem spec_l01Gcd.mono : ∀ a0 a1 k, LeO (spec_l01Gcd.f k a0 a1) (spec_l01Gcd.f (k + 1) a0 a1) := by
  intro a0 a1 k
  have ih0 := spec_l01Gcd.mono_l k
  unfold spec_l01Gcd.f
  repeat' first
      | (with_reducible exact ih0 _ _)
      | (with_reducible exact LeO.refl _)
      | (with_reducible exact LeO.none _)
      | (with_reducible refine LeO.ite ?_ ?_)
      | (with_reducible refine LeO.bind ?_ (fun _ => ?_))
      | exact ih0 _ _
      | exact LeO.none _
      | refine LeO.ite ?_ ?_
      | refine LeO.bind ?_ (fun _ => ?_)
end Go.Proofs.Ytbpgfjoplbkgmaa.P
end
section
namespace Go.Proofs.Ytbpgfjoplbkgmaa.P
open Go.RowKit Go.Proofs.YtbpgfjoplbkgmaaW.PrintWords Go.Proofs.YtbpgfjoplbkgmaaW.PrintLast Go.Proofs.YtbpgfjoplbkgmaaW.PrintMore
attribute [local go_sem] max2_int min2_int max_two min_two max_three min_three max_four min_four   -- for this text's walks alone
set_option linter.unusedVariables false
set_option linter.unusedSimpArgs false
def spec_l01Lcm.f (k : Nat) (a0 : Int) (a1 : Int) : Option (Int) := (spec_l01Gcd.f k a0 a1).bind fun t101 => (if t101 = 0 then (none) else (some (wrap64 ((wrap64 (Int.tdiv a0 t101)) * a1))))
theorem spec_l01Lcm.mono : ∀ a0 a1 k, LeO (spec_l01Lcm.f k a0 a1) (spec_l01Lcm.f (k + 1) a0 a1) := by
  intro a0 a1 k
  unfold spec_l01Lcm.f
  repeat' first
      | (with_reducible exact spec_l01Gcd.mono _ _ _)
      | (with_reducible exact LeO.refl _)
      | (with_reducible exact LeO.none _)
      | (with_reducible refine LeO.ite ?_ ?_)
      | (with_reducible refine LeO.bind ?_ (fun _ => ?_))
      | exact spec_l01Gcd.mono _ _ _
      | exact LeO.none _
      | refine LeO.ite ?_ ?_
      | refine LeO.bind ?_ (fun _ => ?_)
end Go.Proofs.Ytbpgfjoplbkgmaa.P
end
section
namespace Go.Proofs.Ytbpgfjoplbkgmaa.Pure
open Go.RowKit Go.Proofs.Ytbpgfjoplbkgmaa.P Go.Proofs.YtbpgfjoplbkgmaaW.PrintWords Go.Proofs.YtbpgfjoplbkgmaaW.PrintLast Go.Proofs.YtbpgfjoplbkgmaaW.PrintMore
set_option linter.unusedVariables false
set_option linter.unusedSimpArgs false
/-- tasks: 1 to 8 gaps in 1..40 -/
def isTasks (l : List Int) : Bool := decide (1 ≤ (l.length : Int) ∧ (l.length : Int) ≤ 8) && l.all fun g => decide (1 ≤ g ∧ g ≤ 40)
theorem IsTasks_f (l : List Int) : impl_IsTasks.f l = some (isTasks l) := rfl
theorem isTasks_iff (l : List Int) : isTasks l = true ↔ (1 ≤ l.length ∧ l.length ≤ 8) ∧ (∀ x ∈ l, 1 ≤ x ∧ x ≤ 40) := by
  unfold isTasks
  rw [Bool.and_eq_true, List.all_eq_true, decide_eq_true_iff]
  simp only [decide_eq_true_iff]
  constructor
  · rintro ⟨h1, h2⟩; exact ⟨by omega, h2⟩
  · rintro ⟨h1, h2⟩; exact ⟨by omega, h2⟩
theorem l01Is_l0 (l : List Int) (hl : l.length ≤ 1048576) : ∀ d n : Nat, n + d = l.length → (l.take n).all (fun g => decide (1 ≤ g ∧ g ≤ 40)) = true → Ev (fun k => spec_l01Is.l0 k (n : Int) l) (isTasks l) := by
  intro d
  induction d with
  | zero =>
    intro n hn ha
    refine Ev.step (fun k => by rw [spec_l01Is.l0]) ?_
    refine ev_neg (by omega) (ev_fix (show spec_l01K.f l = some (l.length : Int) from rfl) (ev_fix (l01In_f _ _ _) (ev_is ?_)))
    rw [List.take_of_length_le (by omega)] at ha
    rw [isTasks, ha, Bool.and_true]
  | succ d ih =>
    intro n hn ha
    have hlt : n < l.length := by omega
    refine Ev.step (fun k => by rw [spec_l01Is.l0]) (ev_pos (by omega) (ev_pos (by omega) (ev_fix (l01In_f _ _ _) ?_)))
    rw [rd_nat hlt]
    cases hq : decide (1 ≤ l[n] ∧ l[n] ≤ 40) with
    | true =>
      refine ev_pos rfl ?_
      rw [wrap_succ (by omega)]
      exact ih (n + 1) (by omega) (by rw [all_take_succ _ _ _ hlt, ha, hq]; rfl)
    | false =>
      refine ev_neg (by simp) (ev_is ?_)
      rw [isTasks, all_false_at _ l n hlt hq, Bool.and_false]
theorem l01Is_ev (l : List Int) (hl : l.length ≤ 1048576) : Ev (fun k => spec_l01Is.f k l) (isTasks l) := by
  unfold spec_l01Is.f
  exact l01Is_l0 l hl l.length 0 (by omega) (by simp)
end Go.Proofs.Ytbpgfjoplbkgmaa.Pure
end
section
namespace Go.Proofs.Ytbpgfjoplbkgmaa.Pure
open Go.RowKit Go.Proofs.Ytbpgfjoplbkgmaa.P Go.Proofs.YtbpgfjoplbkgmaaW.PrintWords Go.Proofs.YtbpgfjoplbkgmaaW.PrintLast Go.Proofs.YtbpgfjoplbkgmaaW.PrintMore
set_option linter.unusedVariables false
set_option linter.unusedSimpArgs false
theorem tasksCode_f (G : List Int) : impl_tasksCode.f G true = some (if isTasks G = true then 0 else 1) := by
  unfold impl_tasksCode.f
  rw [IsTasks_f, Option.bind_some]
  cases isTasks G <;> rfl
end Go.Proofs.Ytbpgfjoplbkgmaa.Pure
end
section
namespace Go.Proofs.Ytbpgfjoplbkgmaa.Pure
open Go.RowKit Go.Proofs.Ytbpgfjoplbkgmaa.P Go.Proofs.YtbpgfjoplbkgmaaW.PrintWords Go.Proofs.YtbpgfjoplbkgmaaW.PrintLast Go.Proofs.YtbpgfjoplbkgmaaW.PrintMore
set_option linter.unusedVariables false
set_option linter.unusedSimpArgs false
theorem markTasks_ev (l : List Int) (hl : l.length ≤ 1048576) : Ev (fun k => laws_markTasks.f k l 1) (1 + (l.length : Int), upFrom 1 l.length) := by
  unfold laws_markTasks.f
  exact ev_bind (markInt64S_ev l 1 (by omega) (by omega)) (ev_now _)
end Go.Proofs.Ytbpgfjoplbkgmaa.Pure
end
section
namespace Go.Proofs.Ytbpgfjoplbkgmaa.Pure
open Go.RowKit Go.Proofs.Ytbpgfjoplbkgmaa.P Go.Proofs.YtbpgfjoplbkgmaaW.PrintWords Go.Proofs.YtbpgfjoplbkgmaaW.PrintLast Go.Proofs.YtbpgfjoplbkgmaaW.PrintMore
set_option linter.unusedVariables false
set_option linter.unusedSimpArgs false
theorem Less_f (a b : Int) : cmp_Less_int64.f a b = some (decide (a < b)) := by
  unfold cmp_Less_int64.f cmp_isNaN_int64.f
  rw [Option.bind_some, bne_self_eq_false]
  rfl
def inG (G l : List Int) : Prop := ∀ x ∈ l, 0 ≤ x ∧ x < (G.length : Int)
theorem rd_map (G l : List Int) (i : Int) (h0 : 0 ≤ i) (h : i < (l.length : Int)) : rd (l.map fun t => rd G t) i = rd G (rd l i) := by
  obtain ⟨n, rfl⟩ : ∃ n : Nat, i = n := ⟨i.toNat, by omega⟩
  rw [rd_nat (by rw [List.length_map]; omega), rd_nat (by omega), List.getElem_map]
theorem set_map (G l : List Int) (i : Nat) (x : Int) : (l.map fun t => rd G t).set i (rd G x) = (l.set i x).map fun t => rd G t := by
  rw [List.map_set]
theorem gapCmp_lt {G : List Int} (hG : ∀ x ∈ G, 1 ≤ x ∧ x ≤ 40) {x y : Int} (hx : 0 ≤ x ∧ x < (G.length : Int)) (hy : 0 ≤ y ∧ y < (G.length : Int)) : gapCmp G x y < 0 ↔ rd G x < rd G y := by
  have h1 := hG _ (rd_mem hx.1 hx.2)
  have h2 := hG _ (rd_mem hy.1 hy.2)
  unfold gapCmp
  rw [wrap_id (by omega) (by omega)]
  omega
theorem sim_sort {G : List Int} (hG : ∀ x ∈ G, 1 ≤ x ∧ x ≤ 40) : ∀ k : Nat,
    (∀ (l : List Int) (a b i : Int) (r : List Int), inG G l → insF.l0 (gapCmp G) k l a b i = some r → slices_insertionSortOrdered_int64.l0 k (l.map fun t => rd G t) a b i = some (r.map fun t => rd G t)) ∧
    (∀ (l : List Int) (a b i j : Int) (r : List Int), inG G l → insF.l1 (gapCmp G) k l a b i j = some r → slices_insertionSortOrdered_int64.l1 k (l.map fun t => rd G t) a b i j = some (r.map fun t => rd G t)) := by
  intro k
  induction k with
  | zero => exact ⟨fun l a b i r _ h => by simp [insF.l0] at h, fun l a b i j r _ h => by simp [insF.l1] at h⟩
  | succ k ih =>
    obtain ⟨ih0, ih1⟩ := ih
    constructor
    · intro l a b i r hl h
      rw [insF.l0] at h
      rw [slices_insertionSortOrdered_int64.l0]
      by_cases c : i < b
      · rw [if_pos c] at h ⊢
        exact ih1 _ _ _ _ _ _ hl h
      · rw [if_neg c] at h ⊢
        rw [Option.some.inj h]
    · intro l a b i j r hl h
      rw [insF.l1] at h
      rw [slices_insertionSortOrdered_int64.l1, List.length_map]
      by_cases c : j > a
      · rw [if_pos c] at h ⊢
        by_cases c1 : 0 ≤ j
        · rw [if_pos c1] at h ⊢
          by_cases c2 : j < (l.length : Int)
          · rw [if_pos c2] at h ⊢
            by_cases c3 : 0 ≤ wrap64 (j - 1)
            · rw [if_pos c3] at h ⊢
              by_cases c4 : wrap64 (j - 1) < (l.length : Int)
              · rw [if_pos c4] at h ⊢
                have m1 := hl _ (rd_mem c1 c2)
                have m2 := hl _ (rd_mem c3 c4)
                have hlt := gapCmp_lt hG m1 m2
                rw [rd_map G l _ c1 c2, rd_map G l _ c3 c4, Less_f, Option.bind_some]
                by_cases c5 : gapCmp G (rd l j) (rd l (wrap64 (j - 1))) < 0
                · rw [if_pos c5] at h
                  rw [decide_eq_true (hlt.1 c5), if_pos rfl]
                  by_cases c6 : wrap64 (j - 1) ≠ j
                  · rw [if_pos c6] at h
                    rw [set_map, set_map]
                    refine ih1 _ _ _ _ _ _ ?_ h
                    intro x hx
                    rcases mem_set2 hx with rfl | rfl | hx
                    · exact m2
                    · exact m1
                    · exact hl x hx
                  · rw [if_neg c6] at h
                    exact absurd h (by simp)
                · rw [if_neg c5] at h
                  rw [decide_eq_false (fun q => c5 (hlt.2 q)), if_neg (by simp)]
                  exact ih0 _ _ _ _ _ hl h
              · rw [if_neg c4] at h
                exact absurd h (by simp)
            · rw [if_neg c3] at h
              exact absurd h (by simp)
          · rw [if_neg c2] at h
            exact absurd h (by simp)
        · rw [if_neg c1] at h
          exact absurd h (by simp)
      · rw [if_neg c] at h ⊢
        exact ih0 _ _ _ _ _ hl h
theorem ev_map {α β : Type} {f : Nat → Option α} {g : Nat → Option β} {r : α} {s : β} (h : Ev f r) (k : ∀ n, f n = some r → g n = some s) : Ev g s := by
  obtain ⟨K, hK⟩ := h
  exact ⟨K, fun n hn => k n (hK n hn)⟩
/-- the gaps in ascending order -/
def srtG (G : List Int) : List Int := gapsBy G (ordF G G.length)
theorem srtG_length (G : List Int) : (srtG G).length = G.length := by
  unfold srtG gapsBy
  rw [List.length_map, ordF_length]
theorem sortVals_ev (G : List Int) (hG : ∀ x ∈ G, 1 ≤ x ∧ x ≤ 40) (h8 : 1 ≤ G.length ∧ G.length ≤ 8) : Ev (fun k => slices_insertionSortOrdered_int64.f k G 0 (G.length : Int)) (srtG G) := by
  have h := impl_ins_l0 G hG G.length (Nat.le_refl _) (by omega) (G.length - 1) 1 (by omega)
  have e : ordF G 1 ++ (List.range' 1 (G.length - 1)).map (fun (j : Nat) => (j : Int)) = (List.range' 0 G.length).map (fun (j : Nat) => (j : Int)) := by
    have := upTo_split 0 G.length (by omega)
    rw [Nat.sub_zero] at this
    rw [this]
    rfl
  rw [e] at h
  have hin : inG G ((List.range' 0 G.length).map fun (j : Nat) => (j : Int)) := fun x hx => by
    obtain ⟨j, hj, rfl⟩ := List.mem_map.1 hx
    have := List.mem_range'_1.1 hj
    omega
  have hmap : ((List.range' 0 G.length).map fun (j : Nat) => (j : Int)).map (fun t => rd G t) = G := by
    refine List.ext_getElem (by simp) fun i h1 h2 => ?_
    simp only [List.getElem_map, List.getElem_range', Nat.zero_add, Nat.one_mul]
    exact rd_nat h2
  refine ev_map h fun k hk => ?_
  unfold slices_insertionSortOrdered_int64.f
  have := (sim_sort hG k).1 _ _ _ _ _ hin hk
  rw [hmap] at this
  rw [wrap_id (x := 0 + 1) (by omega) (by omega)]
  exact this
end Go.Proofs.Ytbpgfjoplbkgmaa.Pure
end
section
namespace Go.Proofs.Ytbpgfjoplbkgmaa.Pure
open Go.RowKit Go.Proofs.Ytbpgfjoplbkgmaa.P Go.Proofs.YtbpgfjoplbkgmaaW.PrintWords Go.Proofs.YtbpgfjoplbkgmaaW.PrintLast Go.Proofs.YtbpgfjoplbkgmaaW.PrintMore
set_option linter.unusedVariables false
set_option linter.unusedSimpArgs false
def sortR (G : List Int) : List Int × List Int × Int := if isTasks G = true then (srtG G, ordF G G.length, 0) else ([], [], 1)
theorem sortR_len (G : List Int) : (sortR G).1.length ≤ 8 ∧ (sortR G).2.1.length ≤ 8 := by
  unfold sortR
  split
  · next ht =>
    obtain ⟨h8, _⟩ := (isTasks_iff G).1 ht
    refine ⟨?_, ?_⟩
    · show (srtG G).length ≤ 8
      rw [srtG_length]; omega
    · show (ordF G G.length).length ≤ 8
      rw [ordF_length]; omega
  · simp
theorem SortTasks_impl (G : List Int) : Ev (fun k => impl_SortTasks.f k G) (sortR G) := by
  unfold impl_SortTasks.f
  refine ev_fix (tasksCode_f G) ?_
  cases ht : isTasks G with
  | false =>
    have e : sortR G = ([], [], 1) := by rw [sortR, if_neg (fun q => by rw [ht] at q; exact absurd q (by simp))]
    rw [e]
    exact ev_neg (by simp) (ev_now _)
  | true =>
    obtain ⟨h8, hG⟩ := (isTasks_iff G).1 ht
    have e : sortR G = (srtG G, ordF G G.length, 0) := by rw [sortR, if_pos ht]
    rw [e]
    exact ev_pos rfl (ev_pos (by omega) (ev_bind (sortVals_ev G hG h8) (ev_bind (byGap_ev G hG h8) (ev_now _))))
theorem SortTasks_spec (G : List Int) (hl : G.length ≤ 1048576) : Ev (fun k => spec_SortTasks.f k G) (sortR G) := by
  unfold spec_SortTasks.f
  refine ev_bind (l01Is_ev G hl) ?_
  cases ht : isTasks G with
  | false =>
    have e : sortR G = ([], [], 1) := by rw [sortR, if_neg (fun q => by rw [ht] at q; exact absurd q (by simp))]
    rw [e]
    exact ev_neg (by simp) (ev_now _)
  | true =>
    obtain ⟨h8, hG⟩ := (isTasks_iff G).1 ht
    have e : sortR G = (srtG G, ordF G G.length, 0) := by rw [sortR, if_pos ht]
    rw [e]
    exact ev_pos rfl (ev_bind (l01Sorted_ev G hG h8.2) (ev_now _))
theorem heldTasks_ev (N : Nat) (hN : N ≤ 1048576) : Ev (fun k => laws_heldTasks.f k (upFrom 1 N) 1) (1 + (N : Int)) := by
  unfold laws_heldTasks.f
  exact ev_bind (heldInt64S_ev 1 (by omega) N (by omega)) (ev_neg (by omega) (ev_now _))
theorem SortTasks_j2 (N M : Nat) (hN : N ≤ 8) (hM : M ≤ 8) : Ev (fun k => laws_FnExactSortTasks.j2 k (upFrom (1 + (N : Int)) M) (1 + (N : Int) + (M : Int)) false (upFrom 1 N)) true := by
  refine Ev.step (fun k => by rw [laws_FnExactSortTasks.j2]) ?_
  refine ev_neg (by simp) ?_
  refine ev_bind (heldTasks_ev N (by omega)) ?_
  refine ev_neg ?_ ?_
  · show ¬ (1 + (N : Int) < 0); omega
  refine ev_bind (heldInt64S_ev (1 + (N : Int)) (by omega) M (by omega)) ?_
  refine ev_neg ?_ ?_
  · show ¬ (1 + (N : Int) + (M : Int) < 0); omega
  exact ev_pos rfl (ev_now _)
theorem SortTasks_j1 (l : List Int) (hl : l.length ≤ 1048576) : Ev (fun k => laws_FnExactSortTasks.j1 k (sortR l).2.1 (sortR l).2.2 (sortR l).2.1 false l (sortR l).1 (sortR l).1) true := by
  obtain ⟨h1, h2⟩ := sortR_len l
  refine Ev.step (fun k => by rw [laws_FnExactSortTasks.j1]) ?_
  refine ev_neg (by simp) ?_
  refine ev_bind (markTasks_ev (sortR l).1 (by omega)) ?_
  refine ev_bind (markInt64S_ev (sortR l).2.1 _ (by omega) (by omega)) ?_
  refine ev_bind (heldTasks_ev (sortR l).1.length (by omega)) ?_
  refine ev_neg ?_ ?_
  · show ¬ (1 + ((sortR l).1.length : Int) < 0); omega
  refine ev_bind (heldInt64S_ev (1 + ((sortR l).1.length : Int)) (by omega) (sortR l).2.1.length (by omega)) ?_
  refine ev_neg ?_ ?_
  · show ¬ (1 + ((sortR l).1.length : Int) + ((sortR l).2.1.length : Int) < 0); omega
  refine ev_pos rfl ?_
  refine ev_bind (toTasks_ev l hl) ?_
  refine ev_bind (SortTasks_impl l) ?_
  refine ev_bind (eqTasks_ev (sortR l).1 (by omega)) (ev_pos rfl ?_)
  refine ev_bind (eqInt64S_ev (sortR l).2.1 (by omega)) (ev_pos rfl ?_)
  rw [bne_self_eq_false]
  exact SortTasks_j2 _ _ h1 h2
theorem SortTasks_j0 (l : List Int) (hl : l.length ≤ 1048576) : Ev (fun k => laws_FnExactSortTasks.j0 k (sortR l).2.1 (sortR l).2.2 (sortR l).2.1 (sortR l).2.2 false l (sortR l).1 l (sortR l).1) true := by
  obtain ⟨h1, h2⟩ := sortR_len l
  refine Ev.step (fun k => by rw [laws_FnExactSortTasks.j0]) ?_
  refine ev_neg (by simp) ?_
  refine ev_bind (toTasks_ev l hl) ?_
  refine ev_bind (eqTasks_ev l hl) (ev_pos rfl ?_)
  refine ev_bind (markTasks_ev l hl) ?_
  refine ev_neg ?_ ?_
  · show ¬ (1 + (l.length : Int) < 0); omega
  refine ev_bind (eqTasks_ev (sortR l).1 (by omega)) (ev_pos rfl ?_)
  refine ev_bind (eqInt64S_ev (sortR l).2.1 (by omega)) (ev_pos rfl ?_)
  rw [bne_self_eq_false]
  exact SortTasks_j1 l hl
theorem FnExactSortTasks : laws_FnExactSortTasks.Pure := by
  intro l hl0
  refine ev_rounds (g := fun k => laws_FnExactSortTasks.f k l) ?_
  unfold laws_FnExactSortTasks.f
  obtain ⟨r, hr, h⟩ := szTasks_f l hl0.1
  refine ev_fix hr ?_
  rcases h with h | ⟨h0, hl⟩
  · exact ev_pos h (ev_now _)
  · obtain ⟨h1, h2⟩ := sortR_len l
    refine ev_neg (by omega) ?_
    refine ev_bind (toTasks_ev l hl) ?_
    refine ev_bind (SortTasks_spec l hl) ?_
    refine ev_bind (toTasks_ev l hl) ?_
    refine ev_bind (SortTasks_impl l) ?_
    refine ev_bind (eqTasks_ev (sortR l).1 (by omega)) (ev_pos rfl ?_)
    refine ev_bind (eqInt64S_ev (sortR l).2.1 (by omega)) (ev_pos rfl ?_)
    rw [bne_self_eq_false]
    exact SortTasks_j0 l hl
end Go.Proofs.Ytbpgfjoplbkgmaa.Pure
end
section
namespace Go.Proofs.Ytbpgfjoplbkgmaa.fnExactSortTasks
open Go.ChangeShapes Go.WideShapes Go.ChangeAt Go.RowKit Go.Deep Go.Proofs.Ytbpgfjoplbkgmaa.P
open Go.ChangeMaps (open_string shut_string)
set_option linter.unusedVariables false
theorem own : ownKnob Try.prog.godebug = none := by kernel_rfl
theorem laidOut : laidOutB Try.prog = true := by kernel_rfl
set_option maxRecDepth 100000 in
theorem lifted (os : Os) (started : os.Started) (H : Type) (enc : TypeId × Value → H) :
    ReturnsInHanded {} Try.checked os 6 .any (Rows.fnExactSortTasksSpec.pre6 enc Try.prog Try.f6 Rows.fnExactSortTasksRow.domain false) (Rows.fnExactSortTasksSpec.post enc Try.prog Try.f6 false true false false) := by
  refine returnsInHanded_of_change_sized (C := Try.checked) own started (by kernel_rfl) Try.func6
    (ChangeSpec.witness6 (enc := enc) (C := Try.checked) false ⟨#[], #[.agg #[.slice none 0 0]], []⟩ 8 (by kernel_rfl) (by kernel_rfl) (by kernel_rfl) (by kernel_rfl)) ?_
  intro W base args ds gs before hval0 hW hcnd hsz0 _
  have hsz : (DataW.weightsEach Try.prog (Try.f6.params.toList ++ Rows.fnExactSortTasksSpec.plain.varTypes Try.prog) (ds ++ gs)).all (· ≤ reachBytes) = true := hsz0
  have hval : ∀ (j : Nat) t v, Try.f6.params[j]? = some t → args[j]? = some v → Value.okWide Try.prog W .any base t v := hval0
  have hW' := hW
  obtain ⟨p, q, hA0, hV, rfl, hfz, hnd⟩ := hW
  have hA : DataW.TrodAll enc Try.prog W 0 (fun _ => true) true Try.f6.params.toList args.toList ds p := hA0
  rw [Try.params6] at hA hval hsz
  obtain ⟨v0, vs0, d0, ds0, p0, q0, hargs, rfl, rfl, h0, r0⟩ := trodAll_cons hA
  obtain ⟨rfl, rfl, rfl⟩ := trodAll_nil r0
  obtain rfl : args = #[v0] := by cases args; simp_all
  obtain ⟨rfl, rfl⟩ := trodVars_none hV
  have k0 := h0
  have lt0 : ∀ x ∈ p0, x.block < W.heap.size := by obtain ⟨m, hm⟩ := k0; exact DataW.trod_lt m _ _ _ hm
  obtain ⟨v0_0, y0_0, n0, rfl, t0_0⟩ := agg1 Try.underlying56 (by kernel_rfl) (by kernel_rfl) (hval 0 56 v0 rfl rfl) h0
  obtain ⟨l0_0, e0_0, w0_0⟩ := open_cell (opens_slice (opens_int Try.underlying2) Try.underlying24 (by kernel_rfl) rfl) t0_0
  obtain ⟨A0_0, c0_0, rfl, hc0_0, hr0_0⟩ := row_cell e0_0
  clear hA0 hval0 hsz0 hsz
  refine (P.laws_FnExactSortTasks.walk Pure.FnExactSortTasks A0_0 c0_0 l0_0 W hr0_0 hc0_0 w0_0).mono fun e W' ⟨he, bel⟩ => ?_
  subst he
  exact ⟨_, rfl, _, _, _, [], _, [], hW', trodAll_mk1 (shut_bool Try.underlying4 _), (trodAll_cons_mk (Below.trod laidOut (by kernel_rfl) (of_decide_eq_true (by kernel_rfl)) k0 bel lt0) trodAll_mk0), rfl, bel.frame _, fun h => by cases h⟩
theorem over : Rows.fnExactSortTasksRow.holds Try.pinned (OpenSpec.ofChange Rows.fnExactSortTasksSpec) :=
  OpenClaim.holds_of_wide 6 Try.f6 rfl rfl rfl rfl rfl rfl rfl ⟨rfl, rfl, rfl, rfl, rfl⟩ rfl rfl rfl rfl rfl (by kernel_rfl) Try.func6 (by kernel_rfl)
    (of_decide_eq_true (by kernel_rfl)) (by unfold Func.isWrapper; first | (rw [if_pos (by decide +kernel)]; kernel_rfl) | (rw [if_neg (by decide +kernel)]; exact ⟨rfl, rfl⟩))
    (fun os started H enc _ => lifted os started H enc)
theorem proved : Rows.FnExactSortTasksSaid := over
end Go.Proofs.Ytbpgfjoplbkgmaa.fnExactSortTasks
namespace Go.Proofs.Ytbpgfjoplbkgmaa
/-- The row, under a short name, for the claim. -/
theorem fnExactSortTasks_holds : Rows.FnExactSortTasksSaid := fnExactSortTasks.proved
end Go.Proofs.Ytbpgfjoplbkgmaa
end
