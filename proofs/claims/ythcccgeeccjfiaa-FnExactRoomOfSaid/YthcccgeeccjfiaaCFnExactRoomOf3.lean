/- The program's RoomOf returns what the reference's returns, for all jobs; no condition beside. -/
import Derived.Test.YthcccgeeccjfiaaCFnExactRoomOf2
import Derived.Test.YthcccgeeccjfiaaRows
namespace Go.Proofs.Ythcccgeeccjfiaa.P
open Go.RowKit Go.Proofs.YthcccgeeccjfiaaW.PrintWords Go.Proofs.YthcccgeeccjfiaaW.PrintLast Go.Proofs.YthcccgeeccjfiaaW.PrintMore
attribute [local go_sem] max2_int min2_int max_two min_two max_three min_three max_four min_four   -- for this text's walks alone
set_option linter.unusedVariables false
set_option linter.unusedSimpArgs false

-- PIECENAME within
theorem within_f (n lo hi : Int) : impl_within.f n lo hi = some (decide (lo ≤ n ∧ n ≤ hi)) := by
  unfold impl_within.f
  by_cases h : lo ≤ n
  · rw [if_pos h]; simp [h]
  · rw [if_neg h]; simp [h]
theorem within_yes {n lo hi : Int} (h : lo ≤ n ∧ n ≤ hi) : impl_within.f n lo hi = some true := by rw [within_f, decide_eq_true h]
theorem within_not {n lo hi : Int} (h : ¬ (lo ≤ n ∧ n ≤ hi)) : impl_within.f n lo hi = some false := by rw [within_f, decide_eq_false h]


end Go.Proofs.Ythcccgeeccjfiaa.P

namespace Go.Proofs.Ythcccgeeccjfiaa.Pure
open Go.RowKit Go.Proofs.Ythcccgeeccjfiaa.P Go.Proofs.YthcccgeeccjfiaaW.PrintWords Go.Proofs.YthcccgeeccjfiaaW.PrintLast Go.Proofs.YthcccgeeccjfiaaW.PrintMore
set_option linter.unusedVariables false
set_option linter.unusedSimpArgs false
theorem l01In_f (n lo hi : Int) : spec_l01In.f n lo hi = some (decide (lo ≤ n ∧ n ≤ hi)) := by
  unfold spec_l01In.f
  by_cases h : n ≥ lo
  · rw [if_pos h]; simp [show lo ≤ n from h]
  · rw [if_neg h]; simp [show ¬ lo ≤ n from h]
theorem all_take_succ {α : Type} (p : α → Bool) (l : List α) (n : Nat) (h : n < l.length) : (l.take (n + 1)).all p = ((l.take n).all p && p l[n]) := by
  rw [List.take_succ_eq_append_getElem h, List.all_append]; simp
theorem all_false_at {α : Type} (p : α → Bool) (l : List α) (n : Nat) (h : n < l.length) (hp : p l[n] = false) : l.all p = false := by
  rw [Bool.eq_false_iff]
  intro ha
  rw [List.all_eq_true] at ha
  rw [ha _ (List.getElem_mem h)] at hp
  cases hp
end Go.Proofs.Ythcccgeeccjfiaa.Pure

namespace Go.Proofs.Ythcccgeeccjfiaa.Pure
open Go.RowKit Go.Proofs.Ythcccgeeccjfiaa.P Go.Proofs.YthcccgeeccjfiaaW.PrintWords Go.Proofs.YthcccgeeccjfiaaW.PrintLast Go.Proofs.YthcccgeeccjfiaaW.PrintMore
set_option linter.unusedVariables false
set_option linter.unusedSimpArgs false
def jobOk (L P D : List Int) (i : Nat) : Bool := decide (1 ≤ rd P i ∧ rd P i ≤ 60) && (decide (1 ≤ rd L i ∧ rd L i ≤ 20) && decide (1 ≤ rd D i ∧ rd D i ≤ rd P i))
def isJobs (L P D : List Int) : Bool := decide (1 ≤ (L.length : Int) ∧ (L.length : Int) ≤ 8) && (decide (P.length = L.length ∧ D.length = L.length) && (List.range' 0 L.length).all (jobOk L P D))
theorem isJobs_len {L P D : List Int} (h : isJobs L P D = true) : 1 ≤ L.length ∧ L.length ≤ 8 ∧ P.length = L.length ∧ D.length = L.length := by
  simp only [isJobs, Bool.and_eq_true, decide_eq_true_iff] at h
  omega
theorem isJobs_at {L P D : List Int} (h : isJobs L P D = true) {i : Nat} (hi : i < L.length) : (1 ≤ rd P i ∧ rd P i ≤ 60) ∧ (1 ≤ rd L i ∧ rd L i ≤ 20) ∧ (1 ≤ rd D i ∧ rd D i ≤ rd P i) := by
  simp only [isJobs, Bool.and_eq_true, List.all_eq_true] at h
  have h1 := h.2.2 i (by simp; omega)
  simp only [jobOk, Bool.and_eq_true, decide_eq_true_iff] at h1
  exact h1
theorem l04Is_l0 (L P D : List Int) (hl : L.length ≤ 8) (hP : P.length = L.length) (hD : D.length = L.length) : ∀ d n : Nat, n + d = L.length →
    Ev (fun k => spec_l04Is.l0 k (L.length : Int) (n : Int) L P D) ((List.range' n d).all (jobOk L P D)) := by
  intro d
  induction d with
  | zero =>
    intro n hn
    refine Ev.step (fun k => by rw [spec_l04Is.l0]) ?_
    exact ev_neg (by omega) (ev_now true)
  | succ d ih =>
    intro n hn
    refine Ev.step (fun k => by rw [spec_l04Is.l0]) ?_
    refine ev_pos (by omega) (ev_pos (by omega) (ev_pos (by omega) (ev_fix (l01In_f _ _ _) ?_)))
    rw [List.range'_succ, List.all_cons, jobOk]
    cases h1 : decide (1 ≤ rd L n ∧ rd L n ≤ 20) with
    | false => exact ev_neg (by simp) (ev_is (by simp))
    | true =>
      refine ev_pos rfl (ev_pos (by omega) (ev_fix (l01In_f _ _ _) ?_))
      cases h2 : decide (1 ≤ rd P n ∧ rd P n ≤ 60) with
      | false => exact ev_neg (by simp) (ev_is (by simp))
      | true =>
        refine ev_pos rfl (ev_pos (by omega) (ev_fix (l01In_f _ _ _) ?_))
        cases h3 : decide (1 ≤ rd D n ∧ rd D n ≤ rd P n) with
        | false => exact ev_neg (by simp) (ev_is (by simp))
        | true =>
          refine ev_pos rfl ?_
          rw [wrap_succ (by omega)]
          simpa using ih (n + 1) (by omega)
theorem l04Is_ev (L P D : List Int) : Ev (fun k => spec_l04Is.f k L P D) (isJobs L P D) := by
  unfold spec_l04Is.f isJobs
  have hno : Ev (fun k => spec_l04Is.j0 k (L.length : Int) true L P D) false := by
    refine Ev.step (fun k => by rw [spec_l04Is.j0]) ?_
    exact ev_pos rfl (ev_now _)
  by_cases h1 : (L.length : Int) < 1
  · refine ev_pos h1 ?_
    rw [decide_eq_false (by omega), Bool.false_and]
    exact hno
  · refine ev_neg h1 ?_
    by_cases h8 : (L.length : Int) > 8
    · refine ev_pos h8 ?_
      rw [decide_eq_false (by omega), Bool.false_and]
      exact hno
    · refine ev_neg h8 ?_
      rw [decide_eq_true (show 1 ≤ (L.length : Int) ∧ (L.length : Int) ≤ 8 by omega), Bool.true_and]
      by_cases hP : (P.length : Int) = (L.length : Int)
      · refine ev_pos hP ?_
        by_cases hD : (D.length : Int) = (L.length : Int)
        · rw [hD, bne_self_eq_false, decide_eq_true (show P.length = L.length ∧ D.length = L.length by omega), Bool.true_and]
          refine Ev.step (fun k => by rw [spec_l04Is.j0]) ?_
          exact ev_neg (by simp) (l04Is_l0 L P D (by omega) (by omega) (by omega) L.length 0 (by omega))
        · rw [bne_iff_ne.2 hD, decide_eq_false (show ¬ (P.length = L.length ∧ D.length = L.length) by omega), Bool.false_and]
          exact hno
      · refine ev_neg hP ?_
        rw [decide_eq_false (show ¬ (P.length = L.length ∧ D.length = L.length) by omega), Bool.false_and]
        exact hno
theorem AreJobs_l0 (L P D : List Int) (hl : L.length ≤ 8) (hP : P.length = L.length) (hD : D.length = L.length) : ∀ d n : Nat, n + d = L.length →
    Ev (fun k => impl_AreJobs.l0 k P (P.length : Int) (n : Int) L P D) ((List.range' n d).all (jobOk L P D)) := by
  intro d
  induction d with
  | zero =>
    intro n hn
    refine Ev.step (fun k => by rw [impl_AreJobs.l0]) ?_
    exact ev_neg (by omega) (ev_now true)
  | succ d ih =>
    intro n hn
    refine Ev.step (fun k => by rw [impl_AreJobs.l0]) ?_
    refine ev_pos (by omega) (ev_pos (by omega) (ev_pos (by omega) (ev_fix (within_f _ _ _) ?_)))
    rw [List.range'_succ, List.all_cons, jobOk]
    cases h2 : decide (1 ≤ rd P n ∧ rd P n ≤ 60) with
    | false => exact ev_neg (by simp) (ev_is (by simp))
    | true =>
      refine ev_pos rfl (ev_pos (by omega) (ev_fix (within_f _ _ _) ?_))
      cases h1 : decide (1 ≤ rd L n ∧ rd L n ≤ 20) with
      | false => exact ev_neg (by simp) (ev_is (by simp))
      | true =>
        refine ev_pos rfl (ev_pos (by omega) (ev_fix (within_f _ _ _) ?_))
        cases h3 : decide (1 ≤ rd D n ∧ rd D n ≤ rd P n) with
        | false => exact ev_neg (by simp) (ev_is (by simp))
        | true =>
          refine ev_pos rfl ?_
          rw [wrap_succ (by omega)]
          simpa using ih (n + 1) (by omega)
theorem AreJobs_ev (L P D : List Int) : Ev (fun k => impl_AreJobs.f k L P D) (isJobs L P D) := by
  unfold impl_AreJobs.f isJobs
  have hno : Ev (fun k => impl_AreJobs.j0 k true L P D) false := by
    refine Ev.step (fun k => by rw [impl_AreJobs.j0]) ?_
    exact ev_pos rfl (ev_now _)
  refine ev_fix (show impl_Jobs_many.f L P D = some (L.length : Int) from rfl) (ev_fix (within_f _ _ _) ?_)
  cases h1 : decide (1 ≤ (L.length : Int) ∧ (L.length : Int) ≤ 8) with
  | false => exact ev_neg (by simp) (by rw [Bool.false_and]; exact hno)
  | true =>
    have h2 := of_decide_eq_true h1
    refine ev_pos rfl ?_
    rw [Bool.true_and]
    by_cases hP : (P.length : Int) = (L.length : Int)
    · refine ev_pos hP ?_
      by_cases hD : (D.length : Int) = (L.length : Int)
      · rw [hD, bne_self_eq_false, decide_eq_true (show P.length = L.length ∧ D.length = L.length by omega), Bool.true_and]
        refine Ev.step (fun k => by rw [impl_AreJobs.j0]) ?_
        refine ev_neg (by simp) ?_
        exact AreJobs_l0 L P D (by omega) (by omega) (by omega) L.length 0 (by omega)
      · rw [bne_iff_ne.2 hD, decide_eq_false (show ¬ (P.length = L.length ∧ D.length = L.length) by omega), Bool.false_and]
        exact hno
    · refine ev_neg hP ?_
      rw [decide_eq_false (show ¬ (P.length = L.length ∧ D.length = L.length) by omega), Bool.false_and]
      exact hno
end Go.Proofs.Ythcccgeeccjfiaa.Pure

namespace Go.Proofs.Ythcccgeeccjfiaa.Pure
open Go.RowKit Go.Proofs.Ythcccgeeccjfiaa.P Go.Proofs.YthcccgeeccjfiaaW.PrintWords Go.Proofs.YthcccgeeccjfiaaW.PrintLast Go.Proofs.YthcccgeeccjfiaaW.PrintMore
set_option linter.unusedVariables false
set_option linter.unusedSimpArgs false
/-- what the job i asks up to n slots -/
def dem1 (L P D : List Int) (n : Int) (i : Nat) : Int := if n ≥ rd D i then rd L i * (Int.tdiv (n - rd D i) (rd P i) + 1) else 0
def demTo (L P D : List Int) (n : Int) : Nat → Int
  | 0 => 0
  | i + 1 => demTo L P D n i + dem1 L P D n i
theorem tdiv_bounds {a b : Int} (ha : 0 ≤ a) (hb : 1 ≤ b) : 0 ≤ Int.tdiv a b ∧ Int.tdiv a b ≤ a := by
  rw [Int.tdiv_eq_ediv_of_nonneg ha]
  exact ⟨Int.ediv_nonneg ha (by omega), Int.ediv_le_self _ ha⟩
theorem mul_bounds {a b A B : Int} (ha : 0 ≤ a ∧ a ≤ A) (hb : 0 ≤ b ∧ b ≤ B) : 0 ≤ a * b ∧ a * b ≤ A * B := by
  refine ⟨Int.mul_nonneg ha.1 hb.1, ?_⟩
  exact Int.le_trans (Int.mul_le_mul_of_nonneg_right ha.2 hb.1) (Int.mul_le_mul_of_nonneg_left hb.2 (by omega))
theorem dem1_bounds {L P D : List Int} (h : isJobs L P D = true) {n : Int} (hn : 0 ≤ n ∧ n ≤ 1000) {i : Nat} (hi : i < L.length) : 0 ≤ dem1 L P D n i ∧ dem1 L P D n i ≤ 20020 := by
  have h1 := isJobs_at h hi
  unfold dem1
  split
  · have h2 := tdiv_bounds (a := n - rd D i) (b := rd P i) (by omega) (by omega)
    have h3 := mul_bounds (a := rd L i) (b := Int.tdiv (n - rd D i) (rd P i) + 1) (A := 20) (B := 1001) (by omega) (by omega)
    omega
  · omega
theorem demTo_bounds {L P D : List Int} (h : isJobs L P D = true) {n : Int} (hn : 0 ≤ n ∧ n ≤ 1000) : ∀ i : Nat, i ≤ L.length → 0 ≤ demTo L P D n i ∧ demTo L P D n i ≤ 20020 * i := by
  intro i
  induction i with
  | zero => intro _; simp [demTo]
  | succ i ih =>
    intro hi
    have h1 := ih (by omega)
    have h2 := dem1_bounds h hn (i := i) (by omega)
    rw [demTo]
    omega
theorem l04Demand_l0 (L P D : List Int) (h : isJobs L P D = true) (n : Int) (hn : 0 ≤ n ∧ n ≤ 1000) : ∀ d i : Nat, i + d = L.length →
    Ev (fun k => spec_l04Demand.l0 k n (demTo L P D n i) (i : Int) L P D) (demTo L P D n L.length) := by
  have hlen := isJobs_len h
  intro d
  induction d with
  | zero =>
    intro i hi
    obtain rfl : i = L.length := by omega
    refine Ev.step (fun k => by rw [spec_l04Demand.l0]) ?_
    exact ev_neg (by omega) (ev_now _)
  | succ d ih =>
    intro i hi
    have h1 := isJobs_at h (i := i) (by omega)
    have h2 := demTo_bounds h hn i (by omega)
    have hih := ih (i + 1) (by omega)
    rw [demTo] at hih
    refine Ev.step (fun k => by rw [spec_l04Demand.l0]) ?_
    refine ev_pos (by omega) (ev_pos (by omega) (ev_pos (by omega) ?_))
    rw [wrap_succ (by omega)]
    unfold dem1 at hih
    by_cases hd : n ≥ rd D i
    · rw [if_pos hd] at hih
      have h3 := tdiv_bounds (a := n - rd D i) (b := rd P i) (by omega) (by omega)
      have h4 := mul_bounds (a := rd L i) (b := Int.tdiv (n - rd D i) (rd P i) + 1) (A := 20) (B := 1001) (by omega) (by omega)
      refine ev_pos hd (ev_pos (by omega) (ev_neg (by omega) ?_))
      rw [wrap_id (x := n - rd D i) (by omega) (by omega), wrap_id (x := Int.tdiv (n - rd D i) (rd P i)) (by omega) (by omega), wrap_id (x := Int.tdiv (n - rd D i) (rd P i) + 1) (by omega) (by omega), Int.mul_comm, wrap_id (x := rd L i * (Int.tdiv (n - rd D i) (rd P i) + 1)) (by omega) (by omega), wrap_id (by omega) (by omega)]
      exact hih
    · rw [if_neg hd, Int.add_zero] at hih
      exact ev_neg hd hih
theorem l04Demand_ev (L P D : List Int) (h : isJobs L P D = true) (n : Int) (hn : 0 ≤ n ∧ n ≤ 1000) : Ev (fun k => spec_l04Demand.f k L P D n) (demTo L P D n L.length) := by
  unfold spec_l04Demand.f
  exact l04Demand_l0 L P D h n hn L.length 0 (by omega)
theorem demand_l0 (L P D : List Int) (h : isJobs L P D = true) (n : Int) (hn : 0 ≤ n ∧ n ≤ 1000) : ∀ d i : Nat, i + d = L.length →
    Ev (fun k => impl_Jobs_demand.l0 k n (demTo L P D n i) D (D.length : Int) (i : Int) L P D) (demTo L P D n L.length) := by
  have hlen := isJobs_len h
  intro d
  induction d with
  | zero =>
    intro i hi
    obtain rfl : i = L.length := by omega
    refine Ev.step (fun k => by rw [impl_Jobs_demand.l0]) ?_
    exact ev_neg (by omega) (ev_now _)
  | succ d ih =>
    intro i hi
    have h1 := isJobs_at h (i := i) (by omega)
    have h2 := demTo_bounds h hn i (by omega)
    have hih := ih (i + 1) (by omega)
    rw [demTo] at hih
    refine Ev.step (fun k => by rw [impl_Jobs_demand.l0]) ?_
    refine ev_pos (by omega) (ev_pos (by omega) (ev_pos (by omega) ?_))
    rw [wrap_succ (by omega)]
    unfold dem1 at hih
    by_cases hd : n ≥ rd D i
    · rw [if_pos hd] at hih
      have h3 := tdiv_bounds (a := n - rd D i) (b := rd P i) (by omega) (by omega)
      have h4 := mul_bounds (a := rd L i) (b := Int.tdiv (n - rd D i) (rd P i) + 1) (A := 20) (B := 1001) (by omega) (by omega)
      refine ev_pos hd (ev_pos (by omega) (ev_pos (by omega) (ev_neg (by omega) ?_)))
      rw [wrap_id (x := n - rd D i) (by omega) (by omega), wrap_id (x := Int.tdiv (n - rd D i) (rd P i)) (by omega) (by omega), wrap_id (x := Int.tdiv (n - rd D i) (rd P i) + 1) (by omega) (by omega), wrap_id (x := rd L i * (Int.tdiv (n - rd D i) (rd P i) + 1)) (by omega) (by omega), wrap_id (by omega) (by omega)]
      exact hih
    · rw [if_neg hd, Int.add_zero] at hih
      exact ev_neg hd hih
theorem demand_ev (L P D : List Int) (h : isJobs L P D = true) (n : Int) (hn : 0 ≤ n ∧ n ≤ 1000) : Ev (fun k => impl_Jobs_demand.f k L P D n) (demTo L P D n L.length) := by
  unfold impl_Jobs_demand.f
  exact demand_l0 L P D h n hn L.length 0 (by omega)
end Go.Proofs.Ythcccgeeccjfiaa.Pure

namespace Go.Proofs.Ythcccgeeccjfiaa.Pure
open Go.RowKit Go.Proofs.Ythcccgeeccjfiaa.P Go.Proofs.YthcccgeeccjfiaaW.PrintWords Go.Proofs.YthcccgeeccjfiaaW.PrintLast Go.Proofs.YthcccgeeccjfiaaW.PrintMore
set_option linter.unusedVariables false
set_option linter.unusedSimpArgs false
theorem tdiv_nat (m n : Nat) : Int.tdiv (m : Int) (n : Int) = ((m / n : Nat) : Int) := rfl
theorem tmod_nat' (m n : Nat) : Int.tmod (m : Int) (n : Int) = ((m % n : Nat) : Int) := rfl
theorem gcd_step (a b : Nat) (h : b ≠ 0) : Nat.gcd a b = Nat.gcd b (a % b) := by
  rw [Nat.gcd_comm a b, Nat.gcd_rec b a, Nat.gcd_comm]
theorem divisor_l0 : ∀ (b a : Nat), Ev (fun k => impl_divisor.l0 k (a : Int) (b : Int)) ((Nat.gcd a b : Nat) : Int) := by
  intro b
  induction b using Nat.strongRecOn with
  | _ b ih =>
    intro a
    refine Ev.step (fun k => by rw [impl_divisor.l0]) ?_
    by_cases h : b = 0
    · subst h
      refine ev_pos rfl ?_
      rw [Nat.gcd_zero_right]
      exact ev_now _
    · refine ev_neg (by omega) ?_
      rw [tmod_nat', gcd_step a b h]
      exact ih (a % b) (Nat.mod_lt _ (by omega)) b
theorem divisor_ev (a b : Nat) : Ev (fun k => impl_divisor.f k (a : Int) (b : Int)) ((Nat.gcd a b : Nat) : Int) := by
  unfold impl_divisor.f
  exact divisor_l0 b a
theorem l01Gcd_l0 : ∀ (b a : Nat), Ev (fun k => spec_l01Gcd.l0 k (a : Int) (b : Int)) ((Nat.gcd a b : Nat) : Int) := by
  intro b
  induction b using Nat.strongRecOn with
  | _ b ih =>
    intro a
    refine Ev.step (fun k => by rw [spec_l01Gcd.l0]) ?_
    by_cases h : b = 0
    · subst h
      refine ev_pos rfl ?_
      rw [Nat.gcd_zero_right]
      exact ev_now _
    · refine ev_neg (by omega) ?_
      rw [tmod_nat', gcd_step a b h]
      exact ih (a % b) (Nat.mod_lt _ (by omega)) b
theorem l01Gcd_ev (a b : Nat) : Ev (fun k => spec_l01Gcd.f k (a : Int) (b : Int)) ((Nat.gcd a b : Nat) : Int) := by
  unfold spec_l01Gcd.f
  exact l01Gcd_l0 b a
theorem lcm_div (a b : Nat) : a / Nat.gcd a b * b = Nat.lcm a b := by
  rw [Nat.lcm, Nat.mul_comm a b, Nat.mul_div_assoc _ (Nat.gcd_dvd_left a b), Nat.mul_comm]
theorem lcm_le (a b : Nat) : Nat.lcm a b ≤ a * b := by
  rw [← lcm_div]; exact Nat.mul_le_mul_right _ (Nat.div_le_self _ _)
theorem lcm_ge {a b : Nat} (ha : 0 < a) (hb : 0 < b) : a ≤ Nat.lcm a b := Nat.le_of_dvd (Nat.lcm_pos ha hb) (Nat.dvd_lcm_left a b)
theorem l01Lcm_ev (a b : Nat) (ha : 0 < a) (h : a * b ≤ 9223372036854775807) : Ev (fun k => spec_l01Lcm.f k (a : Int) (b : Int)) ((Nat.lcm a b : Nat) : Int) := by
  unfold spec_l01Lcm.f
  have hg : 0 < Nat.gcd a b := Nat.gcd_pos_of_pos_left _ ha
  refine ev_bind (l01Gcd_ev a b) (ev_neg (by omega) (ev_is ?_))
  have h0 : b = 0 ∨ a ≤ a * b := by
    rcases Nat.eq_zero_or_pos b with h0 | h0
    · exact .inl h0
    · exact .inr (Nat.le_mul_of_pos_right _ h0)
  have h1 := Nat.div_le_self a (Nat.gcd a b)
  have h2 := lcm_le a b
  rw [tdiv_nat]
  rcases h0 with h0 | h0
  · subst h0
    rw [Int.natCast_zero, Int.mul_zero, Nat.lcm_zero_right]
    decide +kernel
  · rw [wrap_nat (Nat.le_trans h1 (Nat.le_trans h0 h)), ← Int.natCast_mul, lcm_div, wrap_nat (Nat.le_trans h2 h)]
end Go.Proofs.Ythcccgeeccjfiaa.Pure

namespace Go.Proofs.Ythcccgeeccjfiaa.Pure
open Go.RowKit Go.Proofs.Ythcccgeeccjfiaa.P Go.Proofs.YthcccgeeccjfiaaW.PrintWords Go.Proofs.YthcccgeeccjfiaaW.PrintLast Go.Proofs.YthcccgeeccjfiaaW.PrintMore
set_option linter.unusedVariables false
set_option linter.unusedSimpArgs false
/-- the least common multiple of a and the numbers of a list -/
def lcmN : Nat → List Int → Nat
  | a, [] => a
  | a, g :: l => lcmN (Nat.lcm a g.toNat) l
theorem lcmN_append (a : Nat) (l m : List Int) : lcmN a (l ++ m) = lcmN (lcmN a l) m := by
  induction l generalizing a with
  | nil => rfl
  | cons g l ih => simp only [List.cons_append, lcmN, ih]
theorem lcmN_take_succ (a : Nat) (l : List Int) (n : Nat) (h : n < l.length) : lcmN a (l.take (n + 1)) = Nat.lcm (lcmN a (l.take n)) (l[n]).toNat := by
  rw [List.take_succ_eq_append_getElem h, lcmN_append]; rfl
theorem lcmN_pos (a : Nat) (ha : 0 < a) (l : List Int) (h : ∀ x ∈ l, 1 ≤ x) : 0 < lcmN a l := by
  induction l generalizing a with
  | nil => exact ha
  | cons g l ih =>
    have := h g List.mem_cons_self
    exact ih _ (Nat.lcm_pos ha (by omega)) (fun x hx => h x (List.mem_cons_of_mem _ hx))
theorem lcmN_le (l : List Int) (h : ∀ x ∈ l, 1 ≤ x ∧ x ≤ 60) : ∀ a, lcmN a l ≤ a * 60 ^ l.length := by
  induction l with
  | nil => intro a; simp [lcmN]
  | cons g l ih =>
    intro a
    have h1 := h g List.mem_cons_self
    have h2 := ih (fun x hx => h x (List.mem_cons_of_mem _ hx)) (Nat.lcm a g.toNat)
    have h3 : Nat.lcm a g.toNat ≤ a * 60 := Nat.le_trans (lcm_le _ _) (Nat.mul_le_mul_left _ (by omega))
    refine Nat.le_trans h2 ?_
    rw [List.length_cons, Nat.pow_succ, Nat.mul_comm (60 ^ l.length) 60, ← Nat.mul_assoc]
    exact Nat.mul_le_mul_right _ h3
theorem lcmN_le8 {l : List Int} (h : ∀ x ∈ l, 1 ≤ x ∧ x ≤ 60) (hl : l.length ≤ 8) : lcmN 1 l ≤ 167961600000000 := by
  have h1 := lcmN_le l h 1
  have h2 : 60 ^ l.length ≤ 60 ^ 8 := Nat.pow_le_pow_right (by omega) hl
  omega
theorem lcmN_mono (a : Nat) (ha : 0 < a) (l : List Int) (h : ∀ x ∈ l, 1 ≤ x) : a ≤ lcmN a l := by
  induction l generalizing a with
  | nil => exact Nat.le_refl _
  | cons g l ih =>
    have := h g List.mem_cons_self
    refine Nat.le_trans (lcm_ge ha (show 0 < g.toNat by omega)) ?_
    exact ih _ (Nat.lcm_pos ha (by omega)) (fun x hx => h x (List.mem_cons_of_mem _ hx))
theorem dvd_lcmN_self (a : Nat) (l : List Int) : a ∣ lcmN a l := by
  induction l generalizing a with
  | nil => exact Nat.dvd_refl _
  | cons g l ih => exact Nat.dvd_trans (Nat.dvd_lcm_left _ _) (ih _)
theorem dvd_lcmN (a : Nat) (l : List Int) (x : Int) (hx : x ∈ l) : x.toNat ∣ lcmN a l := by
  induction l generalizing a with
  | nil => cases hx
  | cons g l ih =>
    rcases List.mem_cons.1 hx with rfl | hx
    · exact Nat.dvd_trans (Nat.dvd_lcm_right _ _) (dvd_lcmN_self _ _)
    · exact ih _ hx
theorem lcmN_dvd (a : Nat) (l : List Int) (m : Nat) (ha : a ∣ m) (h : ∀ x ∈ l, x.toNat ∣ m) : lcmN a l ∣ m := by
  induction l generalizing a with
  | nil => exact ha
  | cons g l ih => exact ih _ (Nat.lcm_dvd ha (h g List.mem_cons_self)) (fun x hx => h x (List.mem_cons_of_mem _ hx))
theorem multiple_l0 (l : List Int) (hl : l.length ≤ 8) (h : ∀ x ∈ l, 1 ≤ x ∧ x ≤ 60) : ∀ d n : Nat, n + d = l.length →
    Ev (fun k => impl_Tasks_multiple.l0 k ((lcmN 1 (l.take n) : Nat) : Int) l (l.length : Int) (n : Int)) ((lcmN 1 l : Nat) : Int) := by
  intro d
  induction d with
  | zero =>
    intro n hn
    rw [List.take_of_length_le (by omega)]
    refine Ev.step (fun k => by rw [impl_Tasks_multiple.l0]) ?_
    exact ev_neg (by omega) (ev_now _)
  | succ d ih =>
    intro n hn
    have hlt : n < l.length := by omega
    have hx := h _ (List.getElem_mem hlt)
    have hm : ∀ x ∈ l.take n, 1 ≤ x ∧ x ≤ 60 := fun x hx => h x (List.mem_of_mem_take hx)
    have hp := lcmN_pos 1 (by omega) (l.take n) (fun x hx => (hm x hx).1)
    have hb := lcmN_le8 hm (by rw [List.length_take]; omega)
    have hih := ih (n + 1) (by omega)
    rw [lcmN_take_succ _ _ _ hlt] at hih
    generalize lcmN 1 (l.take n) = a at hp hb hih ⊢
    obtain ⟨g, hg⟩ : ∃ g : Nat, l[n] = (g : Int) := ⟨(l[n]).toNat, by omega⟩
    rw [hg, Int.toNat_natCast] at hih
    rw [hg] at hx
    have hgp : 0 < Nat.gcd a g := Nat.gcd_pos_of_pos_left _ hp
    have h1 := Nat.div_le_self a (Nat.gcd a g)
    have h2 : Nat.lcm a g ≤ a * 60 := Nat.le_trans (lcm_le _ _) (Nat.mul_le_mul_left _ (by omega))
    refine Ev.step (fun k => by rw [impl_Tasks_multiple.l0]) ?_
    refine ev_pos (by omega) (ev_pos (by omega) (ev_pos (by omega) ?_))
    rw [rd_nat hlt, hg]
    refine ev_bind (divisor_ev a g) (ev_neg (by omega) ?_)
    rw [tdiv_nat, wrap_nat (Nat.le_trans h1 (by omega)), ← Int.natCast_mul, lcm_div, wrap_nat (Nat.le_trans h2 (by omega)), wrap_succ (by omega)]
    exact hih
theorem multiple_ev (l : List Int) (hl : l.length ≤ 8) (h : ∀ x ∈ l, 1 ≤ x ∧ x ≤ 60) : Ev (fun k => impl_Tasks_multiple.f k l) ((lcmN 1 l : Nat) : Int) := by
  unfold impl_Tasks_multiple.f
  exact multiple_l0 l hl h l.length 0 (by omega)
end Go.Proofs.Ythcccgeeccjfiaa.Pure

namespace Go.Proofs.Ythcccgeeccjfiaa.Pure
open Go.RowKit Go.Proofs.Ythcccgeeccjfiaa.P Go.Proofs.YthcccgeeccjfiaaW.PrintWords Go.Proofs.YthcccgeeccjfiaaW.PrintLast Go.Proofs.YthcccgeeccjfiaaW.PrintMore
set_option linter.unusedVariables false
set_option linter.unusedSimpArgs false
theorem isJobs_P {L P D : List Int} (h : isJobs L P D = true) : ∀ x ∈ P, 1 ≤ x ∧ x ≤ 60 := by
  intro x hx
  obtain ⟨i, hi, rfl⟩ := List.mem_iff_getElem.1 hx
  have hl := isJobs_len h
  have h1 := (isJobs_at h (i := i) (by omega)).1
  rwa [rd_nat hi] at h1
theorem whole_ev (L P D : List Int) (h : isJobs L P D = true) : Ev (fun k => impl_Jobs_whole.f k L P D) ((lcmN 1 P : Nat) : Int) := by
  unfold impl_Jobs_whole.f
  have hl := isJobs_len h
  exact ev_bind (multiple_ev P (by omega) (isJobs_P h)) (ev_now _)
/-- the reference's: it stops where it is greater than 240 -/
theorem l04Whole_l0 (L P D : List Int) (h : isJobs L P D = true) : ∀ d n : Nat, n + d = P.length →
    ∃ r : Nat, Ev (fun k => spec_l04Whole.l0 k ((lcmN 1 (P.take n) : Nat) : Int) (n : Int) L P D) (r : Int) ∧ (lcmN 1 P ≤ 240 → r = lcmN 1 P) ∧ (240 < lcmN 1 P → 240 < r) := by
  have hl := isJobs_len h
  have hP := isJobs_P h
  intro d
  induction d with
  | zero =>
    intro n hn
    rw [List.take_of_length_le (by omega)]
    refine ⟨lcmN 1 P, ?_, fun _ => rfl, fun h => h⟩
    refine Ev.step (fun k => by rw [spec_l04Whole.l0]) ?_
    exact ev_neg (by omega) (ev_now _)
  | succ d ih =>
    intro n hn
    have hlt : n < P.length := by omega
    have hx := hP _ (List.getElem_mem hlt)
    have hm : ∀ x ∈ P.take n, 1 ≤ x ∧ x ≤ 60 := fun x hx => hP x (List.mem_of_mem_take hx)
    have hp := lcmN_pos 1 (by omega) (P.take n) (fun x hx => (hm x hx).1)
    have hmono : lcmN 1 (P.take n) ≤ lcmN 1 P := by
      have e : P = P.take n ++ P.drop n := (List.take_append_drop n P).symm
      have : lcmN 1 P = lcmN (lcmN 1 (P.take n)) (P.drop n) := by rw [← lcmN_append, ← e]
      rw [this]
      exact lcmN_mono _ hp _ (fun x hx => (hP x (List.mem_of_mem_drop hx)).1)
    obtain ⟨r, hr, hr1, hr2⟩ := ih (n + 1) (by omega)
    rw [lcmN_take_succ _ _ _ hlt] at hr
    generalize lcmN 1 (P.take n) = a at hp hmono hr ⊢
    obtain ⟨g, hg⟩ : ∃ g : Nat, P[n] = (g : Int) := ⟨(P[n]).toNat, by omega⟩
    rw [hg, Int.toNat_natCast] at hr
    rw [hg] at hx
    by_cases ha : a ≤ 240
    · refine ⟨r, ?_, hr1, hr2⟩
      have hag : a * g ≤ 240 * 60 := Nat.mul_le_mul ha (by omega)
      refine Ev.step (fun k => by rw [spec_l04Whole.l0]) ?_
      refine ev_pos (by omega) (ev_pos (by omega) (ev_pos (by omega) ?_))
      rw [rd_nat hlt, hg]
      refine ev_bind (l01Lcm_ev a g hp (by omega)) ?_
      rw [wrap_succ (by omega)]
      exact hr
    · refine ⟨a, ?_, fun h => absurd h (by omega), fun _ => by omega⟩
      refine Ev.step (fun k => by rw [spec_l04Whole.l0]) ?_
      exact ev_pos (by omega) (ev_neg (by omega) (ev_now _))
theorem l04Whole_ev (L P D : List Int) (h : isJobs L P D = true) : ∃ r : Nat, Ev (fun k => spec_l04Whole.f k L P D) (r : Int) ∧ (lcmN 1 P ≤ 240 → r = lcmN 1 P) ∧ (240 < lcmN 1 P → 240 < r) := by
  unfold spec_l04Whole.f
  exact l04Whole_l0 L P D h P.length 0 (by omega)
/-- the code of jobs whose whole period has to be short -/
def shortCode (L P D : List Int) : Int := if isJobs L P D = true then (if lcmN 1 P ≤ 240 then 0 else 3) else 1
theorem l04Code_ev (L P D : List Int) : Ev (fun k => spec_l04Code.f k L P D) (shortCode L P D) := by
  unfold spec_l04Code.f shortCode
  refine ev_bind (l04Is_ev L P D) ?_
  cases h : isJobs L P D with
  | false => exact ev_neg (by simp) (ev_is (by simp))
  | true =>
    obtain ⟨r, hr, h1, h2⟩ := l04Whole_ev L P D h
    refine ev_pos rfl (ev_bind hr ?_)
    rw [if_pos rfl]
    by_cases hw : lcmN 1 P ≤ 240
    · have := h1 hw
      rw [if_pos hw]
      exact ev_neg (by omega) (ev_now _)
    · have := h2 (by omega)
      rw [if_neg hw]
      exact ev_pos (by omega) (ev_now _)
theorem jobsCode_short (L P D : List Int) : Ev (fun k => impl_jobsCode.f k L P D true true) (shortCode L P D) := by
  unfold impl_jobsCode.f shortCode
  refine ev_bind (AreJobs_ev L P D) ?_
  cases h : isJobs L P D with
  | false => exact ev_neg (by simp) (ev_is (by simp))
  | true =>
    refine ev_pos rfl (ev_pos rfl (ev_pos rfl (ev_bind (whole_ev L P D h) ?_)))
    rw [if_pos rfl]
    by_cases hw : lcmN 1 P ≤ 240
    · rw [if_pos hw]
      exact ev_neg (by omega) (ev_now _)
    · rw [if_neg hw]
      exact ev_pos (by omega) (ev_now _)
theorem shortCode_zero {L P D : List Int} (h : shortCode L P D = 0) : isJobs L P D = true ∧ lcmN 1 P ≤ 240 := by
  unfold shortCode at h
  by_cases h1 : isJobs L P D = true
  · rw [if_pos h1] at h
    by_cases h2 : lcmN 1 P ≤ 240
    · exact ⟨h1, h2⟩
    · rw [if_neg h2] at h; omega
  · rw [if_neg h1] at h; omega
end Go.Proofs.Ythcccgeeccjfiaa.Pure

namespace Go.Proofs.Ythcccgeeccjfiaa.Pure
open Go.RowKit Go.Proofs.Ythcccgeeccjfiaa.P Go.Proofs.YthcccgeeccjfiaaW.PrintWords Go.Proofs.YthcccgeeccjfiaaW.PrintLast Go.Proofs.YthcccgeeccjfiaaW.PrintMore
set_option linter.unusedVariables false
set_option linter.unusedSimpArgs false
def roomGo (L P D : List Int) : Nat → Int → Int → Int
  | 0, least, _ => least
  | d + 1, least, n => roomGo L P D d (mn least (n - demTo L P D n L.length)) (n + 1)
def roomR (L P D : List Int) : Int × Int := if shortCode L P D = 0 then (roomGo L P D (lcmN 1 P - 1) (1 - demTo L P D 1 L.length) 2, 0) else (0, shortCode L P D)
theorem dem_small {L P D : List Int} (h : isJobs L P D = true) {n : Int} (hn : 0 ≤ n ∧ n ≤ 1000) : 0 ≤ demTo L P D n L.length ∧ demTo L P D n L.length ≤ 160160 := by
  have h1 := demTo_bounds h hn L.length (Nat.le_refl _)
  have h2 := isJobs_len h
  omega
theorem room_spec_l0 (L P D : List Int) (h : isJobs L P D = true) (hw : lcmN 1 P ≤ 240) : ∀ (d : Nat) (least n : Int), n + d = (lcmN 1 P : Nat) + 1 → 2 ≤ n →
    Ev (fun k => spec_l04Room.l0 k least n L P D) (roomGo L P D d least n) := by
  obtain ⟨r, hr, h3, _⟩ := l04Whole_ev L P D h
  rw [h3 hw] at hr
  intro d
  induction d with
  | zero =>
    intro least n hn h2
    refine Ev.step (fun k => by rw [spec_l04Room.l0]) ?_
    exact ev_bind hr (ev_neg (by omega) (ev_now _))
  | succ d ih =>
    intro least n hn h2
    have hd := dem_small h (n := n) (by omega)
    refine Ev.step (fun k => by rw [spec_l04Room.l0]) ?_
    refine ev_bind hr (ev_pos (by omega) (ev_bind (l04Demand_ev L P D h n (by omega)) ?_))
    rw [wrap_id (x := n - _) (by omega) (by omega), wrap_id (x := n + 1) (by omega) (by omega)]
    exact ih _ (n + 1) (by omega) (by omega)
theorem room_impl_l0 (L P D : List Int) (h : isJobs L P D = true) (hw : lcmN 1 P ≤ 240) : ∀ (d : Nat) (least n : Int), n + d = (lcmN 1 P : Nat) + 1 → 2 ≤ n →
    Ev (fun k => impl_Jobs_room.l0 k least n L P D) (roomGo L P D d least n) := by
  have hr := whole_ev L P D h
  intro d
  induction d with
  | zero =>
    intro least n hn h2
    refine Ev.step (fun k => by rw [impl_Jobs_room.l0]) ?_
    exact ev_bind hr (ev_neg (by omega) (ev_now _))
  | succ d ih =>
    intro least n hn h2
    have hd := dem_small h (n := n) (by omega)
    refine Ev.step (fun k => by rw [impl_Jobs_room.l0]) ?_
    refine ev_bind hr (ev_pos (by omega) (ev_bind (demand_ev L P D h n (by omega)) ?_))
    rw [wrap_id (x := n - _) (by omega) (by omega), wrap_id (x := n + 1) (by omega) (by omega)]
    exact ih _ (n + 1) (by omega) (by omega)
theorem l04Room_ev (L P D : List Int) (h : isJobs L P D = true) (hw : lcmN 1 P ≤ 240) : Ev (fun k => spec_l04Room.f k L P D) (roomGo L P D (lcmN 1 P - 1) (1 - demTo L P D 1 L.length) 2) := by
  unfold spec_l04Room.f
  have hd := dem_small h (n := 1) (by omega)
  have hp := lcmN_pos 1 (by omega) P (fun x hx => (isJobs_P h x hx).1)
  refine ev_bind (l04Demand_ev L P D h 1 (by omega)) ?_
  rw [wrap_id (by omega) (by omega)]
  exact room_spec_l0 L P D h hw _ _ 2 (by omega) (by omega)
theorem room_ev (L P D : List Int) (h : isJobs L P D = true) (hw : lcmN 1 P ≤ 240) : Ev (fun k => impl_Jobs_room.f k L P D) (roomGo L P D (lcmN 1 P - 1) (1 - demTo L P D 1 L.length) 2) := by
  unfold impl_Jobs_room.f
  have hd := dem_small h (n := 1) (by omega)
  have hp := lcmN_pos 1 (by omega) P (fun x hx => (isJobs_P h x hx).1)
  refine ev_bind (demand_ev L P D h 1 (by omega)) ?_
  rw [wrap_id (by omega) (by omega)]
  exact room_impl_l0 L P D h hw _ _ 2 (by omega) (by omega)
end Go.Proofs.Ythcccgeeccjfiaa.Pure

namespace Go.Proofs.Ythcccgeeccjfiaa.Pure
open Go.RowKit Go.Proofs.Ythcccgeeccjfiaa.P Go.Proofs.YthcccgeeccjfiaaW.PrintWords Go.Proofs.YthcccgeeccjfiaaW.PrintLast Go.Proofs.YthcccgeeccjfiaaW.PrintMore
set_option linter.unusedVariables false
set_option linter.unusedSimpArgs false
theorem RoomOf_spec (L P D : List Int) : Ev (fun k => spec_RoomOf.f k L P D) (roomR L P D) := by
  unfold spec_RoomOf.f roomR
  refine ev_bind (l04Code_ev L P D) ?_
  by_cases h : shortCode L P D = 0
  · have ⟨h1, h2⟩ := shortCode_zero h
    rw [if_pos h]
    exact ev_pos h (ev_bind (l04Room_ev L P D h1 h2) (ev_now _))
  · rw [if_neg h]
    exact ev_neg h (ev_now _)
theorem RoomOf_impl (L P D : List Int) : Ev (fun k => impl_RoomOf.f k L P D) (roomR L P D) := by
  unfold impl_RoomOf.f roomR
  refine ev_bind (jobsCode_short L P D) ?_
  by_cases h : shortCode L P D = 0
  · have ⟨h1, h2⟩ := shortCode_zero h
    rw [if_pos h]
    exact ev_pos h (ev_bind (room_ev L P D h1 h2) (ev_now _))
  · rw [if_neg h]
    exact ev_neg h (ev_now _)
theorem FnExactRoomOf : laws_FnExactRoomOf.Pure := by
  intro L P D hL hP hD
  refine ev_rounds (g := fun k => laws_FnExactRoomOf.f k L P D) ?_
  unfold laws_FnExactRoomOf.f
  obtain ⟨r, hr, h⟩ := szJobs_f L P D hL.1 hP.1 hD.1
  refine ev_fix hr ?_
  rcases h with h | ⟨h0, h1, h2, h3⟩
  · exact ev_pos h (ev_now _)
  · refine ev_neg (by omega) (ev_bind (toJobs_ev L P D h1 h2 h3) (ev_bind (RoomOf_spec L P D) (ev_bind (toJobs_ev L P D h1 h2 h3) (ev_bind (RoomOf_impl L P D) (ev_pos rfl ?_)))))
    rw [bne_self_eq_false]
    refine Ev.step (fun k => by rw [laws_FnExactRoomOf.j0]) ?_
    exact ev_neg (by simp) (ev_bind (toJobs_ev L P D h1 h2 h3) (ev_bind (eqJobs_ev L P D h1 h2 h3) (ev_pos rfl (ev_now _))))
end Go.Proofs.Ythcccgeeccjfiaa.Pure

namespace Go.Proofs.Ythcccgeeccjfiaa.fnExactRoomOf
open Go.ChangeShapes Go.WideShapes Go.ChangeAt Go.RowKit Go.Deep Go.Proofs.Ythcccgeeccjfiaa.P
open Go.ChangeMaps (open_string shut_string)
set_option linter.unusedVariables false
theorem own : ownKnob Try.prog.godebug = none := by kernel_rfl
theorem laidOut : laidOutB Try.prog = true := by kernel_rfl
set_option maxRecDepth 100000 in
theorem lifted (os : Os) (started : os.Started) (H : Type) (enc : TypeId × Value → H) :
    ReturnsInHanded {} Try.checked os 11 .any (Rows.fnExactRoomOfSpec.pre6 enc Try.prog Try.f11 Rows.fnExactRoomOfRow.domain false) (Rows.fnExactRoomOfSpec.post enc Try.prog Try.f11 false true false false) := by
  refine returnsInHanded_of_change_sized (C := Try.checked) own started (by kernel_rfl) Try.func11
    (ChangeSpec.witness6 (enc := enc) (C := Try.checked) false ⟨#[], #[.agg #[.slice none 0 0, .slice none 0 0, .slice none 0 0]], []⟩ 8 (by kernel_rfl) (by kernel_rfl) (by kernel_rfl) (by kernel_rfl)) ?_
  intro W base args ds gs before hval0 hW hcnd hsz0 _
  have hsz : (DataW.weightsEach Try.prog (Try.f11.params.toList ++ Rows.fnExactRoomOfSpec.plain.varTypes Try.prog) (ds ++ gs)).all (· ≤ reachBytes) = true := hsz0
  have hval : ∀ (j : Nat) t v, Try.f11.params[j]? = some t → args[j]? = some v → Value.okWide Try.prog W .any base t v := hval0
  have hW' := hW
  obtain ⟨p, q, hA0, hV, rfl, hfz, hnd⟩ := hW
  have hA : DataW.TrodAll enc Try.prog W 0 (fun _ => true) true Try.f11.params.toList args.toList ds p := hA0
  rw [Try.params11] at hA hval hsz
  obtain ⟨v0, vs0, d0, ds0, p0, q0, hargs, rfl, rfl, h0, r0⟩ := trodAll_cons hA
  obtain ⟨rfl, rfl, rfl⟩ := trodAll_nil r0
  obtain rfl : args = #[v0] := by cases args; simp_all
  obtain ⟨rfl, rfl⟩ := trodVars_none hV
  have k0 := h0
  have lt0 : ∀ x ∈ p0, x.block < W.heap.size := by obtain ⟨m, hm⟩ := k0; exact DataW.trod_lt m _ _ _ hm
  obtain ⟨v0_0, v0_1, v0_2, y0_0, y0_1, y0_2, n0, rfl, t0_0, t0_1, t0_2⟩ := agg3 Try.underlying24 (by kernel_rfl) (by kernel_rfl) (hval 0 24 v0 rfl rfl) h0
  obtain ⟨l0_0, e0_0, w0_0⟩ := open_cell (opens_slice (opens_int Try.underlying2) Try.underlying22 (by kernel_rfl) rfl) t0_0
  obtain ⟨A0_0, c0_0, rfl, hc0_0, hr0_0⟩ := row_cell e0_0
  obtain ⟨l0_1, e0_1, w0_1⟩ := open_cell (opens_slice (opens_int Try.underlying2) Try.underlying22 (by kernel_rfl) rfl) t0_1
  obtain ⟨A0_1, c0_1, rfl, hc0_1, hr0_1⟩ := row_cell e0_1
  obtain ⟨l0_2, e0_2, w0_2⟩ := open_cell (opens_slice (opens_int Try.underlying2) Try.underlying22 (by kernel_rfl) rfl) t0_2
  obtain ⟨A0_2, c0_2, rfl, hc0_2, hr0_2⟩ := row_cell e0_2
  clear hA0 hval0 hsz0 hsz
  refine (P.laws_FnExactRoomOf.walk Pure.FnExactRoomOf A0_0 c0_0 l0_0 A0_1 c0_1 l0_1 A0_2 c0_2 l0_2 W hr0_0 hc0_0 hr0_1 hc0_1 hr0_2 hc0_2 w0_0 w0_1 w0_2).mono fun e W' ⟨he, bel⟩ => ?_
  subst he
  exact ⟨_, rfl, _, _, _, [], _, [], hW', trodAll_mk1 (shut_bool Try.underlying4 _), (trodAll_cons_mk (Below.trod laidOut (by kernel_rfl) (of_decide_eq_true (by kernel_rfl)) k0 bel lt0) trodAll_mk0), rfl, bel.frame _, fun h => by cases h⟩
theorem over : Rows.fnExactRoomOfRow.holds Try.pinned (OpenSpec.ofChange Rows.fnExactRoomOfSpec) :=
  OpenClaim.holds_of_wide 11 Try.f11 rfl rfl rfl rfl rfl rfl rfl ⟨rfl, rfl, rfl, rfl, rfl⟩ rfl rfl rfl rfl rfl (by kernel_rfl) Try.func11 (by kernel_rfl)
    (of_decide_eq_true (by kernel_rfl)) (by unfold Func.isWrapper; first | (rw [if_pos (by decide +kernel)]; kernel_rfl) | (rw [if_neg (by decide +kernel)]; exact ⟨rfl, rfl⟩))
    (fun os started H enc _ => lifted os started H enc)
theorem proved : Rows.FnExactRoomOfSaid := over
end Go.Proofs.Ythcccgeeccjfiaa.fnExactRoomOf
namespace Go.Proofs.Ythcccgeeccjfiaa
/-- The row, under a short name, for the claim. -/
theorem fnExactRoomOf_holds : Rows.FnExactRoomOfSaid := fnExactRoomOf.proved
end Go.Proofs.Ythcccgeeccjfiaa
