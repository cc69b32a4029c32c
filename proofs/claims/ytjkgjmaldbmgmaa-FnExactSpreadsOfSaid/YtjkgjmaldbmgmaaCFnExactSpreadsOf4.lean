/- The program's SpreadsOf returns what the reference's returns, for all turns; no condition beside. -/
import Derived.Test.YtjkgjmaldbmgmaaCFnExactSpreadsOf3
import Derived.Test.YtjkgjmaldbmgmaaRows
section
namespace Go.Proofs.Ytjkgjmaldbmgmaa.Pure
open Go.RowKit Go.Proofs.Ytjkgjmaldbmgmaa.P Go.Proofs.YtjkgjmaldbmgmaaW.PrintWords Go.Proofs.YtjkgjmaldbmgmaaW.PrintLast Go.Proofs.YtjkgjmaldbmgmaaW.PrintMore
set_option linter.unusedVariables false
set_option linter.unusedSimpArgs false
theorem share_l0 (l : List Int) (x : Int) (hl : l.length ≤ 1048576) : ∀ d n : Nat, n + d = l.length →
    Ev (fun k => impl_share.l0 k x (cnt x (l.take n)) l (l.length : Int) (n : Int)) (cnt x l) := by
  intro d
  induction d with
  | zero =>
    intro n hn
    rw [List.take_of_length_le (by omega)]
    exact Ev.step (fun k => by rw [impl_share.l0]) (ev_neg (by omega) (ev_now _))
  | succ d ih =>
    intro n hn
    have hlt : n < l.length := by omega
    have hb := cnt_bounds x (l.take n)
    rw [List.length_take] at hb
    have ih := ih (n + 1) (by omega)
    rw [cnt_take_succ x l n hlt] at ih
    refine Ev.step (fun k => by rw [impl_share.l0]) (ev_pos (by omega) (ev_pos (by omega) (ev_pos (by omega) ?_)))
    rw [rd_nat hlt, wrap_succ (by omega)]
    by_cases c : l[n] = x
    · rw [if_pos c] at ih
      refine ev_pos c ?_
      rw [wrap_id (by omega) (by omega)]
      exact ih
    · rw [if_neg c, Int.add_zero] at ih
      exact ev_neg c ih
theorem share_ev (l : List Int) (x : Int) (hl : l.length ≤ 1048576) : Ev (fun k => impl_share.f k l x) (cnt x l) := by
  unfold impl_share.f
  exact share_l0 l x hl l.length 0 (by omega)
theorem Max_l0 (l : List Int) (hl : l.length ≤ 1048576) (a : Int) : ∀ d n : Nat, n + d = l.length →
    Ev (fun k => slices_Max_Sint64_int64.l0 k l ((l.take n).foldl mx a) (n : Int)) (l.foldl mx a) := by
  intro d
  induction d with
  | zero =>
    intro n hn
    rw [List.take_of_length_le (by omega)]
    exact Ev.step (fun k => by rw [slices_Max_Sint64_int64.l0]) (ev_neg (by omega) (ev_now _))
  | succ d ih =>
    intro n hn
    have hlt : n < l.length := by omega
    refine Ev.step (fun k => by rw [slices_Max_Sint64_int64.l0]) (ev_pos (by omega) (ev_pos (by omega) ?_))
    rw [rd_nat hlt, wrap_succ (by omega)]
    have ih := ih (n + 1) (by omega)
    rw [List.take_succ_eq_append_getElem hlt, List.foldl_append] at ih
    exact ih
theorem mx_self (a : Int) : mx a a = a := by unfold mx; split <;> rfl
theorem Max_ev (l : List Int) (hl : l.length ≤ 1048576) (h0 : 1 ≤ l.length) (hp : ∀ x ∈ l, 0 ≤ x) : Ev (fun k => slices_Max_Sint64_int64.f k l) (great l) := by
  unfold slices_Max_Sint64_int64.f
  refine ev_neg (by omega) (ev_pos (by omega) ?_)
  cases l with
  | nil => simp at h0
  | cons y l =>
    have hy := hp y List.mem_cons_self
    have h1 := Max_l0 (y :: l) hl y l.length 1 (by simp only [List.length_cons]; omega)
    have e0 : great (y :: l) = (y :: l).foldl mx y := by
      have : mx 0 y = y := by unfold mx; split <;> omega
      simp only [great, List.foldl_cons, this, mx_self]
    have e1 : ((y :: l).take 1).foldl mx y = y := by simp [mx_self]
    rw [e1, ← e0] at h1
    exact h1
theorem sharesOf_l0 (l : List Int) (hl : l.length ≤ 1048576) (M : Nat) (hM : M ≤ 1000) : ∀ d n : Nat, n + d = M →
    Ev (fun k => impl_sharesOf.l0 k l (tab (fun i => cnt (i : Int) l) n) (M : Int) (n : Int)) (tab (fun i => cnt (i : Int) l) M) := by
  intro d
  induction d with
  | zero =>
    intro n hn
    obtain rfl : n = M := by omega
    exact Ev.step (fun k => by rw [impl_sharesOf.l0]) (ev_neg (by omega) (ev_now _))
  | succ d ih =>
    intro n hn
    have ih := ih (n + 1) (by omega)
    rw [tab_succ] at ih
    refine Ev.step (fun k => by rw [impl_sharesOf.l0]) ?_
    refine ev_pos (by omega) (ev_bind (share_ev l _ hl) (ev_pos (by rw [tab_length]; omega) ?_))
    rw [wrap_succ (by omega)]
    exact ih
theorem sharesOf_ev (l : List Int) (hl : l.length ≤ 1048576) (h0 : 1 ≤ l.length) (hp : ∀ x ∈ l, 0 ≤ x ∧ x ≤ 7) : Ev (fun k => impl_sharesOf.f k l) (sharesL l) := by
  unfold impl_sharesOf.f
  have hg := great_nonneg l
  have hg2 := great_le (l := l) (b := 7) (by omega) fun x hx => (hp x hx).2
  refine ev_bind (Max_ev l hl h0 fun x hx => (hp x hx).1) ?_
  rw [wrap_id (by omega) (by omega), show great l + 1 = ((great l + 1).toNat : Int) by omega]
  exact sharesOf_l0 l hl (great l + 1).toNat (by omega) (great l + 1).toNat 0 (by omega)
theorem levelCode_ev (l : List Int) (hl : l.length ≤ 1048576) : Ev (fun k => impl_levelCode.f k l) (levelR l) := by
  unfold impl_levelCode.f levelR
  refine ev_fix (areTurns_f l 8) ?_
  cases ht : isTurns l 8 with
  | false => exact ev_neg (by simp) (ev_is (by simp))
  | true =>
    rw [if_pos rfl]
    have hlen := isTurns_len ht
    refine ev_pos rfl (ev_bind (Contains_ev l (-1) (by omega)) ?_)
    cases hc : l.contains (-1) with
    | true => exact ev_pos rfl (ev_is (by simp))
    | false =>
      show Ev _ (if (sharesL l).contains 0 = true then 5 else if (l.length : Int) > 60 then 5 else 0)
      have hm : ∀ x ∈ l, 0 ≤ x ∧ x ≤ 7 := fun x hx => by
        have := isTurns8_mem ht hx
        have : x ≠ -1 := fun e => contains_false hc (e ▸ hx)
        omega
      have hg := great_le (l := l) (b := 7) (by omega) fun x hx => (hm x hx).2
      refine ev_neg (by simp) (ev_bind (sharesOf_ev l hl hlen.1 hm) (ev_bind (Contains_ev (sharesL l) 0 (by rw [sharesL, tab_length]; omega)) ?_))
      cases hz : (sharesL l).contains 0 with
      | true => exact ev_pos rfl (ev_now _)
      | false =>
        show Ev _ (if (l.length : Int) > 60 then 5 else 0)
        refine ev_neg (by simp) ?_
        by_cases h60 : (l.length : Int) > 60
        · exact ev_pos h60 (ev_is (by rw [if_pos h60]))
        · exact ev_neg h60 (ev_is (by rw [if_neg h60]))
end Go.Proofs.Ytjkgjmaldbmgmaa.Pure
end
section
namespace Go.Proofs.Ytjkgjmaldbmgmaa.Pure
open Go.RowKit Go.Proofs.Ytjkgjmaldbmgmaa.P Go.Proofs.YtjkgjmaldbmgmaaW.PrintWords Go.Proofs.YtjkgjmaldbmgmaaW.PrintLast Go.Proofs.YtjkgjmaldbmgmaaW.PrintMore
set_option linter.unusedVariables false
set_option linter.unusedSimpArgs false
theorem Shares_l2 (l s : List Int) (hl : l.length ≤ 1048576) (hs : s.length ≤ 1048576) : ∀ d n : Nat, n + d = s.length → (∀ x ∈ s.take n, x ≠ 0) →
    Ev (fun k => spec_l07Shares.l2 k l s (s.length : Int) (n : Int)) (if s.contains 0 = true then ([], false) else (s, decide ((l.length : Int) ≤ 60))) := by
  intro d
  induction d with
  | zero =>
    intro n hn ha
    rw [List.take_of_length_le (by omega)] at ha
    rw [if_neg (fun h => ha 0 (List.contains_iff_mem.1 h) rfl)]
    exact Ev.step (fun k => by rw [spec_l07Shares.l2]) (ev_neg (by omega) (ev_now _))
  | succ d ih =>
    intro n hn ha
    have hlt : n < s.length := by omega
    refine Ev.step (fun k => by rw [spec_l07Shares.l2]) (ev_pos (by omega) (ev_pos (by omega) (ev_pos (by omega) ?_)))
    rw [rd_nat hlt]
    by_cases c : s[n] = 0
    · rw [if_pos (List.contains_iff_mem.2 (c ▸ List.getElem_mem hlt))]
      exact ev_pos c (ev_now _)
    · refine ev_neg c ?_
      rw [wrap_succ (by omega)]
      refine ih (n + 1) (by omega) fun x hx => ?_
      rw [List.take_succ_eq_append_getElem hlt] at hx
      rcases List.mem_append.1 hx with hx | hx
      · exact ha x hx
      · rw [List.mem_singleton.1 hx]; exact c
theorem Shares_l1 (l : List Int) (hl : l.length ≤ 1048576) (hm : ∀ x ∈ l, 0 ≤ x ∧ x ≤ 7) (R : List Int × Bool) (hR : Ev (fun k => spec_l07Shares.l2 k l (sharesL l) ((sharesL l).length : Int) 0) R) : ∀ d n : Nat, n + d = l.length →
    Ev (fun k => spec_l07Shares.l1 k l (tab (fun i => cnt (i : Int) (l.take n)) (great l + 1).toNat) (n : Int)) R := by
  have hg := great_nonneg l
  intro d
  induction d with
  | zero =>
    intro n hn
    rw [List.take_of_length_le (by omega)]
    refine Ev.step (fun k => by rw [spec_l07Shares.l1]) ?_
    exact ev_neg (by omega) hR
  | succ d ih =>
    intro n hn
    have hlt : n < l.length := by omega
    have hx := hm _ (List.getElem_mem hlt)
    have hx2 := great_pos (List.getElem_mem hlt)
    refine Ev.step (fun k => by rw [spec_l07Shares.l1]) (ev_pos (by omega) (ev_pos (by omega) ?_))
    rw [rd_nat hlt]
    refine ev_pos (by omega) (ev_pos (by rw [tab_length]; omega) ?_)
    obtain ⟨b, hb⟩ : ∃ b : Nat, l[n] = b := ⟨l[n].toNat, by omega⟩
    have hcb := cnt_bounds (b : Int) (l.take n)
    rw [List.length_take] at hcb
    rw [hb, Int.toNat_natCast, rd_tab (by omega), wrap_id (by omega) (by omega), wrap_succ (by omega), tab_set]
    have ih := ih (n + 1) (by omega)
    rw [tab_congr (g := fun i => if i = b then cnt (b : Int) (l.take n) + 1 else cnt (i : Int) (l.take n)) (fun i hi => by
      rw [cnt_take_succ _ l n hlt, hb]
      by_cases e : i = b
      · subst e; rw [if_pos rfl, if_pos rfl]
      · rw [if_neg (by omega), if_neg e, Int.add_zero])] at ih
    exact ih
theorem Shares_l0 (l : List Int) (hl : l.length ≤ 1048576) (h7 : ∀ x ∈ l, x ≤ 7) : ∀ d n : Nat, n + d = l.length → (∀ x ∈ l.take n, 0 ≤ x) →
    Ev (fun k => spec_l07Shares.l0 k l (great (l.take n)) (n : Int)) (if (∀ x ∈ l, 0 ≤ x) then (if (sharesL l).contains 0 = true then ([], false) else (sharesL l, decide ((l.length : Int) ≤ 60))) else ([], false)) := by
  have hg := great_nonneg l
  have hg7 := great_le (l := l) (b := 7) (by omega) h7
  intro d
  induction d with
  | zero =>
    intro n hn ha
    rw [List.take_of_length_le (by omega)] at ha ⊢
    rw [if_pos ha]
    refine Ev.step (fun k => by rw [spec_l07Shares.l0]) (ev_neg (by omega) ?_)
    rw [wrap_id (by omega) (by omega)]
    refine ev_pos (by omega) (ev_pos (by omega) ?_)
    have hlen : (sharesL l).length ≤ 1048576 := by rw [sharesL, tab_length]; omega
    have h1 := Shares_l1 l hl (fun x hx => ⟨ha x hx, h7 x hx⟩) _ (Shares_l2 l (sharesL l) hl hlen (sharesL l).length 0 (by omega) (by simp)) l.length 0 (by omega)
    rw [show tab (fun i => cnt (i : Int) (l.take 0)) (great l + 1).toNat = List.replicate (great l + 1).toNat 0 by
      rw [← tab_zero]; exact tab_congr fun i _ => by simp [cnt]] at h1
    exact h1
  | succ d ih =>
    intro n hn ha
    have hlt : n < l.length := by omega
    refine Ev.step (fun k => by rw [spec_l07Shares.l0]) (ev_pos (by omega) (ev_pos (by omega) ?_))
    rw [rd_nat hlt]
    by_cases c : l[n] < 0
    · rw [if_neg (fun h => by have := h _ (List.getElem_mem hlt); omega)]
      exact ev_pos c (ev_now _)
    · refine ev_neg c ?_
      rw [wrap_succ (by omega), ← great_take_succ l n hlt]
      refine ih (n + 1) (by omega) fun x hx => ?_
      rw [List.take_succ_eq_append_getElem hlt] at hx
      rcases List.mem_append.1 hx with hx | hx
      · exact ha x hx
      · rw [List.mem_singleton.1 hx]; omega
theorem l07Given_ev (l : List Int) (hl : l.length ≤ 1048576) : Ev (fun k => spec_l07Given.f k l) (if levelR l = 0 then sharesL l else [], levelR l) := by
  unfold spec_l07Given.f
  refine ev_bind (l01Turns_ev l 8 (by omega)) ?_
  cases ht : isTurns l 8 with
  | false => exact ev_neg (by simp) (ev_is (by simp [levelR, ht]))
  | true =>
    have h7 : ∀ x ∈ l, x ≤ 7 := fun x hx => (isTurns8_mem ht hx).2
    refine ev_pos rfl (ev_bind (show Ev (fun k => spec_l07Shares.f k l) _ from Shares_l0 l hl h7 l.length 0 (by omega) (by simp)) ?_)
    by_cases hc : l.contains (-1) = true
    · have hr : levelR l = 5 := by unfold levelR; rw [if_pos ht, if_pos hc]
      have e : ¬ (∀ x ∈ l, 0 ≤ x) := fun h => by have := h _ (List.contains_iff_mem.1 hc); omega
      refine ev_neg (by rw [if_neg e]; simp) (ev_is (by rw [hr]; rfl))
    · have hc2 := Bool.eq_false_iff.2 hc
      have e : ∀ x ∈ l, 0 ≤ x := fun x hx => by
        have := isTurns8_mem ht hx
        have : x ≠ -1 := fun e => contains_false hc2 (e ▸ hx)
        omega
      by_cases hz : (sharesL l).contains 0 = true
      · have hr : levelR l = 5 := by unfold levelR; rw [if_pos ht, if_neg hc, if_pos hz]
        exact ev_neg (by rw [if_pos e, if_pos hz]; simp) (ev_is (by rw [hr]; rfl))
      · by_cases h60 : (l.length : Int) ≤ 60
        · have hr : levelR l = 0 := by unfold levelR; rw [if_pos ht, if_neg hc, if_neg hz, if_neg (by omega)]
          exact ev_pos (by rw [if_pos e, if_neg hz]; exact decide_eq_true h60) (ev_is (by rw [hr, if_pos e, if_neg hz]; rfl))
        · have hr : levelR l = 5 := by unfold levelR; rw [if_pos ht, if_neg hc, if_neg hz, if_pos (by omega)]
          exact ev_neg (by rw [if_pos e, if_neg hz]; simp only [decide_eq_false h60]; simp) (ev_is (by rw [hr]; rfl))
end Go.Proofs.Ytjkgjmaldbmgmaa.Pure
end
section
namespace Go.Proofs.Ytjkgjmaldbmgmaa.Pure
open Go.RowKit Go.Proofs.Ytjkgjmaldbmgmaa.P Go.Proofs.YtjkgjmaldbmgmaaW.PrintWords Go.Proofs.YtjkgjmaldbmgmaaW.PrintLast Go.Proofs.YtjkgjmaldbmgmaaW.PrintMore
set_option linter.unusedVariables false
set_option linter.unusedSimpArgs false
theorem toInt64S_l0 (l : List Int) (hl : l.length ≤ 9223372036854775807) : ∀ d n : Nat, n + d = l.length → Ev (fun k => laws_toInt64S.l0 k l (l.take n ++ List.replicate d 0) (n : Int)) l := by
  intro d
  induction d with
  | zero =>
    intro n hn
    refine Ev.step (fun k => by rw [laws_toInt64S.l0]) ?_
    refine ev_neg (by omega) ?_
    rw [List.take_of_length_le (by omega), List.replicate_zero, List.append_nil]
    exact ev_now l
  | succ d ih =>
    intro n hn
    have hlt : n < l.length := by omega
    refine Ev.step (fun k => by rw [laws_toInt64S.l0]) ?_
    refine ev_pos (by omega) (ev_pos (by omega) (ev_pos ?_ ?_))
    · rw [List.length_append, List.length_take, List.length_replicate]; omega
    · rw [wrap_succ (by omega), rd_nat hlt, Int.toNat_natCast]
      have e : (l.take n ++ List.replicate (d + 1) 0).set n l[n] = l.take (n + 1) ++ List.replicate d 0 := by
        rw [List.set_append_right _ _ (by rw [List.length_take]; omega), List.length_take, Nat.min_eq_left (by omega), Nat.sub_self, List.replicate_succ, List.set_cons_zero, List.take_succ_eq_append_getElem hlt, List.append_assoc]
        rfl
      rw [e]
      exact ih (n + 1) (by omega)
/-- toInt64S hands back the list. -/
theorem toInt64S_ev (l : List Int) (hl : l.length ≤ 35184372088832) : Ev (fun k => laws_toInt64S.f k l) l := by
  unfold laws_toInt64S.f
  refine ev_pos (by omega) (ev_pos (by omega) ?_)
  rw [Int.toNat_natCast]
  exact toInt64S_l0 l (by omega) l.length 0 (by omega)
theorem eqInt64S_l0 (l : List Int) (hl : l.length ≤ 9223372036854775807) : ∀ d n : Nat, n + d = l.length → Ev (fun k => laws_eqInt64S.l0 k l l (n : Int)) true := by
  intro d
  induction d with
  | zero =>
    intro n hn
    refine Ev.step (fun k => by rw [laws_eqInt64S.l0]) ?_
    exact ev_neg (by omega) (ev_now true)
  | succ d ih =>
    intro n hn
    refine Ev.step (fun k => by rw [laws_eqInt64S.l0]) ?_
    refine ev_pos (by omega) (ev_pos (by omega) (ev_pos (by omega) (ev_pos rfl ?_)))
    rw [wrap_succ (by omega)]
    exact ih (n + 1) (by omega)
/-- eqInt64S says that a list is itself. -/
theorem eqInt64S_ev (l : List Int) (hl : l.length ≤ 9223372036854775807) : Ev (fun k => laws_eqInt64S.f k l l) true := by
  unfold laws_eqInt64S.f
  exact ev_pos rfl (eqInt64S_l0 l hl l.length 0 (by omega))
end Go.Proofs.Ytjkgjmaldbmgmaa.Pure
end
section
namespace Go.Proofs.Ytjkgjmaldbmgmaa.Pure
open Go.RowKit Go.Proofs.Ytjkgjmaldbmgmaa.P Go.Proofs.YtjkgjmaldbmgmaaW.PrintWords Go.Proofs.YtjkgjmaldbmgmaaW.PrintLast Go.Proofs.YtjkgjmaldbmgmaaW.PrintMore
set_option linter.unusedVariables false
set_option linter.unusedSimpArgs false
/-- the numbers from m on -/
def upFrom (m : Int) : Nat → List Int
  | 0 => []
  | n + 1 => m :: upFrom (m + 1) n
theorem upFrom_length (n : Nat) : ∀ m, (upFrom m n).length = n := by
  induction n with
  | zero => intro m; rfl
  | succ n ih => intro m; simp [upFrom, ih]
theorem upFrom_get (n : Nat) : ∀ (m : Int) (j : Nat), j < n → (upFrom m n)[j]? = some (m + j) := by
  induction n with
  | zero => intro m j h; omega
  | succ n ih =>
    intro m j h
    cases j with
    | zero => simp [upFrom]
    | succ j => simp only [upFrom, List.getElem?_cons_succ]; rw [ih (m + 1) j (by omega)]; congr 1; omega
theorem upFrom_succ (n : Nat) (m : Int) : upFrom m (n + 1) = upFrom m n ++ [m + n] := by
  apply List.ext_getElem?
  intro j
  rcases Nat.lt_or_ge j n with h | h
  · rw [upFrom_get _ _ _ (by omega), List.getElem?_append_left (by rw [upFrom_length]; exact h), upFrom_get _ _ _ h]
  · rw [List.getElem?_append_right (by rw [upFrom_length]; exact h), upFrom_length]
    rcases Nat.eq_or_lt_of_le h with rfl | h
    · rw [upFrom_get _ _ _ (by omega)]; simp
    · rw [List.getElem?_eq_none (by rw [upFrom_length]; omega), List.getElem?_eq_none (by simp; omega)]
theorem markInt64S_l0 (l : List Int) (m : Int) (h0 : 0 ≤ m) (hl : m + l.length ≤ 9223372036854775807) : ∀ d n : Nat, n + d = l.length → Ev (fun k => laws_markInt64S.l0 k (upFrom m n ++ l.drop n) (m + n) (n : Int)) (m + l.length, upFrom m l.length) := by
  intro d
  induction d with
  | zero =>
    intro n hn
    refine Ev.step (fun k => by rw [laws_markInt64S.l0]) ?_
    refine ev_neg (by rw [List.length_append, upFrom_length, List.length_drop]; omega) ?_
    rw [List.drop_of_length_le (by omega), List.append_nil, show n = l.length by omega]
    exact ev_now _
  | succ d ih =>
    intro n hn
    have hlt : n < l.length := by omega
    refine Ev.step (fun k => by rw [laws_markInt64S.l0]) ?_
    refine ev_pos (by rw [List.length_append, upFrom_length, List.length_drop]; omega) (ev_pos (by omega) ?_)
    rw [wrap_succ (by omega), wrap_id (x := m + n + 1) (by omega) (by omega), Int.toNat_natCast]
    have e : (upFrom m n ++ l.drop n).set n (m + n) = upFrom m (n + 1) ++ l.drop (n + 1) := by
      rw [List.set_append_right _ _ (by rw [upFrom_length]; omega), upFrom_length, Nat.sub_self, List.drop_eq_getElem_cons hlt, List.set_cons_zero, upFrom_succ, List.append_assoc]
      rfl
    rw [e, show m + (n : Int) + 1 = m + ((n + 1 : Nat) : Int) by omega]
    exact ih (n + 1) (by omega)
theorem markInt64S_ev (l : List Int) (m : Int) (h0 : 0 ≤ m) (hl : m + l.length ≤ 9223372036854775807) : Ev (fun k => laws_markInt64S.f k l m) (m + l.length, upFrom m l.length) := by
  unfold laws_markInt64S.f
  have h := markInt64S_l0 l m h0 hl l.length 0 (by omega)
  simpa [upFrom] using h
theorem heldInt64S_l0 (m : Int) (h0 : 0 ≤ m) (N : Nat) (hl : m + N ≤ 9223372036854775807) : ∀ d n : Nat, n + d = N → Ev (fun k => laws_heldInt64S.l0 k (upFrom m N) (m + n) (n : Int)) (m + N) := by
  intro d
  induction d with
  | zero =>
    intro n hn
    refine Ev.step (fun k => by rw [laws_heldInt64S.l0]) ?_
    refine ev_neg (by rw [upFrom_length]; omega) ?_
    rw [show n = N by omega]
    exact ev_now _
  | succ d ih =>
    intro n hn
    refine Ev.step (fun k => by rw [laws_heldInt64S.l0]) ?_
    refine ev_pos (by rw [upFrom_length]; omega) (ev_pos (by omega) (ev_pos ?_ ?_))
    · have h := upFrom_get N m n (by omega)
      simp [rd, h]
    · rw [wrap_succ (by omega), wrap_id (x := m + n + 1) (by omega) (by omega), show m + (n : Int) + 1 = m + ((n + 1 : Nat) : Int) by omega]
      exact ih (n + 1) (by omega)
theorem heldInt64S_ev (m : Int) (h0 : 0 ≤ m) (N : Nat) (hl : m + N ≤ 9223372036854775807) : Ev (fun k => laws_heldInt64S.f k (upFrom m N) m) (m + N) := by
  unfold laws_heldInt64S.f
  have h := heldInt64S_l0 m h0 N hl N 0 (by omega)
  simpa using h
end Go.Proofs.Ytjkgjmaldbmgmaa.Pure
end
section
namespace Go.Proofs.Ytjkgjmaldbmgmaa.P
open Go.RowKit Go.Proofs.YtjkgjmaldbmgmaaW.PrintWords Go.Proofs.YtjkgjmaldbmgmaaW.PrintLast Go.Proofs.YtjkgjmaldbmgmaaW.PrintMore
attribute [local go_sem] max2_int min2_int max_two min_two max_three min_three max_four min_four   -- for this text's walks alone
set_option linter.unusedVariables false
set_option linter.unusedSimpArgs false
def laws_szInt64S.f (l0 : List Int) (a1 : Int) : Option (Int) := if (wrap64 (a1 - (l0.length : Int))) < 0 then (some (-1)) else (some (wrap64 (a1 - (l0.length : Int))))
end Go.Proofs.Ytjkgjmaldbmgmaa.P
end
section
namespace Go.Proofs.Ytjkgjmaldbmgmaa.P
open Go.RowKit Go.Proofs.YtjkgjmaldbmgmaaW.PrintWords Go.Proofs.YtjkgjmaldbmgmaaW.PrintLast Go.Proofs.YtjkgjmaldbmgmaaW.PrintMore
attribute [local go_sem] max2_int min2_int max_two min_two max_three min_three max_four min_four   -- for this text's walks alone
set_option linter.unusedVariables false
set_option linter.unusedSimpArgs false
def laws_szInt64SS.l0 : Nat → List (List Int) → Int → Int → Option (Int)
  | 0, _, _, _ => none
  | k + 1, x0, x1, x5 => if x5 < (x0.length : Int) then (if 0 ≤ x5 then ((laws_szInt64S.f (rd_L1 x0 x5) x1).bind fun t102 => (if t102 < 0 then (some (-1)) else (laws_szInt64SS.l0 k x0 t102 (wrap64 (x5 + 1))))) else (none)) else (some x1)
def laws_szInt64SS.f (k : Nat) (l0 : List (List Int)) (a1 : Int) : Option (Int) := if (wrap64 (a1 - (l0.length : Int))) < 0 then (some (-1)) else (laws_szInt64SS.l0 k l0 (wrap64 (a1 - (l0.length : Int))) 0)
theorem laws_szInt64SS.mono_l : ∀ k, (∀ y0 y1 y2, LeO (laws_szInt64SS.l0 k y0 y1 y2) (laws_szInt64SS.l0 (k + 1) y0 y1 y2))
  | 0 => fun _ _ _ r h => by simp [laws_szInt64SS.l0] at h
  | k + 1 => by
    have ih0 := laws_szInt64SS.mono_l k
    · intro y0 y1 y2
      unfold laws_szInt64SS.l0
      repeat' first
      | (with_reducible exact ih0 _ _ _)
      | (with_reducible exact LeO.refl _)
      | (with_reducible exact LeO.none _)
      | (with_reducible refine LeO.ite ?_ ?_)
      | (with_reducible refine LeO.bind ?_ (fun _ => ?_))
      | exact ih0 _ _ _
      | exact LeO.none _
      | refine LeO.ite ?_ ?_
      | refine LeO.bind ?_ (fun _ => ?_)
theorem laws_szInt64SS.mono : ∀ a0 a1 k, LeO (laws_szInt64SS.f k a0 a1) (laws_szInt64SS.f (k + 1) a0 a1) := by
  intro a0 a1 k
  have ih0 := laws_szInt64SS.mono_l k
  unfold laws_szInt64SS.f
  repeat' first
      | (with_reducible exact ih0 _ _ _)
      | (with_reducible exact LeO.refl _)
      | (with_reducible exact LeO.none _)
      | (with_reducible refine LeO.ite ?_ ?_)
      | (with_reducible refine LeO.bind ?_ (fun _ => ?_))
      | exact ih0 _ _ _
      | exact LeO.none _
      | refine LeO.ite ?_ ?_
      | refine LeO.bind ?_ (fun _ => ?_)
end Go.Proofs.Ytjkgjmaldbmgmaa.P
end
section
namespace Go.Proofs.Ytjkgjmaldbmgmaa.P
open Go.RowKit Go.Proofs.YtjkgjmaldbmgmaaW.PrintWords Go.Proofs.YtjkgjmaldbmgmaaW.PrintLast Go.Proofs.YtjkgjmaldbmgmaaW.PrintMore
attribute [local go_sem] max2_int min2_int max_two min_two max_three min_three max_four min_four   -- for this text's walks alone
set_option linter.unusedVariables false
set_option linter.unusedSimpArgs false
def laws_toInt64SS.l0 : Nat → List (List Int) → List (List Int) → Int → Option ((List (List Int)))
  | 0, _, _, _ => none
  | k + 1, x0, x3, x4 => if x4 < (x0.length : Int) then (if 0 ≤ x4 then ((laws_toInt64S.f k (rd_L1 x0 x4)).bind fun t105 => (if x4 < (x3.length : Int) then (laws_toInt64SS.l0 k x0 (x3.set (x4 : Int).toNat t105) (wrap64 (x4 + 1))) else (none))) else (none)) else (some x3)
def laws_toInt64SS.f (k : Nat) (l0 : List (List Int)) : Option ((List (List Int))) := if 0 ≤ (l0.length : Int) then (if ((l0.length : Int) : Int).toNat ≤ 11728124029610 then (laws_toInt64SS.l0 k l0 (List.replicate ((l0.length : Int) : Int).toNat []) 0) else (none)) else (none)
theorem laws_toInt64SS.mono_l : ∀ k, (∀ y0 y1 y2, LeO (laws_toInt64SS.l0 k y0 y1 y2) (laws_toInt64SS.l0 (k + 1) y0 y1 y2))
  | 0 => fun _ _ _ r h => by simp [laws_toInt64SS.l0] at h
  | k + 1 => by
    have ih0 := laws_toInt64SS.mono_l k
    · intro y0 y1 y2
      unfold laws_toInt64SS.l0
      repeat' first
      | (with_reducible exact ih0 _ _ _)
      | (with_reducible exact laws_toInt64S.mono _ _)
      | (with_reducible exact LeO.refl _)
      | (with_reducible exact LeO.none _)
      | (with_reducible refine LeO.ite ?_ ?_)
      | (with_reducible refine LeO.bind ?_ (fun _ => ?_))
      | exact ih0 _ _ _
      | exact laws_toInt64S.mono _ _
      | exact LeO.none _
      | refine LeO.ite ?_ ?_
      | refine LeO.bind ?_ (fun _ => ?_)
theorem laws_toInt64SS.mono : ∀ a0 k, LeO (laws_toInt64SS.f k a0) (laws_toInt64SS.f (k + 1) a0) := by
  intro a0 k
  have ih0 := laws_toInt64SS.mono_l k
  unfold laws_toInt64SS.f
  repeat' first
      | (with_reducible exact ih0 _ _ _)
      | (with_reducible exact laws_toInt64S.mono _ _)
      | (with_reducible exact LeO.refl _)
      | (with_reducible exact LeO.none _)
      | (with_reducible refine LeO.ite ?_ ?_)
      | (with_reducible refine LeO.bind ?_ (fun _ => ?_))
      | exact ih0 _ _ _
      | exact laws_toInt64S.mono _ _
      | exact LeO.none _
      | refine LeO.ite ?_ ?_
      | refine LeO.bind ?_ (fun _ => ?_)
end Go.Proofs.Ytjkgjmaldbmgmaa.P
end
section
namespace Go.Proofs.Ytjkgjmaldbmgmaa.Pure
open Go.RowKit Go.Proofs.Ytjkgjmaldbmgmaa.P Go.Proofs.YtjkgjmaldbmgmaaW.PrintWords Go.Proofs.YtjkgjmaldbmgmaaW.PrintLast Go.Proofs.YtjkgjmaldbmgmaaW.PrintMore
set_option linter.unusedVariables false
set_option linter.unusedSimpArgs false
theorem rdL_nat {l : List (List Int)} {n : Nat} (h : n < l.length) : rd_L1 l (n : Int) = l[n] := by simp [rd_L1, h]
theorem eqInt64SS_l0 (l : List (List Int)) (hl : l.length ≤ 1048576) (hx : ∀ x ∈ l, x.length ≤ 1048576) : ∀ d n : Nat, n + d = l.length → Ev (fun k => laws_eqInt64SS.l0 k l l (n : Int)) true := by
  intro d
  induction d with
  | zero =>
    intro n hn
    refine Ev.step (fun k => by rw [laws_eqInt64SS.l0]) ?_
    exact ev_neg (by omega) (ev_now true)
  | succ d ih =>
    intro n hn
    have hlt : n < l.length := by omega
    refine Ev.step (fun k => by rw [laws_eqInt64SS.l0]) ?_
    rw [rdL_nat hlt, wrap_succ (by omega)]
    exact ev_pos (by omega) (ev_pos (by omega) (ev_pos (by omega) (ev_bind (eqInt64S_ev l[n] (by have := hx _ (List.getElem_mem hlt); omega)) (ev_pos rfl (ih (n + 1) (by omega))))))
theorem eqInt64SS_ev (l : List (List Int)) (hl : l.length ≤ 1048576) (hx : ∀ x ∈ l, x.length ≤ 1048576) : Ev (fun k => laws_eqInt64SS.f k l l) true := by
  unfold laws_eqInt64SS.f
  exact ev_pos rfl (eqInt64SS_l0 l hl hx l.length 0 (by omega))
end Go.Proofs.Ytjkgjmaldbmgmaa.Pure
end
section
namespace Go.Proofs.Ytjkgjmaldbmgmaa.Pure
open Go.RowKit Go.Proofs.Ytjkgjmaldbmgmaa.P Go.Proofs.YtjkgjmaldbmgmaaW.PrintWords Go.Proofs.YtjkgjmaldbmgmaaW.PrintLast Go.Proofs.YtjkgjmaldbmgmaaW.PrintMore
set_option linter.unusedVariables false
set_option linter.unusedSimpArgs false
def marks : Int → List (List Int) → List (List Int)
  | _, [] => []
  | a, x :: l => upFrom a x.length :: marks (a + x.length) l
def markTot : Int → List (List Int) → Int
  | a, [] => a
  | a, x :: l => markTot (a + x.length) l
theorem markTot_le : ∀ (l : List (List Int)) (a : Int), a ≤ markTot a l := by
  intro l
  induction l with
  | nil => intro a; exact Int.le_refl _
  | cons x l ih => intro a; have := ih (a + x.length); rw [markTot]; omega
theorem rdL_mid (pre l : List (List Int)) (x : List Int) : rd_L1 (pre ++ x :: l) (pre.length : Int) = x := by
  rw [rdL_nat (by simp)]
  simp
theorem set_mid (pre l : List (List Int)) (x y : List Int) : (pre ++ x :: l).set pre.length y = pre ++ y :: l := by
  rw [List.set_append_right _ _ (Nat.le_refl _), Nat.sub_self, List.set_cons_zero]
theorem markInt64SS_l0 : ∀ (l pre : List (List Int)) (a : Int), 0 ≤ a → a + 1048576 * (l.length : Int) ≤ 4000000000000 → pre.length + l.length ≤ 1048576 → (∀ x ∈ l, x.length ≤ 1048576) →
    Ev (fun k => laws_markInt64SS.l0 k (pre ++ l) a (pre.length : Int)) (markTot a l, pre ++ marks a l) := by
  intro l
  induction l with
  | nil =>
    intro pre a _ _ _ _
    refine Ev.step (fun k => by rw [laws_markInt64SS.l0]) ?_
    rw [List.append_nil]
    exact ev_neg (by omega) (ev_is (by simp [marks, markTot]))
  | cons x l ih =>
    intro pre a h0 h1 h2 h3
    have hx := h3 x List.mem_cons_self
    rw [List.length_cons] at h1 h2
    refine Ev.step (fun k => by rw [laws_markInt64SS.l0]) ?_
    rw [rdL_mid, Int.toNat_natCast, wrap_succ (by omega)]
    refine ev_pos (by rw [List.length_append, List.length_cons]; omega) (ev_pos (by omega) (ev_bind (markInt64S_ev x a h0 (by omega)) ?_))
    have h := ih (pre ++ [upFrom a x.length]) (a + x.length) (by omega) (by omega) (by rw [List.length_append, List.length_singleton]; omega) (fun y hy => h3 y (List.mem_cons_of_mem _ hy))
    rw [List.append_assoc, List.append_assoc, List.length_append, List.length_singleton] at h
    show Ev (fun k => laws_markInt64SS.l0 k ((pre ++ x :: l).set pre.length (upFrom a x.length)) (a + x.length) ((pre.length + 1 : Nat) : Int)) _
    rw [set_mid]
    exact h
theorem heldInt64SS_l0 : ∀ (l pre : List (List Int)) (a : Int), 0 ≤ a → a + 1048576 * (l.length : Int) ≤ 4000000000000 → pre.length + l.length ≤ 1048576 → (∀ x ∈ l, x.length ≤ 1048576) →
    Ev (fun k => laws_heldInt64SS.l0 k (pre ++ marks a l) a (pre.length : Int)) (markTot a l) := by
  intro l
  induction l with
  | nil =>
    intro pre a _ _ _ _
    refine Ev.step (fun k => by rw [laws_heldInt64SS.l0]) ?_
    rw [marks, List.append_nil]
    exact ev_neg (by omega) (ev_now _)
  | cons x l ih =>
    intro pre a h0 h1 h2 h3
    have hx := h3 x List.mem_cons_self
    rw [List.length_cons] at h1 h2
    refine Ev.step (fun k => by rw [laws_heldInt64SS.l0]) ?_
    rw [marks, rdL_mid, wrap_succ (by omega)]
    refine ev_pos (by rw [List.length_append, List.length_cons]; omega) (ev_pos (by omega) (ev_bind (heldInt64S_ev a h0 x.length (by omega)) (ev_neg (by omega) ?_)))
    have h := ih (pre ++ [upFrom a x.length]) (a + x.length) (by omega) (by omega) (by rw [List.length_append, List.length_singleton]; omega) (fun y hy => h3 y (List.mem_cons_of_mem _ hy))
    rw [List.append_assoc, List.length_append, List.length_singleton] at h
    exact h
theorem marked_ev (l : List (List Int)) (h1 : l.length ≤ 1048576) (h2 : ∀ x ∈ l, x.length ≤ 1048576) : ∃ (m : Int) (x : List (List Int)),
    Ev (fun k => laws_markInt64SS.f k l 1) (m, x) ∧ 0 ≤ m ∧ Ev (fun k => laws_heldInt64SS.f k x 1) m := by
  refine ⟨markTot 1 l, marks 1 l, ?_, ?_, ?_⟩
  · unfold laws_markInt64SS.f
    exact markInt64SS_l0 l [] 1 (by omega) (by omega) (by simpa using h1) h2
  · have := markTot_le l 1
    omega
  · unfold laws_heldInt64SS.f
    exact heldInt64SS_l0 l [] 1 (by omega) (by omega) (by simpa using h1) h2
end Go.Proofs.Ytjkgjmaldbmgmaa.Pure
end
section
namespace Go.Proofs.Ytjkgjmaldbmgmaa.P
open Go.RowKit Go.Proofs.YtjkgjmaldbmgmaaW.PrintWords Go.Proofs.YtjkgjmaldbmgmaaW.PrintLast Go.Proofs.YtjkgjmaldbmgmaaW.PrintMore
attribute [local go_sem] max2_int min2_int max_two min_two max_three min_three max_four min_four   -- for this text's walks alone
set_option linter.unusedVariables false
set_option linter.unusedSimpArgs false
def impl_greatest.l0 : Nat → Int → List Int → Int → Int → Option (Int)
  | 0, _, _, _, _ => none
  | k + 1, x3, x6, x7, x8 => if x8 < x7 then (if 0 ≤ x8 then (if x8 < (x6.length : Int) then (impl_greatest.l0 k (mx x3 (rd x6 x8)) x6 x7 (wrap64 (x8 + 1))) else (none)) else (none)) else (some x3)
def impl_greatest.f (k : Nat) (l0 : List Int) : Option (Int) := impl_greatest.l0 k 0 l0 (l0.length : Int) 0
theorem impl_greatest.mono_l : ∀ k, (∀ y0 y1 y2 y3, LeO (impl_greatest.l0 k y0 y1 y2 y3) (impl_greatest.l0 (k + 1) y0 y1 y2 y3))
  | 0 => fun _ _ _ _ r h => by simp [impl_greatest.l0] at h
  | k + 1 => by
    have ih0 := impl_greatest.mono_l k
    · intro y0 y1 y2 y3
      unfold impl_greatest.l0
      repeat' first
      | (with_reducible exact ih0 _ _ _ _)
      | (with_reducible exact LeO.refl _)
      | (with_reducible exact LeO.none _)
      | (with_reducible refine LeO.ite ?_ ?_)
      | (with_reducible refine LeO.bind ?_ (fun _ => ?_))
      | exact ih0 _ _ _ _
      | exact LeO.none _
      | refine LeO.ite ?_ ?_
      | refine LeO.bind ?_ (fun _ => ?_)
theorem impl_greatest.mono : ∀ a0 k, LeO (impl_greatest.f k a0) (impl_greatest.f (k + 1) a0) := by
  intro a0 k
  have ih0 := impl_greatest.mono_l k
  unfold impl_greatest.f
  repeat' first
      | (with_reducible exact ih0 _ _ _ _)
      | (with_reducible exact LeO.refl _)
      | (with_reducible exact LeO.none _)
      | (with_reducible refine LeO.ite ?_ ?_)
      | (with_reducible refine LeO.bind ?_ (fun _ => ?_))
      | exact ih0 _ _ _ _
      | exact LeO.none _
      | refine LeO.ite ?_ ?_
      | refine LeO.bind ?_ (fun _ => ?_)
end Go.Proofs.Ytjkgjmaldbmgmaa.P
end
section
namespace Go.Proofs.Ytjkgjmaldbmgmaa.P
open Go.RowKit Go.Proofs.YtjkgjmaldbmgmaaW.PrintWords Go.Proofs.YtjkgjmaldbmgmaaW.PrintLast Go.Proofs.YtjkgjmaldbmgmaaW.PrintMore
attribute [local go_sem] max2_int min2_int max_two min_two max_three min_three max_four min_four   -- for this text's walks alone
set_option linter.unusedVariables false
set_option linter.unusedSimpArgs false
def impl_Tasks_serves.l0 : Nat → List Int → List Int → Int → Int → Option (Bool)
  | 0, _, _, _, _ => none
  | k + 1, x1, x9, x10, x11 => if x11 < x10 then (if 0 ≤ x11 then (if x11 < (x9.length : Int) then ((impl_waits.f k x1 x11).bind fun t103 => (if (t103.length : Int) = 0 then (some false) else ((impl_greatest.f k t103).bind fun t106 => (if t106 > (rd x9 x11) then (some false) else (impl_Tasks_serves.l0 k x1 x9 x10 (wrap64 (x11 + 1))))))) else (none)) else (none)) else (some true)
def impl_Tasks_serves.f (k : Nat) (l0_0 : List Int) (l1 : List Int) : Option (Bool) := impl_Tasks_serves.l0 k l1 l0_0 (l0_0.length : Int) 0
theorem impl_Tasks_serves.mono_l : ∀ k, (∀ y0 y1 y2 y3, LeO (impl_Tasks_serves.l0 k y0 y1 y2 y3) (impl_Tasks_serves.l0 (k + 1) y0 y1 y2 y3))
  | 0 => fun _ _ _ _ r h => by simp [impl_Tasks_serves.l0] at h
  | k + 1 => by
    have ih0 := impl_Tasks_serves.mono_l k
    · intro y0 y1 y2 y3
      unfold impl_Tasks_serves.l0
      repeat' first
      | (with_reducible exact ih0 _ _ _ _)
      | (with_reducible exact impl_greatest.mono _ _)
      | (with_reducible exact impl_waits.mono _ _ _)
      | (with_reducible exact LeO.refl _)
      | (with_reducible exact LeO.none _)
      | (with_reducible refine LeO.ite ?_ ?_)
      | (with_reducible refine LeO.bind ?_ (fun _ => ?_))
      | exact ih0 _ _ _ _
      | exact impl_greatest.mono _ _
      | exact impl_waits.mono _ _ _
      | exact LeO.none _
      | refine LeO.ite ?_ ?_
      | refine LeO.bind ?_ (fun _ => ?_)
theorem impl_Tasks_serves.mono : ∀ a0 a1 k, LeO (impl_Tasks_serves.f k a0 a1) (impl_Tasks_serves.f (k + 1) a0 a1) := by
  intro a0 a1 k
  have ih0 := impl_Tasks_serves.mono_l k
  unfold impl_Tasks_serves.f
  repeat' first
      | (with_reducible exact ih0 _ _ _ _)
      | (with_reducible exact impl_greatest.mono _ _)
      | (with_reducible exact impl_waits.mono _ _ _)
      | (with_reducible exact LeO.refl _)
      | (with_reducible exact LeO.none _)
      | (with_reducible refine LeO.ite ?_ ?_)
      | (with_reducible refine LeO.bind ?_ (fun _ => ?_))
      | exact ih0 _ _ _ _
      | exact impl_greatest.mono _ _
      | exact impl_waits.mono _ _ _
      | exact LeO.none _
      | refine LeO.ite ?_ ?_
      | refine LeO.bind ?_ (fun _ => ?_)
end Go.Proofs.Ytjkgjmaldbmgmaa.P
end
section
namespace Go.Proofs.Ytjkgjmaldbmgmaa.P
open Go.RowKit Go.Proofs.YtjkgjmaldbmgmaaW.PrintWords Go.Proofs.YtjkgjmaldbmgmaaW.PrintLast Go.Proofs.YtjkgjmaldbmgmaaW.PrintMore
attribute [local go_sem] max2_int min2_int max_two min_two max_three min_three max_four min_four   -- for this text's walks alone
set_option linter.unusedVariables false
set_option linter.unusedSimpArgs false
def spec_l01Greatest.l0 : Nat → List Int → Int → Int → Option (Int)
  | 0, _, _, _ => none
  | k + 1, x5, x6, x7 => if x7 < (x5.length : Int) then (if 0 ≤ x7 then (spec_l01Greatest.l0 k x5 (mx x6 (rd x5 x7)) (wrap64 (x7 + 1))) else (none)) else (some x6)
def spec_l01Greatest.f (k : Nat) (l0 : List Int) (a1 : Int) : Option (Int) := (spec_l01Waits.f k l0 a1).bind fun t101 => (spec_l01Greatest.l0 k t101 0 0)
theorem spec_l01Greatest.mono_l : ∀ k, (∀ y0 y1 y2, LeO (spec_l01Greatest.l0 k y0 y1 y2) (spec_l01Greatest.l0 (k + 1) y0 y1 y2))
  | 0 => fun _ _ _ r h => by simp [spec_l01Greatest.l0] at h
  | k + 1 => by
    have ih0 := spec_l01Greatest.mono_l k
    · intro y0 y1 y2
      unfold spec_l01Greatest.l0
      repeat' first
      | (with_reducible exact ih0 _ _ _)
      | (with_reducible exact spec_l01Waits.mono _ _ _)
      | (with_reducible exact LeO.refl _)
      | (with_reducible exact LeO.none _)
      | (with_reducible refine LeO.ite ?_ ?_)
      | (with_reducible refine LeO.bind ?_ (fun _ => ?_))
      | exact ih0 _ _ _
      | exact spec_l01Waits.mono _ _ _
      | exact LeO.none _
      | refine LeO.ite ?_ ?_
      | refine LeO.bind ?_ (fun _ => ?_)
theorem spec_l01Greatest.mono : ∀ a0 a1 k, LeO (spec_l01Greatest.f k a0 a1) (spec_l01Greatest.f (k + 1) a0 a1) := by
  intro a0 a1 k
  have ih0 := spec_l01Greatest.mono_l k
  unfold spec_l01Greatest.f
  repeat' first
      | (with_reducible exact ih0 _ _ _)
      | (with_reducible exact spec_l01Waits.mono _ _ _)
      | (with_reducible exact LeO.refl _)
      | (with_reducible exact LeO.none _)
      | (with_reducible refine LeO.ite ?_ ?_)
      | (with_reducible refine LeO.bind ?_ (fun _ => ?_))
      | exact ih0 _ _ _
      | exact spec_l01Waits.mono _ _ _
      | exact LeO.none _
      | refine LeO.ite ?_ ?_
      | refine LeO.bind ?_ (fun _ => ?_)
end Go.Proofs.Ytjkgjmaldbmgmaa.P
end
section
namespace Go.Proofs.Ytjkgjmaldbmgmaa.P
open Go.RowKit Go.Proofs.YtjkgjmaldbmgmaaW.PrintWords Go.Proofs.YtjkgjmaldbmgmaaW.PrintLast Go.Proofs.YtjkgjmaldbmgmaaW.PrintMore
attribute [local go_sem] max2_int min2_int max_two min_two max_three min_three max_four min_four   -- for this text's walks alone
set_option linter.unusedVariables false
set_option linter.unusedSimpArgs false
def spec_l01K.f (l0_0 : List Int) : Option (Int) := some (l0_0.length : Int)
end Go.Proofs.Ytjkgjmaldbmgmaa.P
end
section
namespace Go.Proofs.Ytjkgjmaldbmgmaa.P
open Go.RowKit Go.Proofs.YtjkgjmaldbmgmaaW.PrintWords Go.Proofs.YtjkgjmaldbmgmaaW.PrintLast Go.Proofs.YtjkgjmaldbmgmaaW.PrintMore
attribute [local go_sem] max2_int min2_int max_two min_two max_three min_three max_four min_four   -- for this text's walks alone
set_option linter.unusedVariables false
set_option linter.unusedSimpArgs false
def spec_l01Serves.l0 : Nat → List Int → Int → List Int → Option (Bool)
  | 0, _, _, _ => none
  | k + 1, x1, x5, x102000 => (spec_l01K.f x102000).bind fun t102 => (if x5 < t102 then ((spec_l01Greatest.f k x1 x5).bind fun t103 => (if 0 ≤ x5 then (if x5 < (x102000.length : Int) then ((spec_l01In.f t103 1 (rd x102000 x5)).bind fun t105 => (if t105 = true then (spec_l01Serves.l0 k x1 (wrap64 (x5 + 1)) x102000) else (some false))) else (none)) else (none))) else (some true))
def spec_l01Serves.f (k : Nat) (l0_0 : List Int) (l1 : List Int) : Option (Bool) := spec_l01Serves.l0 k l1 0 l0_0
theorem spec_l01Serves.mono_l : ∀ k, (∀ y0 y1 y2, LeO (spec_l01Serves.l0 k y0 y1 y2) (spec_l01Serves.l0 (k + 1) y0 y1 y2))
  | 0 => fun _ _ _ r h => by simp [spec_l01Serves.l0] at h
  | k + 1 => by
    have ih0 := spec_l01Serves.mono_l k
    · intro y0 y1 y2
      unfold spec_l01Serves.l0
      repeat' first
      | (with_reducible exact ih0 _ _ _)
      | (with_reducible exact spec_l01Greatest.mono _ _ _)
      | (with_reducible exact LeO.refl _)
      | (with_reducible exact LeO.none _)
      | (with_reducible refine LeO.ite ?_ ?_)
      | (with_reducible refine LeO.bind ?_ (fun _ => ?_))
      | exact ih0 _ _ _
      | exact spec_l01Greatest.mono _ _ _
      | exact LeO.none _
      | refine LeO.ite ?_ ?_
      | refine LeO.bind ?_ (fun _ => ?_)
theorem spec_l01Serves.mono : ∀ a0 a1 k, LeO (spec_l01Serves.f k a0 a1) (spec_l01Serves.f (k + 1) a0 a1) := by
  intro a0 a1 k
  have ih0 := spec_l01Serves.mono_l k
  unfold spec_l01Serves.f
  repeat' first
      | (with_reducible exact ih0 _ _ _)
      | (with_reducible exact spec_l01Greatest.mono _ _ _)
      | (with_reducible exact LeO.refl _)
      | (with_reducible exact LeO.none _)
      | (with_reducible refine LeO.ite ?_ ?_)
      | (with_reducible refine LeO.bind ?_ (fun _ => ?_))
      | exact ih0 _ _ _
      | exact spec_l01Greatest.mono _ _ _
      | exact LeO.none _
      | refine LeO.ite ?_ ?_
      | refine LeO.bind ?_ (fun _ => ?_)
def spec_l01Serves.T4 : Bool × List (List Nat × List Nat) := (true, [([], []), ([], []), ([0, 1], [0, 1]), ([], []), ([3], [3]), ([], []), ([4, 5], [4, 5]), ([6], [6]), ([2, 7, 2], [2, 7]), ([8], [8])])
end Go.Proofs.Ytjkgjmaldbmgmaa.P
end
section
namespace Go.Proofs.Ytjkgjmaldbmgmaa.Pure
open Go.RowKit Go.Proofs.Ytjkgjmaldbmgmaa.P Go.Proofs.YtjkgjmaldbmgmaaW.PrintWords Go.Proofs.YtjkgjmaldbmgmaaW.PrintLast Go.Proofs.YtjkgjmaldbmgmaaW.PrintMore
set_option linter.unusedVariables false
set_option linter.unusedSimpArgs false
theorem posOf_rd {x : Int} {l : List Int} {i : Nat} (h : i < (posOf x 0 l).length) : 0 ≤ rd (posOf x 0 l) i ∧ rd (posOf x 0 l) i < l.length := by
  rw [rd_nat h]
  have := posOf_range x l 0 _ (List.getElem_mem h)
  omega
theorem l01Waits_l0 (l : List Int) (x : Int) (hl : l.length ≤ 1048576) : ∀ d n : Nat, n + d = l.length →
    Ev (fun k => spec_l01Waits.l0 k l x (diffs (posOf x 0 (l.take n))) ((posOf x 0 (l.take n)).headD (-1)) ((posOf x 0 (l.take n)).getLastD (-1)) (n : Int)) (waitsOf l x) := by
  intro d
  induction d with
  | zero =>
    intro n hn
    rw [List.take_of_length_le (by omega)]
    refine Ev.step (fun k => by rw [spec_l01Waits.l0]) (ev_neg (by omega) ?_)
    have hlen := posOf_length x l 0
    by_cases hp : posOf x 0 l = []
    · rw [hp]
      refine ev_neg (by simp) (ev_is ?_)
      simp [waitsOf, hp, diffs]
    · have h1 := posOf_range x l 0 _ (headD_mem hp (-1))
      have h2 := posOf_range x l 0 _ (getLastD_mem hp (-1))
      refine ev_pos (by omega) (ev_pos (by rw [diffs_length]; omega) (ev_is ?_))
      rw [wrap_id (x := (l.length : Int) - _) (by omega) (by omega), wrap_id (by omega) (by omega), waitsOf, if_neg hp]
  | succ d ih =>
    intro n hn
    have hlt : n < l.length := by omega
    refine Ev.step (fun k => by rw [spec_l01Waits.l0]) (ev_pos (by omega) (ev_pos (by omega) ?_))
    rw [rd_nat hlt, wrap_succ (by omega)]
    have ih := ih (n + 1) (by omega)
    rw [posOf_take_succ x l n hlt] at ih
    have hlen := posOf_length x (l.take n) 0
    rw [List.length_take] at hlen
    by_cases hx : l[n] = x
    · rw [if_pos hx] at ih
      refine ev_pos hx ?_
      by_cases hp : posOf x 0 (l.take n) = []
      · rw [hp] at ih ⊢
        exact ev_pos (by simp) (by simpa [diffs] using ih)
      · have h1 := posOf_range x (l.take n) 0 _ (headD_mem hp (-1))
        have h2 := posOf_range x (l.take n) 0 _ (getLastD_mem hp (-1))
        rw [List.length_take] at h1 h2
        refine ev_neg (by omega) (ev_pos (by rw [diffs_length]; omega) ?_)
        rw [wrap_id (by omega) (by omega)]
        rw [diffs_snoc _ _ (-1) hp] at ih
        have e1 : (posOf x 0 (l.take n) ++ [(n : Int)]).headD (-1) = (posOf x 0 (l.take n)).headD (-1) := by
          cases h : posOf x 0 (l.take n) with
          | nil => exact absurd h hp
          | cons => rfl
        have e2 : (posOf x 0 (l.take n) ++ [(n : Int)]).getLastD (-1) = (n : Int) := by simp
        rw [e1, e2] at ih
        exact ih
    · rw [if_neg hx, List.append_nil] at ih
      exact ev_neg hx ih
theorem l01Waits_ev (l : List Int) (x : Int) (hl : l.length ≤ 1048576) : Ev (fun k => spec_l01Waits.f k l x) (waitsOf l x) := by
  unfold spec_l01Waits.f
  simpa [posOf, diffs] using l01Waits_l0 l x hl l.length 0 (by omega)
theorem Waits_impl_l1 (l : List Int) (x : Int) (hl : l.length ≤ 1048576) : ∀ d n : Nat, n + d = (posOf x 0 l).length →
    Ev (fun k => impl_waits.l1 k l (posOf x 0 l) ((waitsOf l x).take n) (posOf x 0 l) ((posOf x 0 l).length : Int) (n : Int)) (waitsOf l x) := by
  intro d
  induction d with
  | zero =>
    intro n hn
    rw [List.take_of_length_le (by rw [waitsOf_length]; omega)]
    exact Ev.step (fun k => by rw [impl_waits.l1]) (ev_neg (by omega) (ev_now _))
  | succ d ih =>
    intro n hn
    have hlen := posOf_length x l 0
    have hlt : n < (posOf x 0 l).length := by omega
    have hp : posOf x 0 l ≠ [] := fun h => by rw [h] at hlt; simp at hlt
    have hb := posOf_rd hlt
    have ht : ((waitsOf l x).take n).length < 17592186044416 := by rw [List.length_take, waitsOf_length]; omega
    refine Ev.step (fun k => by rw [impl_waits.l1]) (ev_pos (by omega) (ev_pos (by omega) (ev_pos (by omega) ?_)))
    rw [wrap_succ (by omega)]
    have hlt2 : n < (waitsOf l x).length := by rw [waitsOf_length]; exact hlt
    have ih := ih (n + 1) (by omega)
    rw [List.take_succ_eq_append_getElem hlt2] at ih
    by_cases h1 : n + 1 < (posOf x 0 l).length
    · have hb1 := posOf_rd h1
      refine ev_pos (by omega) (ev_pos (by omega) (ev_pos ht ?_))
      rw [wrap_id (by omega) (by omega)]
      have e : (waitsOf l x)[n] = rd (posOf x 0 l) ((n + 1 : Nat) : Int) - rd (posOf x 0 l) (n : Int) := by
        have h2 : (waitsOf l x)[n]? = some (rd (posOf x 0 l) ((n + 1 : Nat) : Int) - rd (posOf x 0 l) (n : Int)) := by
          rw [waitsOf, if_neg hp, List.getElem?_append_left (by rw [diffs_length]; omega), diffs_get _ _ h1]
          simp only [rd, Int.toNat_natCast]
        rw [List.getElem?_eq_getElem hlt2] at h2
        exact Option.some.inj h2
      rw [e] at ih
      exact ih
    · have hb0 := posOf_rd (x := x) (l := l) (i := 0) (by omega)
      refine ev_neg (by omega) (ev_pos (by omega) (ev_fix (show impl_length_int64.f l = some (l.length : Int) from rfl) (ev_pos ht ?_)))
      have hb0 : 0 ≤ rd (posOf x 0 l) 0 ∧ rd (posOf x 0 l) 0 < l.length := hb0
      rw [wrap_id (x := rd (posOf x 0 l) 0 + _) (by omega) (by omega), wrap_id (by omega) (by omega)]
      have e : (waitsOf l x)[n] = rd (posOf x 0 l) 0 + (l.length : Int) - rd (posOf x 0 l) (n : Int) := by
        have h2 : (waitsOf l x)[n]? = some (rd (posOf x 0 l) 0 + (l.length : Int) - rd (posOf x 0 l) (n : Int)) := by
          have hn1 : n = (diffs (posOf x 0 l)).length := by rw [diffs_length]; omega
          rw [waitsOf, if_neg hp, List.getElem?_append_right (by omega), show n - (diffs (posOf x 0 l)).length = 0 by omega, List.getElem?_cons_zero]
          congr 1
          have e1 : (posOf x 0 l).headD (-1) = rd (posOf x 0 l) 0 := by
            cases h : posOf x 0 l with
            | nil => exact absurd h hp
            | cons => rfl
          have e2 : (posOf x 0 l).getLastD (-1) = rd (posOf x 0 l) (n : Int) := by
            rw [rd_nat hlt, List.getLastD_eq_getLast?, List.getLast?_eq_getElem?, show (posOf x 0 l).length - 1 = n by omega, List.getElem?_eq_getElem hlt]
            rfl
          rw [e1, e2]
          omega
        rw [List.getElem?_eq_getElem hlt2] at h2
        exact Option.some.inj h2
      rw [e] at ih
      exact ih
theorem Waits_impl_l0 (l : List Int) (x : Int) (hl : l.length ≤ 1048576) : ∀ d n : Nat, n + d = l.length →
    Ev (fun k => impl_waits.l0 k l x (posOf x 0 (l.take n)) l (l.length : Int) (n : Int)) (waitsOf l x) := by
  intro d
  induction d with
  | zero =>
    intro n hn
    rw [List.take_of_length_le (by omega)]
    refine Ev.step (fun k => by rw [impl_waits.l0]) (ev_neg (by omega) ?_)
    exact Waits_impl_l1 l x hl (posOf x 0 l).length 0 (by omega)
  | succ d ih =>
    intro n hn
    have hlt : n < l.length := by omega
    refine Ev.step (fun k => by rw [impl_waits.l0]) (ev_pos (by omega) (ev_pos (by omega) (ev_pos (by omega) ?_)))
    rw [rd_nat hlt, wrap_succ (by omega)]
    have ih := ih (n + 1) (by omega)
    rw [posOf_take_succ x l n hlt] at ih
    have hlen := posOf_length x (l.take n) 0
    rw [List.length_take] at hlen
    by_cases hx : l[n] = x
    · rw [if_pos hx] at ih
      exact ev_pos hx (ev_pos (by omega) ih)
    · rw [if_neg hx, List.append_nil] at ih
      exact ev_neg hx ih
theorem waits_ev (l : List Int) (x : Int) (hl : l.length ≤ 1048576) : Ev (fun k => impl_waits.f k l x) (waitsOf l x) := by
  unfold impl_waits.f
  simpa [posOf] using Waits_impl_l0 l x hl l.length 0 (by omega)
end Go.Proofs.Ytjkgjmaldbmgmaa.Pure
end
section
namespace Go.Proofs.Ytjkgjmaldbmgmaa.Pure
open Go.RowKit Go.Proofs.Ytjkgjmaldbmgmaa.P Go.Proofs.YtjkgjmaldbmgmaaW.PrintWords Go.Proofs.YtjkgjmaldbmgmaaW.PrintLast Go.Proofs.YtjkgjmaldbmgmaaW.PrintMore
set_option linter.unusedVariables false
set_option linter.unusedSimpArgs false
theorem waitsOf_len (l : List Int) (x : Int) : (waitsOf l x).length ≤ l.length := by rw [waitsOf_length]; exact posOf_length x l 0
end Go.Proofs.Ytjkgjmaldbmgmaa.Pure
end
section
namespace Go.Proofs.Ytjkgjmaldbmgmaa.Pure
open Go.RowKit Go.Proofs.Ytjkgjmaldbmgmaa.P Go.Proofs.YtjkgjmaldbmgmaaW.PrintWords Go.Proofs.YtjkgjmaldbmgmaaW.PrintLast Go.Proofs.YtjkgjmaldbmgmaaW.PrintMore
set_option linter.unusedVariables false
set_option linter.unusedSimpArgs false
theorem posOf_cnt (x : Int) (l : List Int) : ∀ o, ((posOf x o l).length : Int) = cnt x l := by
  induction l with
  | nil => intro o; rfl
  | cons y l ih =>
    intro o
    have h := ih (o + 1)
    by_cases e : y = x
    · simp only [posOf, cnt]
      rw [if_pos e, if_pos e, List.length_cons]
      omega
    · simp only [posOf, cnt]
      rw [if_neg e, if_neg e]
      omega
theorem mn_self (a : Int) : mn a a = a := by unfold mn; split <;> rfl
def lowW (w : List Int) : Int := w.foldl mn (rd w 0)
def highW (w : List Int) : Int := w.foldl mx (rd w 0)
theorem Min_l0 (l : List Int) (hl : l.length ≤ 1048576) (a : Int) : ∀ d n : Nat, n + d = l.length →
    Ev (fun k => slices_Min_Sint64_int64.l0 k l ((l.take n).foldl mn a) (n : Int)) (l.foldl mn a) := by
  intro d
  induction d with
  | zero =>
    intro n hn
    rw [List.take_of_length_le (by omega)]
    refine Ev.step (fun k => by rw [slices_Min_Sint64_int64.l0]) ?_
    exact ev_neg (by omega) (ev_now _)
  | succ d ih =>
    intro n hn
    have hlt : n < l.length := by omega
    refine Ev.step (fun k => by rw [slices_Min_Sint64_int64.l0]) (ev_pos (by omega) (ev_pos (by omega) ?_))
    rw [rd_nat hlt, wrap_succ (by omega)]
    have ih := ih (n + 1) (by omega)
    rw [List.take_succ_eq_append_getElem hlt, List.foldl_append] at ih
    exact ih
theorem MinW_ev (w : List Int) (hl : w.length ≤ 1048576) (h0 : 1 ≤ w.length) : Ev (fun k => slices_Min_Sint64_int64.f k w) (lowW w) := by
  unfold slices_Min_Sint64_int64.f
  refine ev_neg (by omega) (ev_pos (by omega) ?_)
  cases w with
  | nil => simp at h0
  | cons y l =>
    have h1 := Min_l0 (y :: l) hl y l.length 1 (by simp only [List.length_cons]; omega)
    have e1 : ((y :: l).take 1).foldl mn y = y := by simp [mn_self]
    rw [e1] at h1
    exact h1
theorem MaxW_ev (w : List Int) (hl : w.length ≤ 1048576) (h0 : 1 ≤ w.length) : Ev (fun k => slices_Max_Sint64_int64.f k w) (highW w) := by
  unfold slices_Max_Sint64_int64.f
  refine ev_neg (by omega) (ev_pos (by omega) ?_)
  cases w with
  | nil => simp at h0
  | cons y l =>
    have h1 := Max_l0 (y :: l) hl y l.length 1 (by simp only [List.length_cons]; omega)
    have e1 : ((y :: l).take 1).foldl mx y = y := by simp [mx_self]
    rw [e1] at h1
    exact h1
def spreadsL (l : List Int) (m : Nat) : List (List Int) := (List.range' 0 m).map fun (i : Nat) => [lowW (waitsOf l (i : Int)), highW (waitsOf l (i : Int))]
theorem spreadsL_length (l : List Int) (m : Nat) : (spreadsL l m).length = m := by simp [spreadsL]
theorem spreadsL_succ (l : List Int) (m : Nat) : spreadsL l (m + 1) = spreadsL l m ++ [[lowW (waitsOf l (m : Int)), highW (waitsOf l (m : Int))]] := by simp [spreadsL, List.range'_1_concat]
theorem waits_pos (l : List Int) (L : Level l) (i : Nat) (hi : (i : Int) ≤ great l) : 1 ≤ (waitsOf l (i : Int)).length := by
  rw [waitsOf_length]
  have h1 := posOf_cnt (i : Int) l 0
  have h2 := L.pos i hi
  omega
theorem Spreads_l1 (l : List Int) (w : List Int) (hw : w.length ≤ 1048576) (acc : List (List Int)) (ha : acc.length ≤ 1000) (M i : Nat) (hi : i ≤ 1000) (a : Int) (R : List (List Int) × Int)
    (hR : Ev (fun k => spec_SpreadsOf.l0 k l (acc ++ [[w.foldl mn a, w.foldl mx a]]) (M : Int) ((i + 1 : Nat) : Int)) R) : ∀ d n : Nat, n + d = w.length →
    Ev (fun k => spec_SpreadsOf.l1 k l acc w ((w.take n).foldl mn a) ((w.take n).foldl mx a) (M : Int) (i : Int) (w.length : Int) (n : Int)) R := by
  intro d
  induction d with
  | zero =>
    intro n hn
    rw [List.take_of_length_le (by omega)]
    refine Ev.step (fun k => by rw [spec_SpreadsOf.l1]) ?_
    rw [wrap_succ (n := i) (by omega)]
    exact ev_neg (by omega) (ev_pos (by omega) hR)
  | succ d ih =>
    intro n hn
    have hlt : n < w.length := by omega
    refine Ev.step (fun k => by rw [spec_SpreadsOf.l1]) (ev_pos (by omega) (ev_pos (by omega) (ev_pos (by omega) ?_)))
    rw [rd_nat hlt, wrap_succ (n := n) (by omega)]
    have ih := ih (n + 1) (by omega)
    rw [List.take_succ_eq_append_getElem hlt, List.foldl_append, List.foldl_append] at ih
    exact ih
theorem Spreads_l0 (l : List Int) (L : Level l) : ∀ d n : Nat, n + d = (great l + 1).toNat →
    Ev (fun k => spec_SpreadsOf.l0 k l (spreadsL l n) (((great l + 1).toNat : Nat) : Int) (n : Int)) (spreadsL l (great l + 1).toNat, 0) := by
  have ht := L.top
  have hl := L.len
  intro d
  induction d with
  | zero =>
    intro n hn
    obtain rfl : n = (great l + 1).toNat := by omega
    refine Ev.step (fun k => by rw [spec_SpreadsOf.l0]) ?_
    exact ev_neg (by omega) (ev_now _)
  | succ d ih =>
    intro n hn
    have hw := waits_pos l L n (by omega)
    have hw2 := waitsOf_len l (n : Int)
    have ih := ih (n + 1) (by omega)
    rw [spreadsL_succ] at ih
    refine Ev.step (fun k => by rw [spec_SpreadsOf.l0]) ?_
    exact ev_pos (by omega) (ev_bind (l01Waits_ev l n (by omega)) (ev_pos (by omega) (Spreads_l1 l (waitsOf l (n : Int)) (by omega) (spreadsL l n) (by rw [spreadsL_length]; omega) _ n (by omega) (rd (waitsOf l (n : Int)) 0) _ ih (waitsOf l (n : Int)).length 0 (by omega))))
theorem impl_Spreads_l0 (l : List Int) (L : Level l) : ∀ d n : Nat, n + d = (great l + 1).toNat →
    Ev (fun k => impl_SpreadsOf.l0 k l (spreadsL l n) (((great l + 1).toNat : Nat) : Int) (n : Int)) (spreadsL l (great l + 1).toNat, 0) := by
  have ht := L.top
  have hl := L.len
  intro d
  induction d with
  | zero =>
    intro n hn
    obtain rfl : n = (great l + 1).toNat := by omega
    refine Ev.step (fun k => by rw [impl_SpreadsOf.l0]) ?_
    exact ev_neg (by omega) (ev_now _)
  | succ d ih =>
    intro n hn
    have hw := waits_pos l L n (by omega)
    have hw2 := waitsOf_len l (n : Int)
    have ih := ih (n + 1) (by omega)
    rw [spreadsL_succ] at ih
    refine Ev.step (fun k => by rw [impl_SpreadsOf.l0]) ?_
    rw [wrap_succ (n := n) (by omega)]
    exact ev_pos (by omega) (ev_bind (waits_ev l n (by omega)) (ev_bind (MinW_ev _ (by omega) hw) (ev_bind (MaxW_ev _ (by omega) hw) (ev_pos (by rw [spreadsL_length]; omega) ih))))
end Go.Proofs.Ytjkgjmaldbmgmaa.Pure
end
section
namespace Go.Proofs.Ytjkgjmaldbmgmaa.Pure
open Go.RowKit Go.Proofs.Ytjkgjmaldbmgmaa.P Go.Proofs.YtjkgjmaldbmgmaaW.PrintWords Go.Proofs.YtjkgjmaldbmgmaaW.PrintLast Go.Proofs.YtjkgjmaldbmgmaaW.PrintMore
set_option linter.unusedVariables false
set_option linter.unusedSimpArgs false
def spreadR (l : List Int) : List (List Int) × Int := if levelR l = 0 then (spreadsL l (great l + 1).toNat, 0) else ([], levelR l)
theorem spreadR_small (l : List Int) : (spreadR l).1.length ≤ 1000 ∧ ∀ x ∈ (spreadR l).1, x.length ≤ 1000 := by
  unfold spreadR
  split
  · next h =>
    have L := levelR_zero h
    have ht := L.top
    refine ⟨by show (spreadsL l (great l + 1).toNat).length ≤ 1000; rw [spreadsL_length]; omega, fun x hx => ?_⟩
    obtain ⟨i, _, rfl⟩ := List.mem_map.1 hx
    simp
  · simp
theorem SpreadsOf_spec (l : List Int) (hl : l.length ≤ 1048576) : Ev (fun q => spec_SpreadsOf.f q l) (spreadR l) := by
  unfold spec_SpreadsOf.f spreadR
  refine ev_bind (l07Given_ev l hl) ?_
  by_cases h : levelR l = 0
  · have hs : (sharesL l).length = (great l + 1).toNat := tab_length _ _
    rw [if_pos h, if_pos h]
    refine ev_pos h ?_
    rw [hs]
    exact Spreads_l0 l (levelR_zero h) (great l + 1).toNat 0 (by omega)
  · rw [if_neg h, if_neg h]
    exact ev_neg h (ev_now _)
theorem SpreadsOf_impl (l : List Int) (hl : l.length ≤ 1048576) : Ev (fun q => impl_SpreadsOf.f q l) (spreadR l) := by
  unfold impl_SpreadsOf.f spreadR
  refine ev_bind (levelCode_ev l hl) ?_
  by_cases h : levelR l = 0
  · have L := levelR_zero h
    have ht := L.top
    rw [if_pos h]
    refine ev_pos h (ev_bind (Max_ev l hl L.len.1 (fun x hx => (L.mem x hx).1)) ?_)
    rw [wrap_id (by omega) (by omega), show great l + 1 = (((great l + 1).toNat : Nat) : Int) by omega]
    exact impl_Spreads_l0 l L (great l + 1).toNat 0 (by omega)
  · rw [if_neg h]
    exact ev_neg h (ev_now _)
theorem FnExactSpreadsOf : laws_FnExactSpreadsOf.Pure := by
  intro l hl0
  refine ev_rounds (g := fun q => laws_FnExactSpreadsOf.f q l) ?_
  unfold laws_FnExactSpreadsOf.f
  by_cases hl : (l.length : Int) > 1048576
  · exact ev_pos hl (ev_now _)
  · obtain ⟨s1, s2⟩ := spreadR_small l
    obtain ⟨m2, x2, hm2, p2, hh⟩ := marked_ev (spreadR l).1 (by omega) (fun x hx => by have := s2 x hx; omega)
    refine ev_neg hl (ev_bind (toInt64S_ev l (by omega)) (ev_pos rfl (ev_bind (SpreadsOf_spec l (by omega)) (ev_bind (SpreadsOf_impl l (by omega)) (ev_pos rfl ?_)))))
    refine ev_bind (eqInt64SS_ev _ (by omega) (fun x hx => by have := s2 x hx; omega)) (ev_pos rfl (ev_bind (eqInt64S_ev l (by omega)) (ev_pos rfl ?_)))
    exact ev_bind (markInt64S_ev l 1 (by omega) (by omega)) (ev_pos (show (0 : Int) ≤ 1 + l.length by omega) (ev_bind hm2 (ev_bind hh (ev_pos ⟨p2, rfl⟩ (ev_now _)))))
end Go.Proofs.Ytjkgjmaldbmgmaa.Pure
end
section
namespace Go.Proofs.Ytjkgjmaldbmgmaa.fnExactSpreadsOf
open Go.ChangeShapes Go.WideShapes Go.ChangeAt Go.RowKit Go.Deep Go.Proofs.Ytjkgjmaldbmgmaa.P
open Go.ChangeMaps (open_string shut_string)
set_option linter.unusedVariables false
theorem own : ownKnob Try.prog.godebug = none := by kernel_rfl
theorem laidOut : laidOutB Try.prog = true := by kernel_rfl
set_option maxRecDepth 100000 in
theorem lifted (os : Os) (started : os.Started) (H : Type) (enc : TypeId × Value → H) :
    ReturnsInHanded {} Try.checked os 8 .any (Rows.fnExactSpreadsOfSpec.pre6 enc Try.prog Try.f8 Rows.fnExactSpreadsOfRow.domain false) (Rows.fnExactSpreadsOfSpec.post enc Try.prog Try.f8 false true false false) := by
  refine returnsInHanded_of_change_sized (C := Try.checked) own started (by kernel_rfl) Try.func8
    (ChangeSpec.witness6 (enc := enc) (C := Try.checked) false ⟨#[], #[.slice none 0 0], []⟩ 8 (by kernel_rfl) (by kernel_rfl) (by kernel_rfl) (by kernel_rfl)) ?_
  intro W base args ds gs before hval0 hW hcnd hsz0 _
  have hsz : (DataW.weightsEach Try.prog (Try.f8.params.toList ++ Rows.fnExactSpreadsOfSpec.plain.varTypes Try.prog) (ds ++ gs)).all (· ≤ reachBytes) = true := hsz0
  have hval : ∀ (j : Nat) t v, Try.f8.params[j]? = some t → args[j]? = some v → Value.okWide Try.prog W .any base t v := hval0
  have hW' := hW
  obtain ⟨p, q, hA0, hV, rfl, hfz, hnd⟩ := hW
  have hA : DataW.TrodAll enc Try.prog W 0 (fun _ => true) true Try.f8.params.toList args.toList ds p := hA0
  rw [Try.params8] at hA hval hsz
  obtain ⟨v0, vs0, d0, ds0, p0, q0, hargs, rfl, rfl, h0, r0⟩ := trodAll_cons hA
  obtain ⟨rfl, rfl, rfl⟩ := trodAll_nil r0
  obtain rfl : args = #[v0] := by cases args; simp_all
  obtain ⟨rfl, rfl⟩ := trodVars_none hV
  have k0 := h0
  have lt0 : ∀ x ∈ p0, x.block < W.heap.size := by obtain ⟨m, hm⟩ := k0; exact DataW.trod_lt m _ _ _ hm
  obtain ⟨l0, A0, c0, rfl, hc0, hr0, w0⟩ := open_row (opens_int Try.underlying2) Try.underlying22 (by kernel_rfl) rfl (hval 0 22 v0 rfl rfl) h0
  clear hA0 hval0 hsz0 hsz
  refine (P.laws_FnExactSpreadsOf.walk Pure.FnExactSpreadsOf A0 c0 l0 W hr0 hc0 w0).mono fun e W' ⟨he, bel⟩ => ?_
  subst he
  exact ⟨_, rfl, _, _, _, [], _, [], hW', trodAll_mk1 (shut_bool Try.underlying4 _), (trodAll_cons_mk (Below.trod laidOut (by kernel_rfl) (of_decide_eq_true (by kernel_rfl)) k0 bel lt0) trodAll_mk0), rfl, bel.frame _, fun h => by cases h⟩
theorem over : Rows.fnExactSpreadsOfRow.holds Try.pinned (OpenSpec.ofChange Rows.fnExactSpreadsOfSpec) :=
  OpenClaim.holds_of_wide 8 Try.f8 rfl rfl rfl rfl rfl rfl rfl ⟨rfl, rfl, rfl, rfl, rfl⟩ rfl rfl rfl rfl rfl (by kernel_rfl) Try.func8 (by kernel_rfl)
    (of_decide_eq_true (by kernel_rfl)) (by unfold Func.isWrapper; first | (rw [if_pos (by decide +kernel)]; kernel_rfl) | (rw [if_neg (by decide +kernel)]; exact ⟨rfl, rfl⟩))
    (fun os started H enc _ => lifted os started H enc)
theorem proved : Rows.FnExactSpreadsOfSaid := over
end Go.Proofs.Ytjkgjmaldbmgmaa.fnExactSpreadsOf
namespace Go.Proofs.Ytjkgjmaldbmgmaa
/-- The row, under a short name, for the claim. -/
theorem fnExactSpreadsOf_holds : Rows.FnExactSpreadsOfSaid := fnExactSpreadsOf.proved
end Go.Proofs.Ytjkgjmaldbmgmaa
end
