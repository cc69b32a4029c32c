/- Greedy turns and deadline turns have their shares, least differences are not greater than those of greedy turns, and doubled turns are balanced. -/
import Derived.Test.YtpmconnonleokaaCFnLevel8
import Derived.Test.YtpmconnonleokaaRows
section
namespace Go.Proofs.Ytpmconnonleokaa.Pure
open Go.RowKit Go.Proofs.Ytpmconnonleokaa.P Go.Proofs.YtpmconnonleokaaW.PrintWords Go.Proofs.YtpmconnonleokaaW.PrintLast Go.Proofs.YtpmconnonleokaaW.PrintMore
set_option linter.unusedVariables false
set_option linter.unusedSimpArgs false
theorem isTurns_len {l : List Int} {k : Int} (h : isTurns l k = true) : 1 ≤ l.length ∧ l.length ≤ 120 := by
  rw [isTurns, Bool.and_eq_true] at h
  have := of_decide_eq_true h.1
  omega
theorem isTurns_mem {l : List Int} {k : Int} (h : isTurns l k = true) {x : Int} (hx : x ∈ l) : -1 ≤ x ∧ x ≤ wrap64 (k - 1) := by
  rw [isTurns, Bool.and_eq_true, List.all_eq_true] at h
  exact of_decide_eq_true (h.2 x hx)
end Go.Proofs.Ytpmconnonleokaa.Pure
end
section
namespace Go.Proofs.Ytpmconnonleokaa.Pure
open Go.RowKit Go.Proofs.Ytpmconnonleokaa.P Go.Proofs.YtpmconnonleokaaW.PrintWords Go.Proofs.YtpmconnonleokaaW.PrintLast Go.Proofs.YtpmconnonleokaaW.PrintMore
set_option linter.unusedVariables false
set_option linter.unusedSimpArgs false
def sharesL (l : List Int) : List Int := tab (fun i => cnt (i : Int) l) (great l + 1).toNat
def levelR (l : List Int) : Int := if isTurns l 8 = true then (if l.contains (-1) = true then 5 else if (sharesL l).contains 0 = true then 5 else if (l.length : Int) > 60 then 5 else 0) else 2
theorem rd_tab {f : Nat → Int} {m i : Nat} (h : i < m) : rd (tab f m) (i : Int) = f i := by
  rw [rd_nat (by rw [tab_length]; exact h), tab_get]
theorem isTurns8_mem {l : List Int} (h : isTurns l 8 = true) {x : Int} (hx : x ∈ l) : -1 ≤ x ∧ x ≤ 7 := by
  have h1 := isTurns_mem h hx
  rw [wrap_id (by omega) (by omega)] at h1
  omega
theorem great_nonneg (l : List Int) : 0 ≤ great l := (le_foldl_mx l 0).1
theorem great_le {l : List Int} {b : Int} (hb : 0 ≤ b) (h : ∀ x ∈ l, x ≤ b) : great l ≤ b := by
  have : ∀ (m : List Int) (a : Int), a ≤ b → (∀ x ∈ m, x ≤ b) → m.foldl mx a ≤ b := by
    intro m
    induction m with
    | nil => intro a ha _; exact ha
    | cons y m ih =>
      intro a ha hm
      refine ih _ ?_ fun x hx => hm x (List.mem_cons_of_mem _ hx)
      have := hm y List.mem_cons_self
      unfold mx; split <;> omega
  exact this l 0 hb h
theorem contains_false {l : List Int} {x : Int} (h : l.contains x = false) : x ∉ l := by
  intro hx
  rw [List.contains_iff_mem.2 hx] at h
  exact absurd h (by simp)
structure Level (l : List Int) : Prop where
  turns : isTurns l 8 = true
  len : 1 ≤ l.length ∧ l.length ≤ 60
  mem : ∀ x ∈ l, 0 ≤ x ∧ x ≤ 7
  top : 0 ≤ great l ∧ great l ≤ 7
  pos : ∀ i : Nat, (i : Int) ≤ great l → 1 ≤ cnt i l
theorem levelR_zero {l : List Int} (h : levelR l = 0) : Level l := by
  unfold levelR at h
  split at h
  · next h1 =>
    split at h
    · omega
    · next h2 =>
      split at h
      · omega
      · next h3 =>
        split at h
        · omega
        · next h4 =>
          have hm : ∀ x ∈ l, 0 ≤ x ∧ x ≤ 7 := fun x hx => by
            have := isTurns8_mem h1 hx
            have : x ≠ -1 := fun e => contains_false (Bool.eq_false_iff.2 h2) (e ▸ hx)
            omega
          have hg := great_nonneg l
          refine ⟨h1, by have := isTurns_len h1; omega, hm, ⟨hg, great_le (by omega) fun x hx => (hm x hx).2⟩, fun i hi => ?_⟩
          have h0 := contains_false (Bool.eq_false_iff.2 h3)
          have hlt : i < (sharesL l).length := by rw [sharesL, tab_length]; omega
          have h5 : (sharesL l)[i] = cnt i l := by simp only [sharesL]; exact tab_get _ _ _ _
          have h6 : cnt (i : Int) l ≠ 0 := fun e => h0 (by rw [← e, ← h5]; exact List.getElem_mem hlt)
          have := (cnt_bounds (i : Int) l).1
          omega
  · omega
theorem share_l0 (l : List Int) (x : Int) (hl : l.length ≤ 1048576) : ∀ d n : Nat, n + d = l.length →
    Ev (fun k => impl_share.l0 k x (cnt x (l.take n)) l (l.length : Int) (n : Int)) (cnt x l) := by
  intro d
  induction d with
  | zero =>
    intro n hn
    rw [List.take_of_length_le (by omega)]
    exact Ev.step (fun k => by rw [impl_share.l0]) (ev_neg (by omega) (ev_now _))
  | succ d ih =>
    intro n hn
    have hlt : n < l.length := by omega
    have hb := cnt_bounds x (l.take n)
    rw [List.length_take] at hb
    have ih := ih (n + 1) (by omega)
    rw [cnt_take_succ x l n hlt] at ih
    refine Ev.step (fun k => by rw [impl_share.l0]) (ev_pos (by omega) (ev_pos (by omega) (ev_pos (by omega) ?_)))
    rw [rd_nat hlt, wrap_succ (by omega)]
    by_cases c : l[n] = x
    · rw [if_pos c] at ih
      refine ev_pos c ?_
      rw [wrap_id (by omega) (by omega)]
      exact ih
    · rw [if_neg c, Int.add_zero] at ih
      exact ev_neg c ih
theorem share_ev (l : List Int) (x : Int) (hl : l.length ≤ 1048576) : Ev (fun k => impl_share.f k l x) (cnt x l) := by
  unfold impl_share.f
  exact share_l0 l x hl l.length 0 (by omega)
theorem Max_l0 (l : List Int) (hl : l.length ≤ 1048576) (a : Int) : ∀ d n : Nat, n + d = l.length →
    Ev (fun k => slices_Max_Sint64_int64.l0 k l ((l.take n).foldl mx a) (n : Int)) (l.foldl mx a) := by
  intro d
  induction d with
  | zero =>
    intro n hn
    rw [List.take_of_length_le (by omega)]
    exact Ev.step (fun k => by rw [slices_Max_Sint64_int64.l0]) (ev_neg (by omega) (ev_now _))
  | succ d ih =>
    intro n hn
    have hlt : n < l.length := by omega
    refine Ev.step (fun k => by rw [slices_Max_Sint64_int64.l0]) (ev_pos (by omega) (ev_pos (by omega) ?_))
    rw [rd_nat hlt, wrap_succ (by omega)]
    have ih := ih (n + 1) (by omega)
    rw [List.take_succ_eq_append_getElem hlt, List.foldl_append] at ih
    exact ih
theorem mx_self (a : Int) : mx a a = a := by unfold mx; split <;> rfl
theorem Max_ev (l : List Int) (hl : l.length ≤ 1048576) (h0 : 1 ≤ l.length) (hp : ∀ x ∈ l, 0 ≤ x) : Ev (fun k => slices_Max_Sint64_int64.f k l) (great l) := by
  unfold slices_Max_Sint64_int64.f
  refine ev_neg (by omega) (ev_pos (by omega) ?_)
  cases l with
  | nil => simp at h0
  | cons y l =>
    have hy := hp y List.mem_cons_self
    have h1 := Max_l0 (y :: l) hl y l.length 1 (by simp only [List.length_cons]; omega)
    have e0 : great (y :: l) = (y :: l).foldl mx y := by
      have : mx 0 y = y := by unfold mx; split <;> omega
      simp only [great, List.foldl_cons, this, mx_self]
    have e1 : ((y :: l).take 1).foldl mx y = y := by simp [mx_self]
    rw [e1, ← e0] at h1
    exact h1
theorem sharesOf_l0 (l : List Int) (hl : l.length ≤ 1048576) (M : Nat) (hM : M ≤ 1000) : ∀ d n : Nat, n + d = M →
    Ev (fun k => impl_sharesOf.l0 k l (tab (fun i => cnt (i : Int) l) n) (M : Int) (n : Int)) (tab (fun i => cnt (i : Int) l) M) := by
  intro d
  induction d with
  | zero =>
    intro n hn
    obtain rfl : n = M := by omega
    exact Ev.step (fun k => by rw [impl_sharesOf.l0]) (ev_neg (by omega) (ev_now _))
  | succ d ih =>
    intro n hn
    have ih := ih (n + 1) (by omega)
    rw [tab_succ] at ih
    refine Ev.step (fun k => by rw [impl_sharesOf.l0]) ?_
    refine ev_pos (by omega) (ev_bind (share_ev l _ hl) (ev_pos (by rw [tab_length]; omega) ?_))
    rw [wrap_succ (by omega)]
    exact ih
theorem sharesOf_ev (l : List Int) (hl : l.length ≤ 1048576) (h0 : 1 ≤ l.length) (hp : ∀ x ∈ l, 0 ≤ x ∧ x ≤ 7) : Ev (fun k => impl_sharesOf.f k l) (sharesL l) := by
  unfold impl_sharesOf.f
  have hg := great_nonneg l
  have hg2 := great_le (l := l) (b := 7) (by omega) fun x hx => (hp x hx).2
  refine ev_bind (Max_ev l hl h0 fun x hx => (hp x hx).1) ?_
  rw [wrap_id (by omega) (by omega), show great l + 1 = ((great l + 1).toNat : Int) by omega]
  exact sharesOf_l0 l hl (great l + 1).toNat (by omega) (great l + 1).toNat 0 (by omega)
theorem levelCode_ev (l : List Int) (hl : l.length ≤ 1048576) : Ev (fun k => impl_levelCode.f k l) (levelR l) := by
  unfold impl_levelCode.f levelR
  refine ev_fix (areTurns_f l 8) ?_
  cases ht : isTurns l 8 with
  | false => exact ev_neg (by simp) (ev_is (by simp))
  | true =>
    rw [if_pos rfl]
    have hlen := isTurns_len ht
    refine ev_pos rfl (ev_bind (Contains_ev l (-1) (by omega)) ?_)
    cases hc : l.contains (-1) with
    | true => exact ev_pos rfl (ev_is (by simp))
    | false =>
      show Ev _ (if (sharesL l).contains 0 = true then 5 else if (l.length : Int) > 60 then 5 else 0)
      have hm : ∀ x ∈ l, 0 ≤ x ∧ x ≤ 7 := fun x hx => by
        have := isTurns8_mem ht hx
        have : x ≠ -1 := fun e => contains_false hc (e ▸ hx)
        omega
      have hg := great_le (l := l) (b := 7) (by omega) fun x hx => (hm x hx).2
      refine ev_neg (by simp) (ev_bind (sharesOf_ev l hl hlen.1 hm) (ev_bind (Contains_ev (sharesL l) 0 (by rw [sharesL, tab_length]; omega)) ?_))
      cases hz : (sharesL l).contains 0 with
      | true => exact ev_pos rfl (ev_now _)
      | false =>
        show Ev _ (if (l.length : Int) > 60 then 5 else 0)
        refine ev_neg (by simp) ?_
        by_cases h60 : (l.length : Int) > 60
        · exact ev_pos h60 (ev_is (by rw [if_pos h60]))
        · exact ev_neg h60 (ev_is (by rw [if_neg h60]))
end Go.Proofs.Ytpmconnonleokaa.Pure
end
section
namespace Go.Proofs.Ytpmconnonleokaa.Pure
open Go.RowKit Go.Proofs.Ytpmconnonleokaa.P Go.Proofs.YtpmconnonleokaaW.PrintWords Go.Proofs.YtpmconnonleokaaW.PrintLast Go.Proofs.YtpmconnonleokaaW.PrintMore
set_option linter.unusedVariables false
set_option linter.unusedSimpArgs false
def dif (l : List Int) (n i : Nat) : Int := (l.length : Int) * cnt (i : Int) (l.take n) - (n : Int) * cnt (i : Int) l
theorem prod60 {x y : Int} (hx : 0 ≤ x ∧ x ≤ 60) (hy : 0 ≤ y ∧ y ≤ 60) : 0 ≤ x * y ∧ x * y ≤ 3600 :=
  ⟨Int.mul_nonneg hx.1 hy.1, by have := Int.mul_le_mul hx.2 hy.2 hy.1 (by omega); omega⟩
theorem dif_parts (l : List Int) (hl : l.length ≤ 60) (n i : Nat) (hn : n ≤ l.length) : (0 ≤ (l.length : Int) * cnt (i : Int) (l.take n) ∧ (l.length : Int) * cnt (i : Int) (l.take n) ≤ 3600) ∧ (0 ≤ (n : Int) * cnt (i : Int) l ∧ (n : Int) * cnt (i : Int) l ≤ 3600) := by
  have h1 := cnt_bounds (i : Int) (l.take n)
  rw [List.length_take] at h1
  have h2 := cnt_bounds (i : Int) l
  exact ⟨prod60 (by omega) (by omega), prod60 (by omega) (by omega)⟩
theorem dif_bounds (l : List Int) (hl : l.length ≤ 60) (n i : Nat) (hn : n ≤ l.length) : -3600 ≤ dif l n i ∧ dif l n i ≤ 3600 := by
  have := dif_parts l hl n i hn
  unfold dif
  omega
theorem dif_zero (l : List Int) (i : Nat) : dif l 0 i = 0 := by simp [dif, cnt]
theorem dif_succ (l : List Int) (n i : Nat) (hn : n < l.length) : dif l (n + 1) i = dif l n i - cnt (i : Int) l + (if l[n] = (i : Int) then (l.length : Int) else 0) := by
  unfold dif
  rw [cnt_take_succ _ l n hn, Int.natCast_add, Int.add_mul, Int.mul_add]
  split
  · simp only [Int.mul_one, Int.natCast_one, Int.one_mul]; omega
  · simp only [Int.mul_zero, Int.natCast_one, Int.one_mul]; omega
def rowD (l : List Int) (m n : Nat) : List Int := tab (fun i => dif l n i) m
def rowsD (l : List Int) (m n : Nat) : List (List Int) := (List.range' 0 n).map (rowD l m)
theorem rowsD_length (l : List Int) (m n : Nat) : (rowsD l m n).length = n := by simp [rowsD]
theorem rowsD_succ (l : List Int) (m n : Nat) : rowsD l m (n + 1) = rowsD l m n ++ [rowD l m n] := by simp [rowsD, List.range'_1_concat]
theorem rowsD_rd (l : List Int) (m M n : Nat) (h : n < M) : rd_L2 (rowsD l m M) (n : Int) = rowD l m n := by
  simp [rd_L2, rowsD, h]
theorem rowD_length (l : List Int) (m n : Nat) : (rowD l m n).length = m := tab_length _ _
theorem Own_f (l : List Int) (h : l.length ≤ 1048576) : spec_l01Own.f l = some l := by
  show (if ([] : List Int).length + l.length < 17592186044416 then some (([] : List Int) ++ l) else none) = some l
  rw [if_pos (by rw [List.length_nil]; omega), List.nil_append]
theorem Dif_l1 (l : List Int) (L : Level l) (n : Nat) (hn : n < l.length) (R : List (List Int))
    (hR : Ev (fun k => spec_l07Differences.l0 k l (sharesL l) (l.length : Int) (rowsD l (great l + 1).toNat (n + 2)) ((n + 1 : Nat) : Int)) R) : ∀ d j : Nat, j + d = (great l + 1).toNat →
    Ev (fun k => spec_l07Differences.l1 k l (sharesL l) (l.length : Int) (rowsD l (great l + 1).toNat (n + 1)) (n : Int) (tab (fun i => if i < j then dif l n i - cnt (i : Int) l else dif l n i) (great l + 1).toNat) (((great l + 1).toNat : Nat) : Int) (j : Int)) R := by
  have ht := L.top
  have hl := L.len
  intro d
  induction d with
  | zero =>
    intro j hj
    have hx := L.mem _ (List.getElem_mem hn)
    have hg := great_pos (List.getElem_mem hn)
    obtain ⟨b, hb⟩ : ∃ b : Nat, l[n] = b := ⟨l[n].toNat, by omega⟩
    have hd := dif_bounds l hl.2 n b (by omega)
    have hc := cnt_bounds (b : Int) l
    refine Ev.step (fun k => by rw [spec_l07Differences.l1]) (ev_neg (by omega) (ev_pos (by omega) (ev_pos (by omega) ?_)))
    rw [rd_nat hn]
    refine ev_pos (by omega) (ev_pos (by rw [tab_length]; omega) (ev_pos (by rw [rowsD_length]; omega) ?_))
    rw [hb, rd_tab (by omega), Int.toNat_natCast, if_pos (by omega), wrap_id (x := dif l n b - cnt (b : Int) l + _) (by omega) (by omega), wrap_succ (by omega), tab_set]
    rw [tab_congr (g := fun i => dif l (n + 1) i) (fun i hi => by
      rw [dif_succ l n i hn, hb]
      by_cases e : i = b
      · subst e; rw [if_pos rfl, if_pos rfl]
      · rw [if_neg e, if_pos (by omega), if_neg (by omega), Int.add_zero])]
    have e := rowsD_succ l (great l + 1).toNat (n + 1)
    rw [e] at hR
    exact hR
  | succ d ih =>
    intro j hj
    have hd := dif_bounds l hl.2 n j (by omega)
    have hc := cnt_bounds (j : Int) l
    refine Ev.step (fun k => by rw [spec_l07Differences.l1]) (ev_pos (by omega) (ev_pos (by omega) (ev_pos (by rw [tab_length]; omega) (ev_pos (by rw [sharesL, tab_length]; omega) ?_))))
    rw [rd_tab (by omega), show rd (sharesL l) (j : Int) = cnt (j : Int) l from rd_tab (by omega), if_neg (by omega), Int.toNat_natCast, wrap_id (x := dif l n j - _) (by omega) (by omega), wrap_succ (by omega), tab_set]
    have ih := ih (j + 1) (by omega)
    rw [tab_congr (g := fun i => if i < j + 1 then dif l n i - cnt (i : Int) l else dif l n i) (fun i hi => by
      by_cases e : i = j
      · subst e; rw [if_pos rfl, if_pos (by omega)]
      · by_cases c : i < j
        · rw [if_neg e, if_pos c, if_pos (by omega)]
        · rw [if_neg e, if_neg c, if_neg (by omega)])]
    exact ih
theorem Dif_l0 (l : List Int) (L : Level l) : ∀ d n : Nat, n + d = l.length →
    Ev (fun k => spec_l07Differences.l0 k l (sharesL l) (l.length : Int) (rowsD l (great l + 1).toNat (n + 1)) (n : Int)) (rowsD l (great l + 1).toNat (l.length + 1)) := by
  have ht := L.top
  have hl := L.len
  intro d
  induction d with
  | zero =>
    intro n hn
    obtain rfl : n = l.length := by omega
    exact Ev.step (fun k => by rw [spec_l07Differences.l0]) (ev_neg (by omega) (ev_now _))
  | succ d ih =>
    intro n hn
    refine Ev.step (fun k => by rw [spec_l07Differences.l0]) (ev_pos (by omega) (ev_pos (by omega) (ev_pos (by rw [rowsD_length]; omega) ?_)))
    rw [rowsD_rd _ _ _ _ (by omega)]
    refine ev_fix (Own_f _ (by rw [rowD_length]; omega)) ?_
    have h := Dif_l1 l L n (by omega) _ (ih (n + 1) (by omega)) (great l + 1).toNat 0 (by omega)
    rw [rowD_length]
    rw [tab_congr (g := fun i => dif l n i) (fun i hi => by rw [if_neg (by omega)])] at h
    exact h
theorem l07Differences_ev (l : List Int) (L : Level l) : Ev (fun k => spec_l07Differences.f k l (sharesL l)) (rowsD l (great l + 1).toNat (l.length + 1)) := by
  have ht := L.top
  have hs : (sharesL l).length = (great l + 1).toNat := tab_length _ _
  unfold spec_l07Differences.f
  refine ev_pos (by omega) (ev_pos (by omega) ?_)
  have h := Dif_l0 l L l.length 0 (by omega)
  rw [show ((sharesL l).length : Int).toNat = (great l + 1).toNat by omega]
  rw [show rowsD l (great l + 1).toNat (0 + 1) = [List.replicate (great l + 1).toNat 0] by
    rw [rowsD_succ]
    simp only [rowsD, List.range'_zero, List.map_nil, List.nil_append, rowD]
    rw [← tab_zero, tab_congr (g := fun _ => 0) (fun i _ => dif_zero l i)]] at h
  exact h
end Go.Proofs.Ytpmconnonleokaa.Pure
end
section
namespace Go.Proofs.Ytpmconnonleokaa.Pure
open Go.RowKit Go.Proofs.Ytpmconnonleokaa.P Go.Proofs.YtpmconnonleokaaW.PrintWords Go.Proofs.YtpmconnonleokaaW.PrintLast Go.Proofs.YtpmconnonleokaaW.PrintMore
set_option linter.unusedVariables false
set_option linter.unusedSimpArgs false
/-- turns with two slots exchanged -/
def exch (l : List Int) (n m : Int) : List Int := (l.set n.toNat (rd l m)).set m.toNat (rd l n)
theorem l01Own_f (l : List Int) (hl : l.length < 17592186044416) : spec_l01Own.f l = some l := by
  unfold spec_l01Own.f
  simp only [Option.bind_some, List.nil_append, List.length_nil, Nat.zero_add]
  rw [if_pos hl]
end Go.Proofs.Ytpmconnonleokaa.Pure
end
section
namespace Go.Proofs.Ytpmconnonleokaa.Pure
open Go.RowKit Go.Proofs.Ytpmconnonleokaa.P Go.Proofs.YtpmconnonleokaaW.PrintWords Go.Proofs.YtpmconnonleokaaW.PrintLast Go.Proofs.YtpmconnonleokaaW.PrintMore
set_option linter.unusedVariables false
set_option linter.unusedSimpArgs false
def foldI (st : Int → Int → Int) (l : List Int) (n : Nat) : Nat → Nat → Int → Int
  | 0, _, a => a
  | d + 1, i, a => foldI st l n d (i + 1) (st a (dif l n i))
def foldN (st : Int → Int → Int) (l : List Int) (m : Nat) : Nat → Nat → Int → Int
  | 0, _, a => a
  | d + 1, n, a => foldN st l m d (n + 1) (foldI st l n m 0 a)
def foldD (st : Int → Int → Int) (l : List Int) : Int := foldN st l (great l + 1).toNat (l.length + 1) 0 0
theorem difs_l1 (st : Int → Int → Int) (l : List Int) (L : Level l) (n : Nat) (hn : n ≤ l.length) (R : Int) : ∀ d i : Nat, i + d = (great l + 1).toNat → ∀ a : Int,
    Ev (fun k => difs.l0 st k l (sharesL l) (tab (fun i => cnt (i : Int) (l.take (n + 1))) (great l + 1).toNat) (l.length : Int) ((n + 1 : Nat) : Int) (foldI st l n d i a)) R →
    Ev (fun k => difs.l1 st k l (sharesL l) (tab (fun i => cnt (i : Int) (l.take n)) (great l + 1).toNat) (l.length : Int) (n : Int) (i : Int) a) R := by
  have ht := L.top
  have hl := L.len
  have hs : (sharesL l).length = (great l + 1).toNat := tab_length _ _
  intro d
  induction d with
  | zero =>
    intro i hi a hR
    refine Ev.step (fun k => by rw [difs.l1]) (ev_neg (by omega) ?_)
    rw [wrap_succ (n := n) (by omega)]
    by_cases c : n < l.length
    · have hx := L.mem _ (List.getElem_mem c)
      have hg := great_pos (List.getElem_mem c)
      obtain ⟨b, hb⟩ : ∃ b : Nat, l[n] = b := ⟨l[n].toNat, by omega⟩
      have hcb := cnt_bounds (b : Int) (l.take n)
      rw [List.length_take] at hcb
      refine ev_pos (by omega) (ev_pos (by omega) (ev_pos (by omega) ?_))
      rw [rd_nat c]
      refine ev_pos (by omega) (ev_pos (by rw [tab_length]; omega) ?_)
      rw [hb, rd_tab (by omega), Int.toNat_natCast, wrap_id (x := cnt (b : Int) (l.take n) + 1) (by omega) (by omega), tab_set]
      rw [tab_congr (g := fun i => if i = b then cnt (b : Int) (l.take n) + 1 else cnt (i : Int) (l.take n)) (fun i hi => by
        rw [cnt_take_succ _ l n c, hb]
        by_cases e : i = b
        · subst e; rw [if_pos rfl, if_pos rfl]
        · rw [if_neg (by omega), if_neg e, Int.add_zero])] at hR
      exact hR
    · refine ev_neg (by omega) ?_
      rw [List.take_of_length_le (by omega)] at hR ⊢
      exact hR
  | succ d ih =>
    intro i hi a hR
    have hp := dif_parts l hl.2 n i hn
    have hb := dif_bounds l hl.2 n i hn
    refine Ev.step (fun k => by rw [difs.l1]) (ev_pos (by omega) (ev_pos (by omega) (ev_pos (by rw [tab_length]; omega) ?_)))
    rw [rd_tab (by omega), show rd (sharesL l) (i : Int) = cnt (i : Int) l from rd_tab (by omega), wrap_id (x := (l.length : Int) * _) (by omega) (by omega), wrap_id (x := (n : Int) * _) (by omega) (by omega), wrap_succ (by omega)]
    rw [show wrap64 ((l.length : Int) * cnt (i : Int) (l.take n) - (n : Int) * cnt (i : Int) l) = dif l n i from wrap_id (by unfold dif at hb; omega) (by unfold dif at hb; omega)]
    exact ih (i + 1) (by omega) _ hR
theorem difs_l0 (st : Int → Int → Int) (l : List Int) (L : Level l) : ∀ d n : Nat, n + d = l.length + 1 → ∀ a : Int,
    Ev (fun k => difs.l0 st k l (sharesL l) (tab (fun i => cnt (i : Int) (l.take n)) (great l + 1).toNat) (l.length : Int) (n : Int) a) (foldN st l (great l + 1).toNat d n a) := by
  have ht := L.top
  have hl := L.len
  intro d
  induction d with
  | zero =>
    intro n hn a
    refine Ev.step (fun k => by rw [difs.l0]) ?_
    rw [wrap_succ (n := l.length) (by omega)]
    exact ev_neg (by omega) (ev_now _)
  | succ d ih =>
    intro n hn a
    refine Ev.step (fun k => by rw [difs.l0]) ?_
    rw [wrap_succ (n := l.length) (by omega)]
    exact ev_pos (by omega) (difs_l1 st l L n (by omega) _ (great l + 1).toNat 0 (by omega) a (ih (n + 1) (by omega) _))
theorem difs_ev (st : Int → Int → Int) (l : List Int) (L : Level l) : Ev (fun k => difs.f st k l (sharesL l) 0) (foldD st l) := by
  have ht := L.top
  have hs : (sharesL l).length = (great l + 1).toNat := tab_length _ _
  unfold difs.f
  refine ev_pos (by omega) ?_
  have h := difs_l0 st l L (l.length + 1) 0 (by omega) 0
  rw [show tab (fun i => cnt (i : Int) (l.take 0)) (great l + 1).toNat = List.replicate (sharesL l).length 0 by
    rw [hs, ← tab_zero]; exact tab_congr fun i _ => by simp [cnt]] at h
  exact h
end Go.Proofs.Ytpmconnonleokaa.Pure
end
section
namespace Go.Proofs.Ytpmconnonleokaa.Pure
open Go.RowKit Go.Proofs.Ytpmconnonleokaa.P Go.Proofs.YtpmconnonleokaaW.PrintWords Go.Proofs.YtpmconnonleokaaW.PrintLast Go.Proofs.YtpmconnonleokaaW.PrintMore
set_option linter.unusedVariables false
set_option linter.unusedSimpArgs false
def stepB (l : List Int) (n m : Nat) (s : Int × Option (Nat × Nat)) : Int × Option (Nat × Nat) := if foldD sqD (exch l n m) < s.1 then (foldD sqD (exch l n m), some (n, m)) else s
def bestM (l : List Int) (n : Nat) : Nat → Nat → Int × Option (Nat × Nat) → Int × Option (Nat × Nat)
  | 0, _, s => s
  | d + 1, m, s => bestM l n d (m + 1) (stepB l n m s)
def bestN (l : List Int) : Nat → Nat → Int × Option (Nat × Nat) → Int × Option (Nat × Nat)
  | 0, _, s => s
  | d + 1, n, s => bestN l d (n + 1) (bestM l n (l.length - (n + 1)) (n + 1) s)
def best (l : List Int) : Int × Option (Nat × Nat) := bestN l l.length 0 (foldD sqD l, none)
end Go.Proofs.Ytpmconnonleokaa.Pure
end
section
namespace Go.Proofs.Ytpmconnonleokaa.Pure
set_option linter.unusedVariables false
set_option linter.unusedSimpArgs false
def sumTo (f : Nat → Int) : Nat → Int
  | 0 => 0
  | k + 1 => sumTo f k + f k
theorem sumTo_le {f g : Nat → Int} : ∀ k, (∀ i, i < k → f i ≤ g i) → sumTo f k ≤ sumTo g k := by
  intro k
  induction k with
  | zero => intro _; exact Int.le_refl _
  | succ k ih => intro h; have h1 := ih (fun i hi => h i (by omega)); have h2 := h k (by omega); simp only [sumTo]; omega
theorem sumTo_lt {f g : Nat → Int} : ∀ k, (∀ i, i < k → f i ≤ g i) → (∃ j, j < k ∧ f j < g j) → sumTo f k < sumTo g k := by
  intro k
  induction k with
  | zero => intro _ ⟨j, hj, _⟩; omega
  | succ k ih =>
    intro h ⟨j, hj, hlt⟩
    simp only [sumTo]
    by_cases e : j = k
    · subst e; have h1 := sumTo_le (f := f) (g := g) j (fun i hi => h i (by omega)); omega
    · have h1 := ih (fun i hi => h i (by omega)) ⟨j, by omega, hlt⟩; have h2 := h k (by omega); omega
theorem sumTo_add (f g : Nat → Int) : ∀ k, sumTo (fun i => f i + g i) k = sumTo f k + sumTo g k := by
  intro k
  induction k with
  | zero => rfl
  | succ k ih => simp only [sumTo]; rw [ih]; omega
theorem sumTo_zero : ∀ k, sumTo (fun _ => 0) k = 0 := by
  intro k
  induction k with
  | zero => rfl
  | succ k ih => simp only [sumTo]; rw [ih]; rfl
def hit (best : Nat → Int) (t i : Nat) : Int := if best t = (i : Int) then 1 else 0
def wrk (best : Nat → Int) : Nat → Nat → Int
  | 0, _ => 0
  | t + 1, i => wrk best t i + hit best t i
theorem hit_01 (best : Nat → Int) (t i : Nat) : hit best t i = 0 ∨ (hit best t i = 1 ∧ best t = (i : Int)) := by
  unfold hit; split
  · next h => exact .inr ⟨rfl, h⟩
  · exact .inl rfl
theorem sum_hit (best : Nat → Int) (t : Nat) : ∀ k, (best t < 0 → sumTo (hit best t) k = 0) ∧ (0 ≤ best t → sumTo (hit best t) k = if best t < (k : Int) then 1 else 0) := by
  intro k
  induction k with
  | zero => exact ⟨fun _ => rfl, fun h => by rw [if_neg (by omega)]; rfl⟩
  | succ k ih =>
    simp only [sumTo, hit]
    refine ⟨fun h => ?_, fun h => ?_⟩
    · have := ih.1 h
      rw [if_neg (by omega)]; omega
    · have := ih.2 h
      rw [this]
      by_cases e : best t = (k : Int)
      · rw [if_neg (by omega), if_pos e, if_pos (by omega)]; rfl
      · rw [if_neg e]
        by_cases e2 : best t < (k : Int)
        · rw [if_pos e2, if_pos (by omega)]; rfl
        · rw [if_neg e2, if_neg (by omega)]; rfl
structure Edf (k : Nat) (l p d : Nat → Nat) (left due a e : Nat → Nat → Int) (best : Nat → Int) : Prop where
  pd : ∀ i, i < k → 1 ≤ p i ∧ 1 ≤ d i ∧ d i ≤ p i
  l0 : ∀ i, i < k → left 0 i = 0
  ha : ∀ t i, i < k → a t i = if t % p i = 0 then (l i : Int) else left t i
  he : ∀ t i, i < k → e t i = if t % p i = 0 then ((t + d i : Nat) : Int) else due t i
  hb : ∀ t, (best t = -1 ∧ ∀ i, i < k → a t i ≤ 0) ∨ ∃ b : Nat, best t = (b : Int) ∧ b < k ∧ a t b > 0 ∧ ∀ i, i < k → a t i > 0 → e t b ≤ e t i
  nl : ∀ t i, i < k → left (t + 1) i = a t i - hit best t i
  nd : ∀ t i, i < k → due (t + 1) i = e t i
variable {k : Nat} {l p d : Nat → Nat} {left due a e : Nat → Nat → Int} {best : Nat → Int}
theorem Edf.hit_pos (E : Edf k l p d left due a e best) (t i : Nat) (hi : i < k) (h : best t = (i : Int)) : a t i > 0 := by
  rcases E.hb t with ⟨h1, _⟩ | ⟨b, h1, _, h2, _⟩
  · omega
  · rw [show i = b by omega]; exact h2
structure At (l p d : Nat → Nat) (left due : Nat → Nat → Int) (best : Nat → Int) (s i : Nat) : Prop where
  lo : 0 ≤ left (s + 1) i
  hi : left (s + 1) i ≤ l i
  du : due (s + 1) i = ((s / p i * p i + d i : Nat) : Int)
  wk : left (s + 1) i + wrk best (s + 1) i = ((l i * (s / p i + 1) : Nat) : Int)
  ti : left (s + 1) i > 0 → ((s + 1 : Nat) : Int) ≤ due (s + 1) i
theorem Edf.at (E : Edf k l p d left due a e best) (T : Nat) (hT : ∀ u i, u < T → i < k → ¬ (left u i > 0 ∧ due u i = (u : Int))) : ∀ s, s + 1 ≤ T → ∀ i, i < k → At l p d left due best s i := by
  intro s
  induction s with
  | zero =>
    intro _ i hi
    have h1 := E.pd i hi
    have h2 := E.nl 0 i hi
    have h3 := E.nd 0 i hi
    rw [E.ha 0 i hi, if_pos (Nat.zero_mod _)] at h2
    rw [E.he 0 i hi, if_pos (Nat.zero_mod _)] at h3
    have h4 := E.hit_pos 0 i hi
    rw [E.ha 0 i hi, if_pos (Nat.zero_mod _)] at h4
    have h5 := hit_01 best 0 i
    refine ⟨?_, ?_, ?_, ?_, ?_⟩
    · rcases h5 with h5 | ⟨h5, h6⟩
      · omega
      · have := h4 h6; omega
    · omega
    · rw [h3, Nat.zero_div, Nat.zero_mul]
    · rw [h2, Nat.zero_div, Nat.zero_add, Nat.mul_one, wrk, wrk]; omega
    · intro _; rw [h3]; omega
  | succ s ih =>
    intro hs i hi
    have A := ih (by omega) i hi
    have h1 := E.pd i hi
    have h2 := E.nl (s + 1) i hi
    have h3 := E.nd (s + 1) i hi
    have h4 := E.hit_pos (s + 1) i hi
    have h5 := hit_01 best (s + 1) i
    have hno := hT (s + 1) i (by omega) hi
    have hw : wrk best (s + 1 + 1) i = wrk best (s + 1) i + hit best (s + 1) i := rfl
    have alo := A.lo
    have ahi := A.hi
    have adu := A.du
    have awk := A.wk
    have ati := A.ti
    by_cases c : (s + 1) % p i = 0
    · rw [E.ha _ i hi, if_pos c] at h2 h4
      rw [E.he _ i hi, if_pos c] at h3
      have hq : (s + 1) / p i = s / p i + 1 := Nat.succ_div_of_dvd (Nat.dvd_of_mod_eq_zero c)
      have hm : (s + 1) / p i * p i = s + 1 := Nat.div_mul_cancel (Nat.dvd_of_mod_eq_zero c)
      have hz : left (s + 1) i = 0 := by
        rw [hq, Nat.add_mul, Nat.one_mul] at hm
        rcases Decidable.em (0 < left (s + 1) i) with h | h
        · exact absurd ⟨h, by have := ati h; omega⟩ hno
        · omega
      refine ⟨?_, ?_, ?_, ?_, ?_⟩
      · rcases h5 with h5 | ⟨h5, h6⟩
        · omega
        · have := h4 h6; omega
      · omega
      · rw [h3, hm]
      · rw [hq, h2, hw]
        rw [Nat.mul_add (l i) (s / p i + 1) 1]
        omega
      · intro _; rw [h3]; omega
    · rw [E.ha _ i hi, if_neg c] at h2 h4
      rw [E.he _ i hi, if_neg c] at h3
      have hq : (s + 1) / p i = s / p i := Nat.succ_div_of_not_dvd (fun h => c (Nat.mod_eq_zero_of_dvd h))
      refine ⟨?_, ?_, ?_, ?_, ?_⟩
      · rcases h5 with h5 | ⟨h5, h6⟩
        · omega
        · have := h4 h6; omega
      · rcases h5 with h5 | ⟨h5, h6⟩ <;> omega
      · rw [h3, hq]; exact adu
      · rw [hq, h2, hw]; omega
      · intro hp
        rw [h3]
        have hp1 : left (s + 1) i > 0 := by rcases h5 with h5 | ⟨h5, h6⟩ <;> omega
        have := ati hp1
        have : due (s + 1) i ≠ ((s + 1 : Nat) : Int) := fun h => hno ⟨hp1, h⟩
        omega
theorem Edf.first (E : Edf k l p d left due a e best) (s : Nat) : ∀ t, t < s → (∀ u, t ≤ u → u < s → ∃ b : Nat, best u = (b : Int) ∧ b < k ∧ e u b ≤ s) →
    ∃ t0, t0 ≤ t ∧ (∀ u, t0 ≤ u → u < s → ∃ b : Nat, best u = (b : Int) ∧ b < k ∧ e u b ≤ s) ∧ ∀ i, i < k → left t0 i > 0 → due t0 i > s := by
  intro t
  induction t with
  | zero => intro _ h; exact ⟨0, by omega, h, fun i hi hp => by rw [E.l0 i hi] at hp; omega⟩
  | succ t ih =>
    intro ht h
    by_cases c : ∃ b : Nat, best t = (b : Int) ∧ b < k ∧ e t b ≤ s
    · obtain ⟨t0, h0, h1, h2⟩ := ih (by omega) (fun u hu hus => by
        by_cases e : u = t
        · subst e; exact c
        · exact h u (by omega) hus)
      exact ⟨t0, by omega, h1, h2⟩
    · refine ⟨t + 1, by omega, h, fun i hi hp => ?_⟩
      rw [E.nl t i hi] at hp
      rw [E.nd t i hi]
      have hp2 : a t i > 0 := by rcases hit_01 best t i with h | ⟨h, _⟩ <;> omega
      rcases E.hb t with ⟨_, h1⟩ | ⟨b, h1, h2, _, h3⟩
      · have := h1 i hi; omega
      · have := h3 i hi hp2
        have : ¬ e t b ≤ s := fun h => c ⟨b, h1, h2, h⟩
        omega
end Go.Proofs.Ytpmconnonleokaa.Pure
end
section
namespace Go.Proofs.Ytpmconnonleokaa.Pure
open Go.RowKit Go.Proofs.Ytpmconnonleokaa.P Go.Proofs.YtpmconnonleokaaW.PrintWords Go.Proofs.YtpmconnonleokaaW.PrintLast Go.Proofs.YtpmconnonleokaaW.PrintMore
set_option linter.unusedVariables false
set_option linter.unusedSimpArgs false
/-- the first index among the first n at which a key is least -/
def bst (key : Nat → Int) : Nat → Nat
  | 0 => 0
  | j + 1 => if key j < key (bst key j) then j else bst key j
theorem bst_lt (key : Nat → Int) (n : Nat) (h : 0 < n) : bst key n < n := by
  induction n with
  | zero => omega
  | succ n ih =>
    rw [bst]
    split
    · omega
    · rcases Nat.eq_zero_or_pos n with h0 | h0
      · subst h0; simp [bst]
      · have := ih h0; omega
theorem bst_one (key : Nat → Int) : bst key 1 = 0 := by simp [bst]
def gKey (shares : List Int) (all n : Int) (many : List Int) (i : Nat) : Int := all * rd many i - (n + 1) * rd shares i
def greedyGo (shares : List Int) (all : Int) : Nat → List Int → List Int → Int → List Int
  | 0, _, out, _ => out
  | d + 1, many, out, n => greedyGo shares all d (many.set (bst (gKey shares all n many) shares.length) (rd many (bst (gKey shares all n many) shares.length : Nat) + 1)) (out ++ [(bst (gKey shares all n many) shares.length : Int)]) (n + 1)
theorem greedyGo_length (shares : List Int) (all : Int) : ∀ d many out n, (greedyGo shares all d many out n).length = out.length + d := by
  intro d
  induction d with
  | zero => intro many out n; rfl
  | succ d ih => intro many out n; rw [greedyGo, ih, List.length_append, List.length_singleton]; omega
/-- the greedy turns of shares -/
def greedy (shares : List Int) : List Int := greedyGo shares (tot shares) (tot shares).toNat (List.replicate shares.length 0) [] 0
def greedyR (shares : List Int) : List Int × Int := if isShares shares = true then (greedy shares, 0) else ([], 2)
theorem greedyR_length (l : List Int) : (greedyR l).1.length ≤ 60 := by
  unfold greedyR
  split
  · rename_i h
    have := isShares_pos h
    simp only [greedy, greedyGo_length, List.length_nil]
    omega
  · simp
/-- what holds of the numbers of turns ahead of the slot n -/
structure GInv (shares many : List Int) (n : Int) : Prop where
  len : many.length = shares.length
  bnd : ∀ i : Nat, i < many.length → 0 ≤ rd many i ∧ rd many i ≤ n
theorem GInv.start (shares : List Int) : GInv shares (List.replicate shares.length 0) 0 := ⟨by simp, fun i h => by rw [List.length_replicate] at h; simp [rd, List.getElem?_replicate, h]⟩
theorem GInv.next {shares many : List Int} {n : Int} (h : GInv shares many n) {b : Nat} (hb : b < shares.length) : GInv shares (many.set b (rd many b + 1)) (n + 1) := by
  refine ⟨by rw [List.length_set]; exact h.len, fun i hi => ?_⟩
  rw [List.length_set] at hi
  rw [rd_set (by rw [h.len]; exact hb)]
  have h1 := h.bnd i hi
  have h2 := h.bnd b (by rw [h.len]; exact hb)
  split <;> omega
structure GBnd (shares many : List Int) (all n : Int) : Prop where
  sh : isShares shares = true
  al : all = tot shares
  inv : GInv shares many n
  n0 : 0 ≤ n
  n1 : n < all
theorem GBnd.facts {shares many : List Int} {all n : Int} (h : GBnd shares many all n) (j : Nat) (hj : j < shares.length) :
    (0 ≤ all ∧ all ≤ 60) ∧ (0 ≤ rd many j ∧ rd many j ≤ 60) ∧ (1 ≤ rd shares j ∧ rd shares j ≤ 60) ∧ (0 ≤ n ∧ n ≤ 59) := by
  have h1 := isShares_pos h.sh
  have h2 := h.inv.bnd j (by rw [h.inv.len]; exact hj)
  have h3 := ((isShares_iff shares).1 h.sh).2.1 _ (List.getElem_mem hj)
  rw [← rd_nat hj] at h3
  have h4 := h.al; have h5 := h.n0; have h6 := h.n1
  omega
theorem mul_small {a b : Int} (ha : 0 ≤ a ∧ a ≤ 60) (hb : 0 ≤ b ∧ b ≤ 60) : 0 ≤ a * b ∧ a * b ≤ 3600 := by
  refine ⟨Int.mul_nonneg ha.1 hb.1, ?_⟩
  have h1 : a * b ≤ 60 * b := Int.mul_le_mul_of_nonneg_right ha.2 hb.1
  omega
theorem GBnd.key {shares many : List Int} {all n : Int} (h : GBnd shares many all n) (j : Nat) (hj : j < shares.length) :
    wrap64 ((wrap64 (all * (rd many j))) - (wrap64 ((wrap64 (n + 1)) * (rd shares j)))) = gKey shares all n many j := by
  have ⟨h1, h2, h3, h4⟩ := h.facts j hj
  have h5 := mul_small h1 h2
  have h6 := mul_small (a := n + 1) (b := rd shares j) (by omega) (by omega)
  rw [wrap_id (x := n + 1) (by omega) (by omega), wrap_id (x := all * rd many j) (by omega) (by omega), wrap_id (x := (n + 1) * rd shares j) (by omega) (by omega), wrap_id (by omega) (by omega)]
  rfl
theorem Greedy_spec_l1 (shares many out : List Int) (all n : Int) (hG : GBnd shares many all n) (hout : out.length < 17592186044416) (R : List Int × Int)
    (hR : Ev (fun k => spec_GreedyTurns.l0 k shares all (out ++ [(bst (gKey shares all n many) shares.length : Int)]) (many.set (bst (gKey shares all n many) shares.length) (rd many (bst (gKey shares all n many) shares.length : Nat) + 1)) (n + 1)) R) :
    ∀ d j : Nat, j + d = shares.length → Ev (fun k => spec_GreedyTurns.l1 k shares all out many n (bst (gKey shares all n many) j : Int) (shares.length : Int) (j : Int)) R := by
  have hlen := hG.inv.len
  have hpos := ((isShares_iff shares).1 hG.sh).1
  intro d
  induction d with
  | zero =>
    intro j hj
    have hb := bst_lt (gKey shares all n many) shares.length (by omega)
    have hf := hG.facts _ hb
    obtain rfl : j = shares.length := by omega
    refine Ev.step (fun k => by rw [spec_GreedyTurns.l1]) (ev_neg (by omega) (ev_pos (by omega) (ev_pos (by omega) (ev_pos hout ?_))))
    rw [wrap_id (x := n + 1) (by omega) (by omega), wrap_id (by omega) (by omega), Int.toNat_natCast]
    exact hR
  | succ d ih =>
    intro j hj
    have hbj : bst (gKey shares all n many) j < shares.length := by
      rcases Nat.eq_zero_or_pos j with h | h
      · subst h; simp [bst]; omega
      · have := bst_lt (gKey shares all n many) j h; omega
    refine Ev.step (fun k => by rw [spec_GreedyTurns.l1]) (ev_pos (by omega) (ev_pos (by omega) (ev_pos (by omega) (ev_pos (by omega) (ev_pos (by omega) (ev_pos (by omega) (ev_pos (by omega) ?_)))))))
    rw [hG.key j (by omega), hG.key _ hbj, wrap_succ (by omega)]
    have hih := ih (j + 1) (by omega)
    rw [bst] at hih
    by_cases hk : gKey shares all n many j < gKey shares all n many (bst (gKey shares all n many) j)
    · rw [if_pos hk] at hih; exact ev_pos hk hih
    · rw [if_neg hk] at hih; exact ev_neg hk hih
theorem Greedy_spec_l0 (shares : List Int) (hs : isShares shares = true) : ∀ (d : Nat) (many out : List Int) (n : Int), n + d = tot shares → 0 ≤ n → out.length = n → GInv shares many n →
    Ev (fun k => spec_GreedyTurns.l0 k shares (tot shares) out many n) (greedyGo shares (tot shares) d many out n, 0) := by
  have ht := isShares_pos hs
  intro d
  induction d with
  | zero =>
    intro many out n hn h0 ho hi
    show Ev _ (out, (0 : Int))
    refine Ev.step (fun k => by rw [spec_GreedyTurns.l0]) ?_
    exact ev_neg (by omega) (ev_now _)
  | succ d ih =>
    intro many out n hn h0 ho hi
    have hpos := ((isShares_iff shares).1 hs).1
    have hb := bst_lt (gKey shares (tot shares) n many) shares.length (by omega)
    refine Ev.step (fun k => by rw [spec_GreedyTurns.l0]) (ev_pos (by omega) ?_)
    refine Greedy_spec_l1 shares many out (tot shares) n ⟨hs, rfl, hi, h0, by omega⟩ (by omega) _ ?_ shares.length 0 (by omega)
    exact ih _ _ (n + 1) (by omega) (by omega) (by rw [List.length_append, List.length_singleton]; omega) (hi.next hb)
theorem spec_Greedy_ev (l : List Int) (hl : l.length ≤ 1048576) : Ev (fun k => spec_GreedyTurns.f k l) (greedyR l) := by
  unfold spec_GreedyTurns.f greedyR
  refine ev_bind (l07Sum_ev l hl) ?_
  by_cases hs : isShares l = true
  · have ht := isShares_pos hs
    rw [if_pos hs, if_pos hs]
    refine ev_neg (by omega) (ev_pos (by omega) (ev_pos (by omega) ?_))
    rw [Int.toNat_natCast]
    exact Greedy_spec_l0 l hs (tot l).toNat _ [] 0 (by omega) (by omega) rfl (GInv.start l)
  · rw [if_neg hs, if_neg hs]
    exact ev_pos rfl (ev_now _)
theorem Greedy_impl_l1 (shares many out : List Int) (all n : Int) (hG : GBnd shares many all n) (hout : out.length < 17592186044416) (R : List Int × Int)
    (hR : Ev (fun k => impl_GreedyTurns.l0 k shares (many.set (bst (gKey shares all n many) shares.length) (rd many (bst (gKey shares all n many) shares.length : Nat) + 1)) all (out ++ [(bst (gKey shares all n many) shares.length : Int)]) all (n + 1)) R) :
    ∀ d j : Nat, j + d = shares.length → ∀ v : Int, (0 < j → v = gKey shares all n many (bst (gKey shares all n many) j)) → Ev (fun k => impl_GreedyTurns.l1 k shares many all out n (bst (gKey shares all n many) j : Int) v all n shares (shares.length : Int) (j : Int)) R := by
  have hlen := hG.inv.len
  have hpos := ((isShares_iff shares).1 hG.sh).1
  intro d
  induction d with
  | zero =>
    intro j hj v hv
    have hb := bst_lt (gKey shares all n many) shares.length (by omega)
    have hf := hG.facts _ hb
    obtain rfl : j = shares.length := by omega
    refine Ev.step (fun k => by rw [impl_GreedyTurns.l1]) (ev_neg (by omega) (ev_pos (by omega) (ev_pos (by omega) (ev_pos hout ?_))))
    rw [wrap_id (x := n + 1) (by omega) (by omega), wrap_id (by omega) (by omega), Int.toNat_natCast]
    exact hR
  | succ d ih =>
    intro j hj v hv
    refine Ev.step (fun k => by rw [impl_GreedyTurns.l1]) (ev_pos (by omega) (ev_pos (by omega) (ev_pos (by omega) (ev_pos (by omega) ?_))))
    rw [hG.key j (by omega), wrap_succ (by omega)]
    rcases Nat.eq_zero_or_pos j with h0 | h0
    · subst h0
      have hih := ih 1 (by omega) (gKey shares all n many 0) (fun _ => by rw [bst_one])
      rw [bst_one] at hih
      exact ev_pos rfl hih
    · have hih := ih (j + 1) (by omega)
      rw [bst] at hih
      refine ev_neg (by omega) ?_
      rw [hv h0]
      by_cases hk : gKey shares all n many j < gKey shares all n many (bst (gKey shares all n many) j)
      · rw [if_pos hk] at hih; exact ev_pos hk (hih _ (fun _ => rfl))
      · rw [if_neg hk] at hih; exact ev_neg hk (hih _ (fun _ => rfl))
theorem Greedy_impl_l0 (shares : List Int) (hs : isShares shares = true) : ∀ (d : Nat) (many out : List Int) (n : Int), n + d = tot shares → 0 ≤ n → out.length = n → GInv shares many n →
    Ev (fun k => impl_GreedyTurns.l0 k shares many (tot shares) out (tot shares) n) (greedyGo shares (tot shares) d many out n, 0) := by
  have ht := isShares_pos hs
  intro d
  induction d with
  | zero =>
    intro many out n hn h0 ho hi
    show Ev _ (out, (0 : Int))
    refine Ev.step (fun k => by rw [impl_GreedyTurns.l0]) ?_
    exact ev_neg (by omega) (ev_now _)
  | succ d ih =>
    intro many out n hn h0 ho hi
    have hpos := ((isShares_iff shares).1 hs).1
    have hb := bst_lt (gKey shares (tot shares) n many) shares.length (by omega)
    refine Ev.step (fun k => by rw [impl_GreedyTurns.l0]) (ev_pos (by omega) ?_)
    refine Greedy_impl_l1 shares many out (tot shares) n ⟨hs, rfl, hi, h0, by omega⟩ (by omega) _ ?_ shares.length 0 (by omega) 0 (fun h => absurd h (by omega))
    exact ih _ _ (n + 1) (by omega) (by omega) (by rw [List.length_append, List.length_singleton]; omega) (hi.next hb)
theorem impl_Greedy_ev (l : List Int) (hl : l.length ≤ 1048576) : Ev (fun k => impl_GreedyTurns.f k l) (greedyR l) := by
  unfold impl_GreedyTurns.f greedyR
  refine ev_bind (areShares_ev l hl) ?_
  by_cases hs : isShares l = true
  · have h1 := (isShares_iff l).1 hs
    rw [if_pos hs, hs]
    refine ev_pos rfl (ev_pos (by omega) (ev_pos (by omega) (ev_bind (total_ev l hl (fun x hx => by have := h1.2.1 x hx; omega)) ?_)))
    rw [Int.toNat_natCast]
    have ht := isShares_pos hs
    exact Greedy_impl_l0 l hs (tot l).toNat _ [] 0 (by omega) (by omega) rfl (GInv.start l)
  · rw [if_neg hs]
    exact ev_neg hs (ev_now _)
end Go.Proofs.Ytpmconnonleokaa.Pure
end
section
namespace Go.Proofs.Ytpmconnonleokaa.Pure
open Go.RowKit Go.Proofs.Ytpmconnonleokaa.P Go.Proofs.YtpmconnonleokaaW.PrintWords Go.Proofs.YtpmconnonleokaaW.PrintLast Go.Proofs.YtpmconnonleokaaW.PrintMore
set_option linter.unusedVariables false
set_option linter.unusedSimpArgs false
theorem sumTo_mul (c : Int) (f : Nat → Int) : ∀ k, sumTo (fun i => c * f i) k = c * sumTo f k := by
  intro k
  induction k with
  | zero => simp [sumTo]
  | succ k ih => simp only [sumTo]; rw [ih, Int.mul_add]
theorem sumTo_sub (f g : Nat → Int) : ∀ k, sumTo (fun i => f i - g i) k = sumTo f k - sumTo g k := by
  intro k
  induction k with
  | zero => rfl
  | succ k ih => simp only [sumTo]; rw [ih]; omega
theorem sumTo_rd (l : List Int) : ∀ n, n ≤ l.length → sumTo (fun i => rd l (i : Int)) n = tot (l.take n) := by
  intro n
  induction n with
  | zero => intro _; simp [sumTo, tot]
  | succ n ih =>
    intro h
    rw [tot_take_succ l n (by omega)]
    simp only [sumTo]
    rw [ih (by omega), rd_nat (by omega)]
theorem sumTo_rd_all (l : List Int) : sumTo (fun i => rd l (i : Int)) l.length = tot l := by
  rw [sumTo_rd l l.length (Nat.le_refl _), List.take_of_length_le (Nat.le_refl _)]
theorem sumTo_point (k j : Nat) (hj : j < k) : sumTo (fun i => if (j : Int) = (i : Int) then 1 else 0) k = 1 := by
  have h := (sum_hit (fun _ => (j : Int)) 0 k).2 (by omega)
  rw [if_pos (by omega)] at h
  exact h
theorem sum_cnt (k : Nat) : ∀ l : List Int, (∀ x ∈ l, 0 ≤ x ∧ x < (k : Int)) → sumTo (fun i => cnt (i : Int) l) k = l.length := by
  intro l
  induction l with
  | nil => intro _; exact sumTo_zero k
  | cons y l ih =>
    intro h
    have hy := h y List.mem_cons_self
    obtain ⟨j, rfl⟩ : ∃ j : Nat, y = j := ⟨y.toNat, by omega⟩
    simp only [cnt]
    rw [sumTo_add, ih (fun x hx => h x (List.mem_cons_of_mem _ hx)), sumTo_point k j (by omega), List.length_cons]
    omega
theorem cnt_take_mono (x : Int) (l : List Int) (n m : Nat) (h : n ≤ m) : cnt x (l.take n) ≤ cnt x (l.take m) := by
  have e := (List.take_append_drop n (l.take m)).symm
  rw [List.take_take, Nat.min_eq_left h] at e
  rw [e, cnt_append]
  have := (cnt_bounds x ((l.take m).drop n)).1
  omega
/-- how many turns have to stand in the first t slots -/
def dNeed (all b s t : Int) : Int := if all ≤ t then s else if t * s - b ≤ 0 then 0 else (t * s - b - 1) / all + 1
def pos0 (x : Int) : Int := if x ≤ 0 then 0 else x
theorem need_iff {all b s t g : Int} (ha : 1 ≤ all) (hb : 0 ≤ b) (hs : 1 ≤ s) (hg : 0 ≤ g ∧ g < s) : mn ((b + all * g) / s + 1) all ≤ t ↔ g < dNeed all b s t := by
  unfold dNeed
  by_cases c : all ≤ t
  · rw [if_pos c]
    refine ⟨fun _ => hg.2, fun _ => ?_⟩
    unfold mn; split <;> omega
  · rw [if_neg c]
    have h1 : (mn ((b + all * g) / s + 1) all ≤ t) ↔ (b + all * g) / s < t := by
      unfold mn; split <;> omega
    rw [h1, Int.ediv_lt_iff_lt_mul (by omega)]
    have hag : 0 ≤ all * g := Int.mul_nonneg (by omega) hg.1
    by_cases d : t * s - b ≤ 0
    · rw [if_pos d]; omega
    · rw [if_neg d]
      have h2 : g < (t * s - b - 1) / all + 1 ↔ g ≤ (t * s - b - 1) / all := by omega
      rw [h2, Int.le_ediv_iff_mul_le (by omega), Int.mul_comm g all]
      omega
theorem need_le {all b s t : Int} (ha : 1 ≤ all) (hb : 0 ≤ b) (hs : 1 ≤ s) (ht : 0 ≤ t) : dNeed all b s t ≤ s := by
  unfold dNeed
  by_cases c : all ≤ t
  · rw [if_pos c]; exact Int.le_refl _
  · rw [if_neg c]
    by_cases d : t * s - b ≤ 0
    · rw [if_pos d]; omega
    · rw [if_neg d]
      have h1 : t * s ≤ all * s := Int.mul_le_mul_of_nonneg_right (by omega) (by omega)
      have h2 : (t * s - b - 1) / all < s := by
        rw [Int.ediv_lt_iff_lt_mul (by omega), Int.mul_comm s all]
        omega
      omega
structure Plan (k : Nat) (sh : Nat → Int) (all b : Int) (Y : Nat → Int → Int) : Prop where
  sum : ∀ t, 0 ≤ t → t ≤ all → sumTo (fun i => Y i t) k = all * t
  mono : ∀ i, i < k → ∀ n t, 0 ≤ n → n ≤ t → t ≤ all → Y i n ≤ Y i t
  needY : ∀ i, i < k → ∀ t, 0 ≤ t → t ≤ all → all * dNeed all b (sh i) t ≤ Y i t
  rel : ∀ i, i < k → ∀ g n, 0 ≤ g → g < sh i → 1 ≤ n → n ≤ all → ¬ all * (g + 1) - n * sh i ≤ b → Y i n ≤ all * g
  full : ∀ i, i < k → ∀ n, 0 ≤ n → n ≤ all → Y i n ≤ all * sh i
theorem dPick_min (elig : Nat → Bool) (own : Nat → Int) : ∀ j i : Nat, i < j → elig i = true → 0 ≤ (dPick elig own j).1 ∧ (dPick elig own j).2 ≤ own i := by
  intro j
  induction j with
  | zero => intro i hi; omega
  | succ j ih =>
    intro i hi he
    rw [dPick]
    by_cases e : elig j = true
    · rw [if_pos e]
      by_cases c : (dPick elig own j).1 < 0 ∨ own j < (dPick elig own j).2
      · rw [if_pos c]
        refine ⟨by show (0 : Int) ≤ (j : Int); omega, ?_⟩
        show own j ≤ own i
        by_cases ei : i = j
        · subst ei; exact Int.le_refl _
        · have := ih i (by omega) he; omega
      · rw [if_neg c]
        by_cases ei : i = j
        · subst ei; omega
        · exact ih i (by omega) he
    · rw [if_neg e]
      by_cases ei : i = j
      · subst ei; exact absurd he e
      · exact ih i (by omega) he
theorem deadGo_plan (shares : List Int) (hs : isShares shares = true) (b : Int) (hb : 0 ≤ b ∧ b ≤ 10000) {Y : Nat → Int → Int} (P : Plan shares.length (fun i => rd shares (i : Int)) (tot shares) b Y) :
    ∀ (d : Nat) (given out : List Int) (n : Int), n + d = tot shares + 1 → 1 ≤ n → DInv shares given → tot given = n - 1 →
    (∀ t, n - 1 ≤ t → t ≤ tot shares → sumTo (fun i => pos0 (dNeed (tot shares) b (rd shares (i : Int)) t - rd given (i : Int))) shares.length ≤ t - (n - 1)) →
    (deadGo shares (tot shares) b d given out n).2 = true := by
  have ht := isShares_pos hs
  intro d
  induction d with
  | zero => intros; rfl
  | succ d ih =>
    intro given out n hn h0 hi hg hJ
    have hG : DBnd shares given (tot shares) b n := ⟨hs, rfl, hi, hb, by omega⟩
    have hsum : sumTo (fun i => rd given (i : Int)) shares.length = n - 1 := by rw [← hi.len, sumTo_rd_all, hg]
    have hsh : ∀ i : Nat, i < shares.length → 1 ≤ rd shares (i : Int) := fun i h => (hG.facts i h).2.2.1.1
    have hex : ∃ i, i < shares.length ∧ dElig shares given (tot shares) b n i = true := by
      refine Classical.byContradiction fun hno => ?_
      have h1 := sumTo_le (f := fun i => Y i n) (g := fun i => tot shares * rd given (i : Int)) shares.length fun i hlt => by
        have hb2 := hi.bnd i hlt
        by_cases c : rd given (i : Int) + 1 ≤ rd shares (i : Int)
        · refine P.rel i hlt _ n hb2.1 (by show rd given (i : Int) < rd shares (i : Int); omega) h0 (by omega) fun h => hno ⟨i, hlt, ?_⟩
          rw [elig_second c, decide_eq_true_iff]
          exact h
        · have h2 := P.full i hlt n (by omega) (by omega)
          rw [show rd given (i : Int) = rd shares (i : Int) by omega]
          exact h2
      rw [P.sum n (by omega) (by omega), sumTo_mul, hsum] at h1
      have h2 : tot shares * (n - 1) = tot shares * n - tot shares := by rw [Int.mul_sub, Int.mul_one]
      omega
    obtain ⟨i0, hi0, he0⟩ := hex
    have hmin := dPick_min (dElig shares given (tot shares) b n) (dOwn shares given (tot shares) b) shares.length
    have hp := (hmin i0 hi0 he0).1
    have hr := dPick_range (dElig shares given (tot shares) b n) (dOwn shares given (tot shares) b) shares.length
    rw [deadGo]
    generalize dPick (dElig shares given (tot shares) b n) (dOwn shares given (tot shares) b) shares.length = p at hr hp hmin ⊢
    rcases hr with hr | ⟨j, hj, hr, hr2, he⟩
    · omega
    · have hjb := hi.bnd j hj
      simp only [dElig, Bool.and_eq_true, decide_eq_true_iff] at he
      have hown : ∀ t, dOwn shares given (tot shares) b j ≤ t ↔ rd given (j : Int) < dNeed (tot shares) b (rd shares (j : Int)) t := fun t => need_iff (by omega) hb.1 (hsh j hj) (by omega)
      have hlate : ¬ p.2 < n := by
        intro c
        rw [hr2] at c
        have h1 := (hown (n - 1)).1 (by omega)
        have h2 := hJ (n - 1) (by omega) (by omega)
        have h3 := sumTo_lt (f := fun _ => 0) (g := fun i => pos0 (dNeed (tot shares) b (rd shares (i : Int)) (n - 1) - rd given (i : Int))) shares.length (fun i _ => by show 0 ≤ pos0 _; unfold pos0; split <;> omega) ⟨j, hj, by show 0 < pos0 _; unfold pos0; rw [if_neg (by omega)]; omega⟩
        rw [sumTo_zero] at h3
        omega
      rw [if_neg (by omega), hr, Int.toNat_natCast]
      refine ih _ _ (n + 1) (by omega) (by omega) (hi.next hj he.1) ?_ ?_
      · rw [tot_set _ _ (by rw [hi.len]; exact hj)]; omega
      · intro t ht1 ht2
        have hset : ∀ i : Nat, rd (given.set j (rd given (j : Int) + 1)) (i : Int) = if i = j then rd given (j : Int) + 1 else rd given (i : Int) := fun i => rd_set (by rw [hi.len]; exact hj)
        by_cases c : dOwn shares given (tot shares) b j ≤ t
        · have h1 := (hown t).1 c
          have h2 := hJ t (by omega) ht2
          have h3 := sumTo_lt (f := fun i => pos0 (dNeed (tot shares) b (rd shares (i : Int)) t - rd (given.set j (rd given (j : Int) + 1)) (i : Int))) (g := fun i => pos0 (dNeed (tot shares) b (rd shares (i : Int)) t - rd given (i : Int))) shares.length
            (fun i hlt => by
              show pos0 _ ≤ pos0 _
              rw [hset]
              by_cases e : i = j
              · subst e; rw [if_pos rfl]; unfold pos0; split <;> split <;> omega
              · rw [if_neg e]; exact Int.le_refl _) ⟨j, hj, by
                show pos0 _ < pos0 _
                rw [hset, if_pos rfl]; unfold pos0; split <;> split <;> omega⟩
          omega
        · have h1 : ¬ rd given (j : Int) < dNeed (tot shares) b (rd shares (j : Int)) t := fun h => c ((hown t).2 h)
          have h3 := sumTo_le (f := fun i => tot shares * pos0 (dNeed (tot shares) b (rd shares (i : Int)) t - rd (given.set j (rd given (j : Int) + 1)) (i : Int))) (g := fun i => Y i t - Y i n) shares.length fun i hlt => by
            show tot shares * pos0 _ ≤ Y i t - Y i n
            have hm := P.mono i hlt n t (by omega) (by omega) ht2
            have hib := hi.bnd i hlt
            rw [hset]
            by_cases e : i = j
            · subst e
              rw [if_pos rfl]
              unfold pos0
              rw [if_pos (by omega), Int.mul_zero]
              omega
            · rw [if_neg e]
              unfold pos0
              by_cases q : dNeed (tot shares) b (rd shares (i : Int)) t - rd given (i : Int) ≤ 0
              · rw [if_pos q, Int.mul_zero]; omega
              · rw [if_neg q]
                have hle := need_le (all := tot shares) (b := b) (s := rd shares (i : Int)) (t := t) (by omega) hb.1 (hsh i hlt) (by omega)
                have hoi : dOwn shares given (tot shares) b i ≤ t := (need_iff (by omega) hb.1 (hsh i hlt) (by omega)).2 (by omega)
                have hne : ¬ dElig shares given (tot shares) b n i = true := fun h => by
                  have := (hmin i hlt h).2
                  omega
                rw [elig_second (by omega), decide_eq_true_iff] at hne
                have h5 := P.rel i hlt _ n hib.1 (by show rd given (i : Int) < rd shares (i : Int); omega) h0 (by omega) hne
                have h6 := P.needY i hlt t (by omega) ht2
                rw [Int.mul_sub]
                omega
          rw [sumTo_mul, sumTo_sub, P.sum t (by omega) ht2, P.sum n (by omega) (by omega), ← Int.mul_sub] at h3
          have h4 := Int.le_of_mul_le_mul_left h3 (by omega)
          omega
theorem dead_plan (shares : List Int) (hs : isShares shares = true) (b : Int) (hb : 0 ≤ b ∧ b ≤ 10000) {Y : Nat → Int → Int} (P : Plan shares.length (fun i => rd shares (i : Int)) (tot shares) b Y) (hY0 : ∀ i, i < shares.length → 0 ≤ Y i 0) : (dead shares b).2 = true := by
  have ht := isShares_pos hs
  have hz : ∀ i : Nat, i < shares.length → rd (List.replicate shares.length 0) (i : Int) = 0 := fun i h => by simp [rd, List.getElem?_replicate, h]
  refine deadGo_plan shares hs b hb P _ _ _ 1 (by omega) (by omega) (DInv.start hs) (by rw [tot_zeros]; rfl) fun t h0 h1 => ?_
  have h3 := sumTo_le (f := fun i => tot shares * pos0 (dNeed (tot shares) b (rd shares (i : Int)) t - rd (List.replicate shares.length 0) (i : Int))) (g := fun i => Y i t) shares.length fun i hlt => by
    show tot shares * pos0 _ ≤ Y i t
    rw [hz i hlt, Int.sub_zero]
    have h6 := P.needY i hlt t (by omega) h1
    have h7 := P.mono i hlt 0 t (by omega) (by omega) h1
    have h8 := hY0 i hlt
    unfold pos0
    split
    · rw [Int.mul_zero]; omega
    · exact h6
  rw [sumTo_mul, P.sum t (by omega) h1] at h3
  have h4 := Int.le_of_mul_le_mul_left h3 (by omega)
  omega
/-- any number from the sum of the shares on does -/
theorem dead_all (shares : List Int) (hs : isShares shares = true) (b : Int) (hb : tot shares ≤ b ∧ b ≤ 10000) : (dead shares b).2 = true := by
  have ht := isShares_pos hs
  have hsh : ∀ i : Nat, i < shares.length → 1 ≤ rd shares (i : Int) := fun i h => by rw [rd_nat h]; exact (((isShares_iff shares).1 hs).2.1 _ (List.getElem_mem h)).1
  refine dead_plan shares hs b ⟨by omega, hb.2⟩ (Y := fun i t => t * rd shares (i : Int)) ⟨fun t _ _ => ?_, fun i hi n t h0 h1 h2 => ?_, fun i hi t h0 h1 => ?_, fun i hi g n h0 h1 h2 h3 h4 => ?_, fun i hi n h0 h1 => ?_⟩ (fun i hi => by show 0 ≤ 0 * _; omega)
  · rw [sumTo_mul, sumTo_rd_all, Int.mul_comm]
  · exact Int.mul_le_mul_of_nonneg_right h1 (by have := hsh i hi; omega)
  · show tot shares * dNeed (tot shares) b (rd shares (i : Int)) t ≤ t * rd shares (i : Int)
    have h5 := hsh i hi
    have h6 : 0 ≤ t * rd shares (i : Int) := Int.mul_nonneg h0 (by omega)
    unfold dNeed
    by_cases c : tot shares ≤ t
    · rw [if_pos c, show t = tot shares by omega]; exact Int.le_refl _
    · rw [if_neg c]
      split
      · rw [Int.mul_zero]; exact h6
      · have h7 := Int.mul_ediv_self_le (x := t * rd shares (i : Int) - b - 1) (k := tot shares) (by omega)
        rw [Int.mul_add, Int.mul_one]
        omega
  · show n * rd shares (i : Int) ≤ tot shares * g
    have h5 : ¬ tot shares * (g + 1) - n * rd shares (i : Int) ≤ b := h4
    rw [Int.mul_add, Int.mul_one] at h5
    omega
  · exact Int.mul_le_mul_of_nonneg_right h1 (by have := hsh i hi; omega)
/-- turns with the shares, whose differences are at most b -/
structure Fair (shares y : List Int) : Prop where
  len : (y.length : Int) = tot shares
  mem : ∀ x ∈ y, 0 ≤ x ∧ x < (shares.length : Int)
  cnt : ∀ i : Nat, i < shares.length → cnt (i : Int) y = rd shares (i : Int)
theorem dead_fair (shares : List Int) (hs : isShares shares = true) (b : Int) (hb : 0 ≤ b ∧ b ≤ 10000) (y : List Int) (F : Fair shares y) (hd : ∀ i, i < shares.length → ∀ m, m ≤ y.length → -b ≤ dif y m i ∧ dif y m i ≤ b) : (dead shares b).2 = true := by
  have ht := isShares_pos hs
  have hlen := F.len
  have hsh : ∀ i : Nat, i < shares.length → 1 ≤ rd shares (i : Int) := fun i h => by rw [rd_nat h]; exact (((isShares_iff shares).1 hs).2.1 _ (List.getElem_mem h)).1
  have hdif : ∀ i, i < shares.length → ∀ t : Int, 0 ≤ t → t ≤ tot shares → -b ≤ tot shares * cnt (i : Int) (y.take t.toNat) - t * rd shares (i : Int) ∧ tot shares * cnt (i : Int) (y.take t.toNat) - t * rd shares (i : Int) ≤ b := by
    intro i hi t h0 h1
    have := hd i hi t.toNat (by omega)
    unfold dif at this
    rw [F.cnt i hi, F.len, show ((t.toNat : Nat) : Int) = t by omega] at this
    exact this
  refine dead_plan shares hs b hb (Y := fun i t => tot shares * cnt (i : Int) (y.take t.toNat)) ⟨fun t h0 h1 => ?_, fun i hi n t h0 h1 h2 => ?_, fun i hi t h0 h1 => ?_, fun i hi g n h0 h1 h2 h3 h4 => ?_, fun i hi n h0 h1 => ?_⟩ (fun i hi => ?_)
  · rw [sumTo_mul, sum_cnt shares.length (y.take t.toNat) (fun x hx => F.mem x (List.mem_of_mem_take hx)), List.length_take]
    congr 1
    omega
  · exact Int.mul_le_mul_of_nonneg_left (cnt_take_mono _ _ _ _ (by omega)) (by omega)
  · show tot shares * dNeed (tot shares) b (rd shares (i : Int)) t ≤ tot shares * cnt (i : Int) (y.take t.toNat)
    refine Int.mul_le_mul_of_nonneg_left ?_ (by omega)
    have h5 := (hdif i hi t h0 h1).1
    have h6 := (cnt_bounds (i : Int) (y.take t.toNat)).1
    unfold dNeed
    by_cases c : tot shares ≤ t
    · rw [if_pos c, List.take_of_length_le (by omega), F.cnt i hi]; exact Int.le_refl _
    · rw [if_neg c]
      split
      · exact h6
      · have h7 : (t * rd shares (i : Int) - b - 1) / tot shares < cnt (i : Int) (y.take t.toNat) := by
          rw [Int.ediv_lt_iff_lt_mul (by omega)]
          have hc := Int.mul_comm (cnt (i : Int) (y.take t.toNat)) (tot shares)
          omega
        omega
  · show tot shares * cnt (i : Int) (y.take n.toNat) ≤ tot shares * g
    have h5 := (hdif i hi n (by omega) h3).2
    have h6 : ¬ tot shares * (g + 1) - n * rd shares (i : Int) ≤ b := h4
    have h7 : tot shares * cnt (i : Int) (y.take n.toNat) < tot shares * (g + 1) := by omega
    have h8 := Int.lt_of_mul_lt_mul_left h7 (by omega)
    exact Int.mul_le_mul_of_nonneg_left (by omega) (by omega)
  · show tot shares * cnt (i : Int) (y.take n.toNat) ≤ tot shares * rd shares (i : Int)
    refine Int.mul_le_mul_of_nonneg_left ?_ (by omega)
    rw [← F.cnt i hi]
    have h := cnt_take_mono (i : Int) y n.toNat y.length (by omega)
    rw [List.take_of_length_le (Nat.le_refl _)] at h
    exact h
  · exact Int.mul_nonneg (by omega) (cnt_bounds _ _).1
theorem tot_le_eq : ∀ (a b : List Int), a.length = b.length → (∀ i : Nat, i < a.length → rd a (i : Int) ≤ rd b (i : Int)) → tot b ≤ tot a → ∀ i : Nat, i < a.length → rd a (i : Int) = rd b (i : Int) := by
  intro a b hl h ht i hi
  refine Classical.byContradiction fun hne => ?_
  have h1 := sumTo_lt (f := fun i => rd a (i : Int)) (g := fun i => rd b (i : Int)) a.length (fun j hj => h j hj) ⟨i, hi, by have := h i hi; show rd a (i : Int) < rd b (i : Int); omega⟩
  rw [sumTo_rd_all, hl, sumTo_rd_all] at h1
  omega
theorem deadGo_trace (shares : List Int) (hs : isShares shares = true) (b : Int) (hb : 0 ≤ b) : ∀ (d : Nat) (given out : List Int) (n : Int), n + d = tot shares + 1 → 1 ≤ n → DInv shares given → tot given = n - 1 →
    (∀ i : Nat, i < shares.length → tot shares * rd given (i : Int) - (n - 1) * rd shares (i : Int) ≤ b) → (deadGo shares (tot shares) b d given out n).2 = true →
    ∃ w, (deadGo shares (tot shares) b d given out n).1 = out ++ w ∧ w.length = d ∧ (∀ x ∈ w, 0 ≤ x ∧ x < (shares.length : Int)) ∧ (∀ i : Nat, i < shares.length → rd given (i : Int) + cnt (i : Int) w = rd shares (i : Int)) ∧
      (∀ i : Nat, i < shares.length → ∀ m : Nat, m ≤ d → -b ≤ tot shares * (rd given (i : Int) + cnt (i : Int) (w.take m)) - (n - 1 + m) * rd shares (i : Int) ∧ tot shares * (rd given (i : Int) + cnt (i : Int) (w.take m)) - (n - 1 + m) * rd shares (i : Int) ≤ b) := by
  have ht := isShares_pos hs
  have hsh : ∀ i : Nat, i < shares.length → 1 ≤ rd shares (i : Int) := fun i h => by rw [rd_nat h]; exact (((isShares_iff shares).1 hs).2.1 _ (List.getElem_mem h)).1
  intro d
  induction d with
  | zero =>
    intro given out n hn h0 hi hg hU _
    have he : ∀ i : Nat, i < shares.length → rd given (i : Int) = rd shares (i : Int) := fun i h => tot_le_eq given shares hi.len (fun j hj => (hi.bnd j (by rw [← hi.len]; exact hj)).2) (by omega) i (by rw [hi.len]; exact h)
    refine ⟨[], by simp [deadGo], rfl, by simp, fun i h => by rw [he i h]; simp [cnt], fun i h m hm => ?_⟩
    obtain rfl : m = 0 := by omega
    rw [he i h, List.take_nil]
    simp only [cnt, Int.add_zero]
    rw [show n - 1 + ((0 : Nat) : Int) = tot shares by omega, Int.sub_self]
    omega
  | succ d ih =>
    intro given out n hn h0 hi hg hU
    rw [deadGo]
    have hr := dPick_range (dElig shares given (tot shares) b n) (dOwn shares given (tot shares) b) shares.length
    generalize dPick (dElig shares given (tot shares) b n) (dOwn shares given (tot shares) b) shares.length = p at hr ⊢
    by_cases c : p.1 < 0 ∨ p.2 < n
    · rw [if_pos c]; intro h; exact absurd h (by simp)
    · rw [if_neg c]
      rcases hr with hr | ⟨j, hj, hr, hr2, he⟩
      · omega
      · have hjb := hi.bnd j hj
        simp only [dElig, Bool.and_eq_true, decide_eq_true_iff] at he
        have hset : ∀ i : Nat, rd (given.set j (rd given (j : Int) + 1)) (i : Int) = if i = j then rd given (j : Int) + 1 else rd given (i : Int) := fun i => rd_set (by rw [hi.len]; exact hj)
        rw [hr, Int.toNat_natCast]
        intro hok
        obtain ⟨w, e1, e2, e3, e4, e5⟩ := ih (given.set j (rd given (j : Int) + 1)) (out ++ [(j : Int)]) (n + 1) (by omega) (by omega) (hi.next hj he.1) (by rw [tot_set _ _ (by rw [hi.len]; exact hj)]; omega) (fun i hlt => by
          rw [hset]
          by_cases e : i = j
          · subst e; rw [if_pos rfl, show n + 1 - 1 = n by omega]; exact he.2
          · rw [if_neg e, show (n + 1 - 1) * rd shares (i : Int) = (n - 1) * rd shares (i : Int) + rd shares (i : Int) by rw [show n + 1 - 1 = (n - 1) + 1 by omega, Int.add_mul, Int.one_mul]]
            have h1 := hU i hlt
            have h2 := hsh i hlt
            omega) hok
        have hrd : ∀ i : Nat, i < shares.length → ∀ x : Int, rd (given.set j (rd given (j : Int) + 1)) (i : Int) + x = rd given (i : Int) + ((if (j : Int) = (i : Int) then 1 else 0) + x) := by
          intro i hlt x
          rw [hset]
          by_cases e : i = j
          · subst e; rw [if_pos rfl, if_pos rfl]; omega
          · rw [if_neg e, if_neg (by omega)]; omega
        refine ⟨(j : Int) :: w, by rw [e1, List.append_assoc]; rfl, by rw [List.length_cons, e2], fun x hx => ?_, fun i hlt => ?_, fun i hlt m hm => ?_⟩
        · rcases List.mem_cons.1 hx with rfl | hx
          · omega
          · exact e3 x hx
        · have h1 := e4 i hlt
          rw [hrd i hlt] at h1
          exact h1
        · cases m with
          | zero =>
            rw [List.take_zero]
            simp only [cnt, Int.add_zero]
            rw [show n - 1 + ((0 : Nat) : Int) = n - 1 by omega]
            refine ⟨?_, hU i hlt⟩
            by_cases e : i = j
            · subst e
              have h1 : n ≤ dOwn shares given (tot shares) b i := by omega
              have h2 : n - 1 ≤ (b + tot shares * rd given (i : Int)) / rd shares (i : Int) := by
                unfold dOwn mn at h1; split at h1 <;> omega
              rw [Int.le_ediv_iff_mul_le (by have := hsh i hlt; omega)] at h2
              omega
            · have h1 := (e5 i hlt 0 (by omega)).1
              rw [List.take_zero, hrd i hlt, if_neg (by omega)] at h1
              simp only [cnt, Int.add_zero] at h1
              rw [show (n + 1 - 1 + ((0 : Nat) : Int)) * rd shares (i : Int) = (n - 1) * rd shares (i : Int) + rd shares (i : Int) by rw [show n + 1 - 1 + ((0 : Nat) : Int) = (n - 1) + 1 by omega, Int.add_mul, Int.one_mul]] at h1
              have h2 := hsh i hlt
              omega
          | succ m =>
            have h1 := e5 i hlt m (by omega)
            rw [hrd i hlt, show n + 1 - 1 + (m : Int) = n - 1 + ((m + 1 : Nat) : Int) by omega] at h1
            rw [List.take_succ_cons]
            exact h1
/-- deadline turns have the shares, and differences of at most the number -/
theorem dead_is_fair (shares : List Int) (hs : isShares shares = true) (b : Int) (hb : 0 ≤ b) (h : (dead shares b).2 = true) : Fair shares (dead shares b).1 ∧ ∀ i, i < shares.length → ∀ m, m ≤ (dead shares b).1.length → -b ≤ dif (dead shares b).1 m i ∧ dif (dead shares b).1 m i ≤ b := by
  have ht := isShares_pos hs
  have hz : ∀ i : Nat, i < shares.length → rd (List.replicate shares.length 0) (i : Int) = 0 := fun i h => by simp [rd, List.getElem?_replicate, h]
  obtain ⟨w, e1, e2, e3, e4, e5⟩ := deadGo_trace shares hs b hb (tot shares).toNat (List.replicate shares.length 0) [] 1 (by omega) (by omega) (DInv.start hs) (by rw [tot_zeros]; rfl) (fun i hi => by rw [hz i hi]; simp; omega) h
  rw [List.nil_append] at e1
  have e : (dead shares b).1 = w := e1
  rw [e]
  have hl : (w.length : Int) = tot shares := by omega
  have hc : ∀ i : Nat, i < shares.length → cnt (i : Int) w = rd shares (i : Int) := fun i hi => by have := e4 i hi; rw [hz i hi] at this; omega
  refine ⟨⟨hl, e3, hc⟩, fun i hi m hm => ?_⟩
  have h1 := e5 i hi m (by omega)
  rw [hz i hi, Int.zero_add, show (1 : Int) - 1 + (m : Int) = (m : Int) by omega] at h1
  unfold dif
  rw [hl, hc i hi]
  exact h1
theorem bst_min (key : Nat → Int) : ∀ n i : Nat, i < n → key (bst key n) ≤ key i := by
  intro n
  induction n with
  | zero => intro i hi; omega
  | succ n ih =>
    intro i hi
    rw [bst]
    split
    · next h =>
      by_cases e : i = n
      · subst e; exact Int.le_refl _
      · have := ih i (by omega); omega
    · next h =>
      by_cases e : i = n
      · subst e; omega
      · exact ih i (by omega)
theorem greedyGo_trace (shares : List Int) (hs : isShares shares = true) : ∀ (d : Nat) (given out : List Int) (n : Int), n + d = tot shares → 0 ≤ n → DInv shares given → tot given = n →
    ∃ w, greedyGo shares (tot shares) d given out n = out ++ w ∧ w.length = d ∧ (∀ x ∈ w, 0 ≤ x ∧ x < (shares.length : Int)) ∧ (∀ i : Nat, i < shares.length → rd given (i : Int) + cnt (i : Int) w = rd shares (i : Int)) := by
  have ht := isShares_pos hs
  have hpos := ((isShares_iff shares).1 hs).1
  intro d
  induction d with
  | zero =>
    intro given out n hn h0 hi hg
    have he : ∀ i : Nat, i < shares.length → rd given (i : Int) = rd shares (i : Int) := fun i h => tot_le_eq given shares hi.len (fun j hj => (hi.bnd j (by rw [← hi.len]; exact hj)).2) (by omega) i (by rw [hi.len]; exact h)
    exact ⟨[], by simp [greedyGo], rfl, by simp, fun i h => by rw [he i h]; simp [cnt]⟩
  | succ d ih =>
    intro given out n hn h0 hi hg
    have hsum : sumTo (gKey shares (tot shares) n given) shares.length = -(tot shares) := by
      have e : gKey shares (tot shares) n given = fun (i : Nat) => tot shares * rd given (i : Int) - (n + 1) * rd shares (i : Int) := rfl
      rw [e, sumTo_sub, sumTo_mul, sumTo_mul, sumTo_rd_all, ← hi.len, sumTo_rd_all, hg, Int.add_mul, Int.one_mul, Int.mul_comm]
      omega
    have hneg : ∃ i, i < shares.length ∧ gKey shares (tot shares) n given i < 0 := by
      refine Classical.byContradiction fun hno => ?_
      have h1 := sumTo_le (f := fun _ => 0) (g := gKey shares (tot shares) n given) shares.length fun i hlt => by
        show 0 ≤ gKey shares (tot shares) n given i
        exact Int.not_lt.1 fun h => hno ⟨i, hlt, h⟩
      rw [sumTo_zero, hsum] at h1
      omega
    obtain ⟨i0, hi0, hk0⟩ := hneg
    have hb1 := bst_min (gKey shares (tot shares) n given) shares.length i0 hi0
    have hj := bst_lt (gKey shares (tot shares) n given) shares.length (by omega)
    rw [greedyGo]
    generalize bst (gKey shares (tot shares) n given) shares.length = j at hb1 hj ⊢
    have hjb := hi.bnd j hj
    have hlt : rd given (j : Int) + 1 ≤ rd shares (j : Int) := by
      have h1 : tot shares * rd given (j : Int) - (n + 1) * rd shares (j : Int) < 0 := by
        have : gKey shares (tot shares) n given j < 0 := by omega
        exact this
      have h2 : (n + 1) * rd shares (j : Int) ≤ tot shares * rd shares (j : Int) := Int.mul_le_mul_of_nonneg_right (by omega) (by omega)
      have h3 := Int.lt_of_mul_lt_mul_left (a := tot shares) (b := rd given (j : Int)) (c := rd shares (j : Int)) (by omega) (by omega)
      omega
    have hset : ∀ i : Nat, rd (given.set j (rd given (j : Int) + 1)) (i : Int) = if i = j then rd given (j : Int) + 1 else rd given (i : Int) := fun i => rd_set (by rw [hi.len]; exact hj)
    obtain ⟨w, e1, e2, e3, e4⟩ := ih (given.set j (rd given (j : Int) + 1)) (out ++ [(j : Int)]) (n + 1) (by omega) (by omega) (hi.next hj hlt) (by rw [tot_set _ _ (by rw [hi.len]; exact hj)]; omega)
    refine ⟨(j : Int) :: w, by rw [e1, List.append_assoc]; rfl, by rw [List.length_cons, e2], fun x hx => ?_, fun i hil => ?_⟩
    · rcases List.mem_cons.1 hx with rfl | hx
      · omega
      · exact e3 x hx
    · have h1 := e4 i hil
      rw [hset] at h1
      simp only [cnt]
      by_cases e : i = j
      · subst e; rw [if_pos rfl] at h1 ⊢; omega
      · rw [if_neg e] at h1; rw [if_neg (by omega)]; omega
theorem greedy_is_fair (shares : List Int) (hs : isShares shares = true) : Fair shares (greedy shares) := by
  have ht := isShares_pos hs
  have hz : ∀ i : Nat, i < shares.length → rd (List.replicate shares.length 0) (i : Int) = 0 := fun i h => by simp [rd, List.getElem?_replicate, h]
  obtain ⟨w, e1, e2, e3, e4⟩ := greedyGo_trace shares hs (tot shares).toNat (List.replicate shares.length 0) [] 0 (by omega) (by omega) (DInv.start hs) (by rw [tot_zeros])
  rw [List.nil_append] at e1
  have e : greedy shares = w := e1
  rw [e]
  exact ⟨by omega, e3, fun i hi => by have := e4 i hi; rw [hz i hi] at this; omega⟩
end Go.Proofs.Ytpmconnonleokaa.Pure
end
section
namespace Go.Proofs.Ytpmconnonleokaa.Pure
open Go.RowKit Go.Proofs.Ytpmconnonleokaa.P Go.Proofs.YtpmconnonleokaaW.PrintWords Go.Proofs.YtpmconnonleokaaW.PrintLast Go.Proofs.YtpmconnonleokaaW.PrintMore
set_option linter.unusedVariables false
set_option linter.unusedSimpArgs false
/-- the digit of the road between two places -/
def roadOf (i j : Int) : Int := 2 ^ ((max i j) * ((max i j) - 1) / 2 + min i j).toNat
/-- Two places are near: the same, or joined. -/
def nearB (b i j : Int) : Bool := if i = j then true else Go.bits .and .i64 b (roadOf i j) != 0
end Go.Proofs.Ytpmconnonleokaa.Pure
end
section
namespace Go.Proofs.Ytpmconnonleokaa.Pure
open Go.RowKit Go.Proofs.Ytpmconnonleokaa.P Go.Proofs.YtpmconnonleokaaW.PrintWords Go.Proofs.YtpmconnonleokaaW.PrintLast Go.Proofs.YtpmconnonleokaaW.PrintMore
set_option linter.unusedVariables false
set_option linter.unusedSimpArgs false
def neg : List Int → Nat
  | [] => 0
  | y :: l => (if y < 0 then 1 else 0) + neg l
theorem neg_set (v : Int) (hv : 0 ≤ v) : ∀ (l : List Int) (n : Nat) (h : n < l.length), l[n] < 0 → neg (l.set n v) + 1 = neg l := by
  intro l
  induction l with
  | nil => intro n h; simp at h
  | cons y l ih =>
    intro n h hn
    cases n with
    | zero =>
      simp only [List.getElem_cons_zero] at hn
      simp only [List.set_cons_zero, neg]
      rw [if_neg (by omega), if_pos hn]
      omega
    | succ n =>
      simp only [List.getElem_cons_succ] at hn
      simp only [List.set_cons_succ, neg]
      have := ih n (by simpa using h) hn
      omega
def stepJ (b h : Int) (j : Nat) (s : List Int × List Int) : List Int × List Int := if rd s.1 (j : Int) < 0 ∧ nearB b h (j : Int) = true then (s.1.set j (rd s.1 h + 1), s.2 ++ [(j : Int)]) else s
def inJ (b h : Int) : Nat → Nat → List Int × List Int → List Int × List Int
  | 0, _, s => s
  | d + 1, j, s => inJ b h d (j + 1) (stepJ b h j s)
structure Bfs (a : Nat) (s : List Int × List Int) : Prop where
  len : s.1.length = a
  mem : ∀ x ∈ s.2, 0 ≤ x ∧ x < (a : Int) ∧ 0 ≤ rd s.1 x
  hi : ∀ i : Nat, i < a → rd s.1 (i : Int) ≤ (s.2.length : Int)
  num : s.2.length + neg s.1 ≤ a
theorem Bfs.step {a : Nat} {b h : Int} {j : Nat} {s : List Int × List Int} (B : Bfs a s) (hj : j < a) (hh : 0 ≤ h ∧ h < (a : Int) ∧ 0 ≤ rd s.1 h) : Bfs a (stepJ b h j s) := by
  unfold stepJ
  split
  · next c =>
    have hl := B.len
    refine ⟨by rw [List.length_set]; exact hl, fun x hx => ?_, fun i hi => ?_, ?_⟩
    · rcases List.mem_append.1 hx with hx | hx
      · obtain ⟨h1, h2, h3⟩ := B.mem x hx
        obtain ⟨n, rfl⟩ : ∃ n : Nat, x = n := ⟨x.toNat, by omega⟩
        refine ⟨h1, h2, ?_⟩
        show 0 ≤ rd (s.1.set j _) (n : Int)
        rw [rd_set (by omega)]
        split <;> omega
      · rw [List.mem_singleton.1 hx]
        refine ⟨by omega, by omega, ?_⟩
        show 0 ≤ rd (s.1.set j _) (j : Int)
        rw [rd_set (by omega), if_pos rfl]
        omega
    · have h1 := B.hi i hi
      have h2 := B.hi h.toNat (by omega)
      rw [show ((h.toNat : Nat) : Int) = h by omega] at h2
      show rd (s.1.set j _) (i : Int) ≤ ((s.2 ++ [(j : Int)]).length : Int)
      rw [rd_set (by omega), List.length_append, List.length_singleton]
      split <;> omega
    · have c1 := c.1
      rw [rd_nat (by omega)] at c1
      have := neg_set (rd s.1 h + 1) (by omega) s.1 j (by omega) c1
      have := B.num
      show (s.2 ++ [(j : Int)]).length + neg (s.1.set j (rd s.1 h + 1)) ≤ a
      rw [List.length_append, List.length_singleton]
      omega
  · exact B
theorem stepJ_head {a : Nat} {b h : Int} {j : Nat} {s : List Int × List Int} (B : Bfs a s) (hj : j < a) (hh : 0 ≤ h ∧ h < (a : Int) ∧ 0 ≤ rd s.1 h) : 0 ≤ rd (stepJ b h j s).1 h := by
  unfold stepJ
  split
  · have hl := B.len
    obtain ⟨n, rfl⟩ : ∃ n : Nat, h = n := ⟨h.toNat, by omega⟩
    show 0 ≤ rd (s.1.set j _) (n : Int)
    rw [rd_set (by omega)]
    split <;> omega
  · exact hh.2.2
theorem Bfs.inner {a : Nat} {b h : Int} : ∀ d j : Nat, j + d = a → ∀ s : List Int × List Int, Bfs a s → (0 ≤ h ∧ h < (a : Int) ∧ 0 ≤ rd s.1 h) → Bfs a (inJ b h d j s) := by
  intro d
  induction d with
  | zero => intro j _ s B _; exact B
  | succ d ih => intro j hj s B hh; exact ih (j + 1) (by omega) _ (B.step (by omega) hh) ⟨hh.1, hh.2.1, stepJ_head B (by omega) hh⟩
end Go.Proofs.Ytpmconnonleokaa.Pure
end
section
namespace Go.Proofs.Ytpmconnonleokaa.Pure
set_option linter.unusedVariables false
set_option linter.unusedSimpArgs false
theorem tmod_nat (m n : Nat) : Int.tmod (m : Int) (n : Int) = ((m % n : Nat) : Int) := rfl
end Go.Proofs.Ytpmconnonleokaa.Pure
end
section
namespace Go.Proofs.Ytpmconnonleokaa.Pure
open Go.RowKit Go.Proofs.Ytpmconnonleokaa.P Go.Proofs.YtpmconnonleokaaW.PrintWords Go.Proofs.YtpmconnonleokaaW.PrintLast Go.Proofs.YtpmconnonleokaaW.PrintMore
set_option linter.unusedVariables false
set_option linter.unusedSimpArgs false
theorem likeInts_ev (l : List Int) (hl : l.length ≤ 1048576) : Ev (fun k => laws_likeInts.f k l l) true := by
  have main : ∀ d n : Nat, n + d = l.length → Ev (fun k => laws_likeInts.l0 k l l (n : Int)) true := by
    intro d
    induction d with
    | zero =>
      intro n hn
      exact Ev.step (fun k => by rw [laws_likeInts.l0]) (ev_neg (by omega) (ev_now _))
    | succ d ih =>
      intro n hn
      refine Ev.step (fun k => by rw [laws_likeInts.l0]) (ev_pos (by omega) (ev_pos (by omega) (ev_pos (by omega) (ev_pos rfl ?_))))
      rw [wrap_succ (n := n) (by omega)]
      exact ih (n + 1) (by omega)
  unfold laws_likeInts.f
  exact ev_pos rfl (main l.length 0 (by omega))
end Go.Proofs.Ytpmconnonleokaa.Pure
end
section
namespace Go.Proofs.Ytpmconnonleokaa.Pure
open Go.RowKit Go.Proofs.Ytpmconnonleokaa.P Go.Proofs.YtpmconnonleokaaW.PrintWords Go.Proofs.YtpmconnonleokaaW.PrintLast Go.Proofs.YtpmconnonleokaaW.PrintMore
set_option linter.unusedVariables false
set_option linter.unusedSimpArgs false
def EvP {β : Type} (A : Nat → Option β) (P : β → Prop) : Prop := ∃ r, Ev A r ∧ P r
theorem evp_now {β : Type} {P : β → Prop} {r : β} (h : P r) : EvP (fun _ => some r) P := ⟨r, Ev.now r, h⟩
theorem evp_bind {α β : Type} {g : Nat → Option α} {f : Nat → α → Option β} {Q : α → Prop} {P : β → Prop} (h : EvP g Q) (k : ∀ a, Q a → EvP (fun n => f n a) P) : EvP (fun n => (g n).bind (f n)) P := by
  obtain ⟨a, e, q⟩ := h
  obtain ⟨r, e2, p⟩ := k a q
  exact ⟨r, Ev.bind e e2, p⟩
theorem evp_ev {α β : Type} {g : Nat → Option α} {f : Nat → α → Option β} {a : α} {P : β → Prop} (h : Ev g a) (k : EvP (fun n => f n a) P) : EvP (fun n => (g n).bind (f n)) P := by
  obtain ⟨r, e2, p⟩ := k
  exact ⟨r, Ev.bind h e2, p⟩
theorem evp_fix {α β : Type} {g : Option α} {f : Nat → α → Option β} {a : α} {P : β → Prop} (h : g = some a) (k : EvP (fun n => f n a) P) : EvP (fun n => g.bind (f n)) P := by subst h; exact k
theorem evp_pos {β : Type} {c : Prop} [Decidable c] {A B : Nat → Option β} {P : β → Prop} (h : c) (k : EvP A P) : EvP (fun n => if c then A n else B n) P := by
  obtain ⟨r, e, p⟩ := k; exact ⟨r, Ev.congr (fun n => if_pos h) e, p⟩
theorem evp_neg {β : Type} {c : Prop} [Decidable c] {A B : Nat → Option β} {P : β → Prop} (h : ¬ c) (k : EvP B P) : EvP (fun n => if c then A n else B n) P := by
  obtain ⟨r, e, p⟩ := k; exact ⟨r, Ev.congr (fun n => if_neg h) e, p⟩
theorem evp_ite {β : Type} {c : Prop} [Decidable c] {A B : Nat → Option β} {P : β → Prop} (h1 : c → EvP A P) (h2 : ¬ c → EvP B P) : EvP (fun n => if c then A n else B n) P := by
  by_cases h : c
  · exact evp_pos h (h1 h)
  · exact evp_neg h (h2 h)
theorem evp_step {β : Type} {g f : Nat → Option β} {P : β → Prop} (h : ∀ k, g (k + 1) = f k) (k : EvP f P) : EvP g P := by
  obtain ⟨r, e, p⟩ := k; exact ⟨r, Ev.step h e, p⟩
theorem evp_true {A : Nat → Option Bool} (h : EvP A (fun r => r = true)) : Ev A true := by
  obtain ⟨r, e, p⟩ := h; subst p; exact e
theorem evp_of {β : Type} {A : Nat → Option β} {P : β → Prop} {r : β} (h : Ev A r) (p : P r) : EvP A P := ⟨r, h, p⟩
end Go.Proofs.Ytpmconnonleokaa.Pure
end
section
namespace Go.Proofs.Ytpmconnonleokaa.Pure
open Go.RowKit Go.Proofs.Ytpmconnonleokaa.P Go.Proofs.YtpmconnonleokaaW.PrintWords Go.Proofs.YtpmconnonleokaaW.PrintLast Go.Proofs.YtpmconnonleokaaW.PrintMore
set_option linter.unusedVariables false
set_option linter.unusedSimpArgs false
def Bytes (b : List Int) : Prop := (∀ x ∈ b, 0 ≤ x ∧ x ≤ 255) ∧ b.length ≤ 4096
def Ok (b : List Int) (i : Int) : Prop := 0 ≤ i ∧ i ≤ (b.length : Int)
theorem bits_bound (x : Int) : 0 ≤ Go.bits .and .u64 x 16777215 ∧ Go.bits .and .u64 x 16777215 ≤ 16777215 := by
  have h : (BitVec.ofInt 64 x &&& BitVec.ofInt 64 16777215).toNat ≤ 16777215 := by
    rw [BitVec.toNat_and]
    exact Nat.le_trans Nat.and_le_right (by decide)
  show 0 ≤ IntKind.u64.wrap ((BitVec.ofInt 64 x &&& BitVec.ofInt 64 16777215).toNat : Int) ∧ IntKind.u64.wrap ((BitVec.ofInt 64 x &&& BitVec.ofInt 64 16777215).toNat : Int) ≤ 16777215
  generalize (BitVec.ofInt 64 x &&& BitVec.ofInt 64 16777215).toNat = n at h
  have e : IntKind.u64.wrap (n : Int) = (n : Int) := by
    show (n : Int) % 18446744073709551616 = (n : Int)
    omega
  rw [e]
  omega
theorem next_f {b : List Int} (hb : Bytes b) {i : Int} (hi : Ok b i) (h n : Int) :
    ∃ v i2 h2, spec_l01Next.f b i h n = some (v, i2, h2) ∧ 0 ≤ v ∧ (1 ≤ n → v < n) ∧ (n < 1 → v = 0) ∧ Ok b i2 := by
  unfold spec_l01Next.f
  by_cases c : n < 1
  · rw [if_pos c]; exact ⟨_, _, _, rfl, by omega, fun _ => by omega, fun _ => rfl, hi⟩
  rw [if_neg c]
  have hy := bits_bound (IntKind.u64.wrap ((IntKind.u64.wrap (h * 6364136223846793005)) + 1442695040888963407) / 8589934592)
  generalize Go.bits .and .u64 (IntKind.u64.wrap ((IntKind.u64.wrap (h * 6364136223846793005)) + 1442695040888963407) / 8589934592) 16777215 = y at hy ⊢
  rw [wrap_id (x := y) (by omega) (by omega)]
  have hl := hb.2
  obtain ⟨h0, h1⟩ := hi
  by_cases d : i < (b.length : Int)
  · have hx := hb.1 _ (rd_mem (l := b) (i := i) h0 d)
    rw [if_pos d, if_pos h0, if_neg (by omega), wrap_id (x := rd b i) (by omega) (by omega), wrap_id (x := y + rd b i) (by omega) (by omega), wrap_id (x := i + 1) (by omega) (by omega)]
    exact ⟨_, _, _, rfl, Int.tmod_nonneg _ (by omega), fun _ => Int.tmod_lt_of_pos _ (by omega), fun h => absurd h c, by constructor <;> omega⟩
  · rw [if_neg d, if_neg (by omega)]
    exact ⟨_, _, _, rfl, Int.tmod_nonneg _ (by omega), fun _ => Int.tmod_lt_of_pos _ (by omega), fun h => absurd h c, ⟨h0, h1⟩⟩
theorem evp_next {β : Type} {b : List Int} (hb : Bytes b) {i : Int} (hi : Ok b i) {h n : Int} {f : Nat → Int × Int × Int → Option β} {P : β → Prop}
    (k : ∀ v i2 h2, 0 ≤ v → (1 ≤ n → v < n) → (n < 1 → v = 0) → Ok b i2 → EvP (fun m => f m (v, i2, h2)) P) : EvP (fun m => (spec_l01Next.f b i h n).bind (f m)) P := by
  obtain ⟨v, i2, h2, e, h1, h3, h4, h5⟩ := next_f hb hi h n
  exact evp_fix e (k v i2 h2 h1 h3 h4 h5)
theorem evp_pick {β : Type} {b : List Int} (hb : Bytes b) {i : Int} (hi : Ok b i) {h : Int} {l : List Int} (hl : 1 ≤ l.length) {f : Nat → Int × Int × Int → Option β} {P : β → Prop}
    (k : ∀ v i2 h2, v ∈ l → Ok b i2 → EvP (fun m => f m (v, i2, h2)) P) : EvP (fun m => (spec_l01Pick.f b i h l).bind (f m)) P := by
  obtain ⟨v, i2, h2, e, h1, h3, h4, h5⟩ := next_f hb hi h (l.length : Int)
  refine evp_fix (a := (rd l v, i2, h2)) ?_ (k _ i2 h2 (rd_mem h1 (h3 (by omega))) h5)
  unfold spec_l01Pick.f
  rw [e, Option.bind_some, if_pos h1, if_pos (h3 (by omega))]
theorem l01From_evp (b : List Int) (hl : b.length ≤ 4096) : EvP (fun k => spec_l01From.f k b) (fun r => r.1 = b ∧ r.2.1 = 0) := by
  have main : ∀ d n : Nat, n + d = b.length → ∀ h : Int, EvP (fun k => spec_l01From.l0 k b (n : Int) b 0 h) (fun r => r.1 = b ∧ r.2.1 = 0) := by
    intro d
    induction d with
    | zero =>
      intro n hn h
      exact evp_step (fun k => by rw [spec_l01From.l0]) (evp_neg (by omega) (evp_now ⟨rfl, rfl⟩))
    | succ d ih =>
      intro n hn h
      refine evp_step (fun k => by rw [spec_l01From.l0]) (evp_pos (by omega) (evp_pos (by omega) (evp_pos (by omega) ?_)))
      rw [wrap_succ (n := n) (by omega)]
      exact ih (n + 1) (by omega) _
  unfold spec_l01From.f
  exact main b.length 0 (by omega) _
theorem evp_from {β : Type} {b : List Int} (hb : Bytes b) {f : Nat → List Int × Int × Int → Option β} {P : β → Prop}
    (k : ∀ h, EvP (fun m => f m (b, 0, h)) P) : EvP (fun m => (spec_l01From.f m b).bind (f m)) P := by
  refine evp_bind (l01From_evp b hb.2) ?_
  rintro ⟨b2, i, h⟩ ⟨h1, h2⟩
  cases h1; cases h2
  exact k h
theorem ok_start (b : List Int) : Ok b 0 := by constructor <;> omega
theorem evp_near {β : Type} {b : List Int} (hb : Bytes b) {i : Int} (hi : Ok b i) {h : Int} {a : Int} {f : Nat → Int × Int × Int → Option β} {P : β → Prop}
    (k : ∀ v i2 h2, Ok b i2 → (v = -1 ∨ v = wrap64 (a + 1) ∨ v = 1099511627776 ∨ v = -4611686018427387904 ∨ (0 ≤ v ∧ (1 ≤ wrap64 (a + 1) → v < wrap64 (a + 1)) ∧ (wrap64 (a + 1) < 1 → v = 0))) → EvP (fun m => f m (v, i2, h2)) P) : EvP (fun m => (spec_l01Near.f b i h a).bind (f m)) P := by
  obtain ⟨v, i2, h2, e, h1, h3, h4, h5⟩ := next_f hb hi h 14
  by_cases c : v = 0
  · obtain ⟨u, i3, h6, e2, q1, q3, q4, q5⟩ := next_f hb h5 h2 (([(-1), wrap64 (a + 1), 1099511627776, (-4611686018427387904)] : List Int).length : Int)
    have hu : u < 4 := q3 (by show (1 : Int) ≤ 4; decide)
    refine evp_fix (a := (rd [(-1), wrap64 (a + 1), 1099511627776, (-4611686018427387904)] u, i3, h6)) ?_ (k _ i3 h6 q5 ?_)
    · unfold spec_l01Near.f
      rw [e, Option.bind_some, if_pos c]
      unfold spec_l01Pick.f
      rw [e2, Option.bind_some, if_pos q1, if_pos (show u < (([(-1), wrap64 (a + 1), 1099511627776, (-4611686018427387904)] : List Int).length : Int) from hu), Option.bind_some]
    · have hm := rd_mem (l := [(-1), wrap64 (a + 1), 1099511627776, (-4611686018427387904)]) q1 (show u < (([(-1), wrap64 (a + 1), 1099511627776, (-4611686018427387904)] : List Int).length : Int) from hu)
      simp only [List.mem_cons, List.mem_nil_iff, or_false] at hm
      rcases hm with h | h | h | h
      · exact .inl h
      · exact .inr (.inl h)
      · exact .inr (.inr (.inl h))
      · exact .inr (.inr (.inr (.inl h)))
  · obtain ⟨u, i3, h6, e2, q1, q3, q4, q5⟩ := next_f hb h5 h2 (wrap64 (a + 1))
    refine evp_fix (a := (u, i3, h6)) ?_ (k _ i3 h6 q5 (.inr (.inr (.inr (.inr ⟨q1, q3, q4⟩)))))
    unfold spec_l01Near.f
    rw [e, Option.bind_some, if_neg c, e2, Option.bind_some]
end Go.Proofs.Ytpmconnonleokaa.Pure
end
section
namespace Go.Proofs.Ytpmconnonleokaa.Pure
open Go.RowKit Go.Proofs.Ytpmconnonleokaa.P Go.Proofs.YtpmconnonleokaaW.PrintWords Go.Proofs.YtpmconnonleokaaW.PrintLast Go.Proofs.YtpmconnonleokaaW.PrintMore
set_option linter.unusedVariables false
set_option linter.unusedSimpArgs false
theorem Least_spec_l0 (l : List Int) (hs : isShares l = true) : ∀ (d : Nat) (b : Int), b + d = 3600 → 0 ≤ b → Ev (fun k => spec_LeastDifference.l0 k l (tot l) b) (leastGo (dead l) d b) := by
  intro d
  induction d with
  | zero =>
    intro b hb h0
    obtain rfl : b = 3600 := by omega
    refine Ev.step (fun k => by rw [spec_LeastDifference.l0]) ?_
    exact ev_bind (l07Deadline_ev l hs 3600 (by omega)) (ev_pos (dead_ok l hs) (ev_now _))
  | succ d ih =>
    intro b hb h0
    refine Ev.step (fun k => by rw [spec_LeastDifference.l0]) ?_
    refine ev_bind (l07Deadline_ev l hs b (by omega)) ?_
    rw [leastGo]
    by_cases h : (dead l b).2 = true
    · rw [if_pos h]; exact ev_pos h (ev_now _)
    · rw [if_neg h]
      refine ev_neg h ?_
      rw [wrap_id (by omega) (by omega)]
      exact ih (b + 1) (by omega) (by omega)
theorem Least_impl_l0 (l : List Int) (hs : isShares l = true) : ∀ (d : Nat) (b : Int), b + d = 3600 → 0 ≤ b → Ev (fun k => impl_LeastDifference.l0 k l b) (leastGo (dead l) d b) := by
  intro d
  induction d with
  | zero =>
    intro b hb h0
    obtain rfl : b = 3600 := by omega
    refine Ev.step (fun k => by rw [impl_LeastDifference.l0]) ?_
    exact ev_bind (deadlines_ev l hs 3600 (by omega)) (ev_pos (dead_ok l hs) (ev_now _))
  | succ d ih =>
    intro b hb h0
    refine Ev.step (fun k => by rw [impl_LeastDifference.l0]) ?_
    refine ev_bind (deadlines_ev l hs b (by omega)) ?_
    rw [leastGo]
    by_cases h : (dead l b).2 = true
    · rw [if_pos h]; exact ev_pos h (ev_now _)
    · rw [if_neg h]
      refine ev_neg h ?_
      rw [wrap_id (by omega) (by omega)]
      exact ih (b + 1) (by omega) (by omega)
theorem spec_Least_ev (l : List Int) (hl : l.length ≤ 1048576) : Ev (fun k => spec_LeastDifference.f k l) (leastR l) := by
  unfold spec_LeastDifference.f leastR
  refine ev_bind (l07Sum_ev l hl) ?_
  by_cases hs : isShares l = true
  · have ht := isShares_pos hs
    rw [if_pos hs, if_pos hs]
    exact ev_neg (by omega) (Least_spec_l0 l hs 3600 0 (by omega) (by omega))
  · rw [if_neg hs, if_neg hs]
    exact ev_pos rfl (ev_now _)
theorem impl_Least_ev (l : List Int) (hl : l.length ≤ 1048576) : Ev (fun k => impl_LeastDifference.f k l) (leastR l) := by
  unfold impl_LeastDifference.f leastR
  refine ev_bind (areShares_ev l hl) ?_
  by_cases hs : isShares l = true
  · rw [if_pos hs, hs]
    exact ev_pos rfl (Least_impl_l0 l hs 3600 0 (by omega) (by omega))
  · rw [if_neg hs]
    exact ev_neg hs (ev_now _)
end Go.Proofs.Ytpmconnonleokaa.Pure
end
section
namespace Go.Proofs.Ytpmconnonleokaa.Pure
open Go.RowKit Go.Proofs.Ytpmconnonleokaa.P Go.Proofs.YtpmconnonleokaaW.PrintWords Go.Proofs.YtpmconnonleokaaW.PrintLast Go.Proofs.YtpmconnonleokaaW.PrintMore
set_option linter.unusedVariables false
set_option linter.unusedSimpArgs false
theorem leastGo_ok {l : List Int} (hs : isShares l = true) {c : Int} (h : leastGo (dead l) 3600 0 = ((dead l c).1, c, 0)) : (dead l c).2 = true := by
  have main : ∀ (d : Nat) (b : Int), b + d = 3600 → ∀ c, leastGo (dead l) d b = ((dead l c).1, c, 0) → (dead l c).2 = true := by
    intro d
    induction d with
    | zero =>
      intro b hb c h
      rw [leastGo] at h
      have : b = c := by simpa using congrArg (fun p => p.2.1) h
      rw [← this, show b = 3600 by omega]
      exact dead_ok l hs
    | succ d ih =>
      intro b hb c h
      rw [leastGo] at h
      by_cases e : (dead l b).2 = true
      · rw [if_pos e] at h
        have : b = c := by simpa using congrArg (fun p => p.2.1) h
        rw [← this]; exact e
      · rw [if_neg e] at h
        exact ih (b + 1) (by omega) c h
  exact main 3600 0 (by omega) c h
theorem leastGo_min {l : List Int} {c : Int} (h : leastGo (dead l) 3600 0 = ((dead l c).1, c, 0)) : ∀ x : Int, 0 ≤ x → x < c → ¬ (dead l x).2 = true := by
  have main : ∀ (d : Nat) (b : Int), ∀ c, leastGo (dead l) d b = ((dead l c).1, c, 0) → ∀ x : Int, b ≤ x → x < c → ¬ (dead l x).2 = true := by
    intro d
    induction d with
    | zero =>
      intro b c h x h1 h2
      rw [leastGo] at h
      have : b = c := by simpa using congrArg (fun p => p.2.1) h
      omega
    | succ d ih =>
      intro b c h x h1 h2
      rw [leastGo] at h
      by_cases e : (dead l b).2 = true
      · rw [if_pos e] at h
        have : b = c := by simpa using congrArg (fun p => p.2.1) h
        omega
      · rw [if_neg e] at h
        by_cases hx : x = b
        · rw [hx]; exact e
        · exact ih (b + 1) c h x (by omega) h2
  exact main 3600 0 c h
end Go.Proofs.Ytpmconnonleokaa.Pure
end
section
namespace Go.Proofs.Ytpmconnonleokaa.Pure
open Go.RowKit Go.Proofs.Ytpmconnonleokaa.P Go.Proofs.YtpmconnonleokaaW.PrintWords Go.Proofs.YtpmconnonleokaaW.PrintLast Go.Proofs.YtpmconnonleokaaW.PrintMore
set_option linter.unusedVariables false
set_option linter.unusedSimpArgs false
theorem mn_low (a b : Int) : mn a b ≤ a ∧ mn a b ≤ b ∧ (mn a b = a ∨ mn a b = b) := by unfold mn; split <;> omega
theorem tot_snoc (l : List Int) (x : Int) : tot (l ++ [x]) = tot l + x := by
  induction l with
  | nil => simp [tot]
  | cons y l ih => rw [List.cons_append, tot, tot, ih]; omega
theorem DrawShares_l0 {b : List Int} (hb : Bytes b) : ∀ (d : Nat) (l : List Int) (left i h : Int), d ≤ 100 → l.length + d ≤ 8 → 1 ≤ l.length → (∀ x ∈ l, 1 ≤ x ∧ x ≤ 60) → 0 ≤ left → tot l + left ≤ 60 → Ok b i →
    EvP (fun k => spec_l07DrawShares.l0 k l left (d : Int) b i h) (fun r => isShares r.1 = true ∧ Ok b r.2.1) := by
  intro d
  induction d with
  | zero =>
    intro l left i h _ hl h1 hx h0 ht hi
    have : isShares l = true := (isShares_iff l).2 ⟨by omega, hx, by omega⟩
    refine evp_step (fun k => by rw [spec_l07DrawShares.l0]) (evp_neg (by omega) ?_)
    refine evp_step (fun k => by rw [spec_l07DrawShares.j1]) ?_
    exact evp_neg (by simp) (evp_now ⟨this, hi⟩)
  | succ d ih =>
    intro l left i h hd hl h1 hx h0 ht hi
    refine evp_step (fun k => by rw [spec_l07DrawShares.l0]) (evp_pos (by omega) ?_)
    refine evp_step (fun k => by rw [spec_l07DrawShares.j1]) ?_
    by_cases c : left > 0
    · rw [decide_eq_true c]
      refine evp_pos rfl (evp_pick hb hi (by decide) fun p i2 h2 hp hi2 => evp_next hb hi2 fun v i3 h3 v0 v1 v2 hi3 => ?_)
      have hp2 : 2 ≤ p := by simp at hp; omega
      have hm := mn_low left p
      have hv : v < mn left p := v1 (show 1 ≤ mn left p by omega)
      have hv2 : v < left := by omega
      have hb1 := tot_bounds 1 60 l hx
      rw [wrap_id (x := 1 + v) (by omega) (by omega), wrap_id (x := left - (1 + v)) (by omega) (by omega), wrap_id (x := ((d + 1 : Nat) : Int) - 1) (by omega) (by omega), show ((d + 1 : Nat) : Int) - 1 = (d : Int) by omega]
      refine evp_pos (by omega) (ih (l ++ [1 + v]) (left - (1 + v)) i3 h3 (by omega) (by rw [List.length_append, List.length_singleton]; omega) (by rw [List.length_append, List.length_singleton]; omega) ?_ (by omega) (by rw [tot_snoc]; omega) hi3)
      intro x hx'
      rcases List.mem_append.1 hx' with e | e
      · exact hx x e
      · rw [List.mem_singleton.1 e]; omega
    · rw [decide_eq_false c]
      have : isShares l = true := (isShares_iff l).2 ⟨by omega, hx, by omega⟩
      exact evp_neg (by simp) (evp_now ⟨this, hi⟩)
theorem DrawShares_evp {b : List Int} (hb : Bytes b) {i : Int} (hi : Ok b i) (h a : Int) (ha : 5 ≤ a ∧ a ≤ 60) : EvP (fun k => spec_l07DrawShares.f k b i h a) (fun r => isShares r.1 = true ∧ Ok b r.2.1) := by
  unfold spec_l07DrawShares.f
  refine evp_next hb hi fun v i2 h2 v0 v1 v2 hi2 => evp_next hb hi2 fun u i3 h3 u0 u1 u2 hi3 => ?_
  have hv := v1 (by omega)
  have hu := u1 (by omega)
  obtain ⟨m, rfl⟩ : ∃ m : Nat, u = m := ⟨u.toNat, by omega⟩
  show EvP (fun k => spec_l07DrawShares.l0 k [wrap64 (1 + v)] (wrap64 (a - 5)) (m : Int) b i3 h3) _
  rw [wrap_id (x := 1 + v) (by omega) (by omega), wrap_id (x := a - 5) (by omega) (by omega)]
  refine DrawShares_l0 hb m [1 + v] (a - 5) i3 h3 (by omega) (by simp; omega) (by simp) ?_ (by omega) ?_ hi3
  · intro x hx; rw [List.mem_singleton.1 hx]; omega
  · simp only [tot]; omega
theorem Told_evp {b : List Int} (hb : Bytes b) : EvP (fun k => spec_l07Told.f k b) (fun r => r.length ≤ 1000) := by
  unfold spec_l07Told.f
  refine evp_from hb fun h => evp_pick hb (ok_start b) (by decide) fun p i2 h2 hp hi2 => ?_
  have hp2 : 5 ≤ p ∧ p ≤ 60 := by simp at hp; omega
  refine evp_bind (DrawShares_evp hb hi2 h2 p hp2) ?_
  rintro ⟨l, i3, h3⟩ ⟨hs, hi3⟩
  have hs' : isShares l = true := hs
  have h8 := ((isShares_iff l).1 hs').1
  refine evp_next hb hi3 fun v i4 h4 v0 v1 v2 hi4 => evp_ite (fun _ => evp_pick hb hi4 (by decide) fun u i5 h5 hu hi5 => evp_pos ?_ (evp_now ?_)) (fun _ => evp_ite (fun _ => evp_now ?_) (fun _ => evp_now ?_))
  · show l.length < 17592186044416
    omega
  · show (l ++ [u]).length ≤ 1000
    rw [List.length_append, List.length_singleton]; omega
  · show (0 : Nat) ≤ 1000
    omega
  · show l.length ≤ 1000
    omega
theorem BadTurns_evp {b : List Int} (hb : Bytes b) {i : Int} (hi : Ok b i) (h : Int) (l : List Int) (hl : 1 ≤ l.length ∧ l.length ≤ 1000) : EvP (fun k => spec_l01BadTurns.f k b i h l) (fun r => r.1.length ≤ 1000 ∧ Ok b r.2.1) := by
  have loop : ∀ (d : Nat) (x : List Int) (i h : Int), x.length ≤ 1000 → x.length + d ≥ 121 → Ok b i → EvP (fun k => spec_l01BadTurns.l0 k x b i h) (fun r => r.1.length ≤ 1000 ∧ Ok b r.2.1) := by
    intro d
    induction d with
    | zero =>
      intro x i h hx h9 hi
      exact evp_step (fun k => by rw [spec_l01BadTurns.l0]) (evp_neg (by omega) (evp_now ⟨hx, hi⟩))
    | succ d ih =>
      intro x i h hx h9 hi
      refine evp_step (fun k => by rw [spec_l01BadTurns.l0]) (evp_ite (fun c => evp_pos (by omega) ?_) (fun c => evp_now ⟨hx, hi⟩))
      exact ih _ i h (by rw [List.length_append, List.length_singleton]; omega) (by rw [List.length_append, List.length_singleton]; omega) hi
  unfold spec_l01BadTurns.f
  refine evp_fix (l01Own_f l (by omega)) (evp_next hb hi fun v i2 h2 v0 v1 v2 hi2 => evp_ite (fun _ => evp_now ⟨by simp, hi2⟩) (fun _ => evp_ite (fun _ => ?_) (fun _ => evp_ite (fun _ => loop 121 l i2 h2 hl.2 (by omega) hi2) (fun _ => evp_now ⟨hl.2, hi2⟩))))
  refine evp_next hb hi2 fun u i3 h3 u0 u1 u2 hi3 => evp_pick hb hi3 (by decide) fun t i4 h4 ht hi4 => evp_pos u0 (evp_pos (u1 (by omega)) (evp_now ⟨?_, hi4⟩))
  show (l.set _ _).length ≤ 1000
  rw [List.length_set]; omega
theorem L07Draw_j2 {b : List Int} (hb : Bytes b) {i : Int} (hi : Ok b i) (h : Int) (l : List Int) (hl : 1 ≤ l.length ∧ l.length ≤ 900) : EvP (fun k => spec_l07Draw.j2 k l b i h) (fun r => r.1.length ≤ 1000 ∧ Ok b r.2.1) := by
  have bad : ∀ (x : List Int) (i h : Int), Ok b i → 1 ≤ x.length ∧ x.length ≤ 1000 → EvP (fun k => (spec_l01BadTurns.f k b i h x).bind fun bt => some (bt.1, bt.2.1, bt.2.2)) (fun r => r.1.length ≤ 1000 ∧ Ok b r.2.1) := fun x i h hi hx =>
    evp_bind (BadTurns_evp hb hi h x hx) fun r hr => evp_now hr
  refine evp_step (fun k => by rw [spec_l07Draw.j2]) ?_
  refine evp_next hb hi fun v i2 h2 v0 v1 v2 hi2 => evp_ite (fun _ => evp_fix rfl (evp_pos ?_ (bad _ i2 h2 hi2 ?_))) (fun _ => evp_ite (fun _ => evp_fix rfl (evp_pos ?_ (bad _ i2 h2 hi2 ?_))) (fun _ => bad _ i2 h2 hi2 ⟨hl.1, by omega⟩))
  · show l.length + 1 < 17592186044416
    omega
  · rw [List.length_append, List.length_singleton]; omega
  · show l.length + 1 < 17592186044416
    omega
  · rw [List.length_append, List.length_singleton]; omega
theorem L07Draw_l1 {b : List Int} (hb : Bytes b) (sh : List Int) (i : Nat) (T : Nat) (hT : T ≤ 1000) {P : List Int × Int × Int → Prop} (hi : i < 1000)
    (K : ∀ l j h, l.length = T → Ok b j → EvP (fun k => spec_l07Draw.l0 k sh l (sh.length : Int) ((i + 1 : Nat) : Int) b j h) P) : ∀ (n : Nat) (l : List Int) (j h : Int), l.length + n = T → Ok b j →
    EvP (fun k => spec_l07Draw.l1 k sh l (i : Int) (n : Int) (sh.length : Int) (i : Int) b j h) P := by
  intro n
  induction n with
  | zero =>
    intro l j h hl hj
    refine evp_step (fun k => by rw [spec_l07Draw.l1]) (evp_neg (by omega) ?_)
    rw [wrap_succ (n := i) (by omega)]
    exact K l j h (by omega) hj
  | succ n ih =>
    intro l j h hl hj
    refine evp_step (fun k => by rw [spec_l07Draw.l1]) (evp_pos (by omega) ?_)
    rw [wrap_id (x := (l.length : Int) + 1) (by omega) (by omega)]
    refine evp_next hb hj fun v i2 h2 v0 v1 v2 hi2 => ?_
    have hv := v1 (by omega)
    refine evp_pos v0 (evp_pos (show v ≤ (l.length : Int) by omega) (evp_fix (l01Own_f _ (by rw [List.length_take]; omega)) (evp_fix rfl (evp_pos ?_ (evp_fix rfl (evp_fix rfl (evp_pos ?_ ?_)))))))
    · show (l.take v.toNat).length + 1 < 17592186044416
      rw [List.length_take]; omega
    · show (l.take v.toNat ++ [(i : Int)]).length + (l.drop v.toNat).length < 17592186044416
      rw [List.length_append, List.length_take, List.length_drop, List.length_singleton]; omega
    · rw [wrap_id (x := ((n + 1 : Nat) : Int) - 1) (by omega) (by omega), show ((n + 1 : Nat) : Int) - 1 = (n : Int) by omega]
      refine ih _ i2 h2 ?_ hi2
      show (l.take v.toNat ++ [(i : Int)] ++ l.drop v.toNat).length + n = T
      rw [List.length_append, List.length_append, List.length_take, List.length_drop, List.length_singleton]; omega
theorem L07Draw_l0 {b : List Int} (hb : Bytes b) (sh : List Int) (hs : isShares sh = true) : ∀ (d i : Nat) (l : List Int) (j h : Int), i + d = sh.length → (l.length : Int) = tot (sh.take i) → Ok b j →
    EvP (fun k => spec_l07Draw.l0 k sh l (sh.length : Int) (i : Int) b j h) (fun r => r.1.length ≤ 1000 ∧ Ok b r.2.1) := by
  have ht := isShares_pos hs
  obtain ⟨h8, hx, h60⟩ := (isShares_iff sh).1 hs
  intro d
  induction d with
  | zero =>
    intro i l j h hi hl hj
    refine evp_step (fun k => by rw [spec_l07Draw.l0]) (evp_neg (by omega) ?_)
    rw [List.take_of_length_le (by omega)] at hl
    exact L07Draw_j2 hb hj h l (by omega)
  | succ d ih =>
    intro i l j h hi hl hj
    have hlt : i < sh.length := by omega
    have hxi := hx _ (List.getElem_mem hlt)
    have hbt := tot_bounds 1 60 (sh.take i) (fun x h => hx x (List.mem_of_mem_take h))
    rw [List.length_take] at hbt
    have hr := rd_nat hlt
    refine evp_step (fun k => by rw [spec_l07Draw.l0]) (evp_pos (by omega) (evp_pos (by omega) (evp_pos (by omega) ?_)))
    obtain ⟨n, hn⟩ : ∃ n : Nat, sh[i] = n := ⟨sh[i].toNat, by omega⟩
    rw [hr, hn]
    refine L07Draw_l1 hb sh i (l.length + n) (by omega) (by omega) (fun l2 j2 h2 hl2 hj2 => ih (i + 1) l2 j2 h2 (by omega) ?_ hj2) n l j h rfl hj
    rw [tot_take_succ sh i hlt, hn]
    omega
theorem Doubled_small : ∀ u : Fin 4, spec_l07Doubled.f 10 (wrap64 (1 + (u.val : Int))) = some ((spec_l07Doubled.f 10 (wrap64 (1 + (u.val : Int)))).getD []) ∧ 1 ≤ ((spec_l07Doubled.f 10 (wrap64 (1 + (u.val : Int)))).getD []).length ∧ ((spec_l07Doubled.f 10 (wrap64 (1 + (u.val : Int)))).getD []).length ≤ 100 := by decide +kernel
theorem L07Draw_evp {b : List Int} (hb : Bytes b) {i : Int} (hi : Ok b i) (h a : Int) (ha : 5 ≤ a ∧ a ≤ 60) : EvP (fun k => spec_l07Draw.f k b i h a) (fun r => r.1.length ≤ 1000 ∧ Ok b r.2.1) := by
  unfold spec_l07Draw.f
  refine evp_bind (DrawShares_evp hb hi h a ha) ?_
  rintro ⟨l, i2, h2⟩ ⟨hs', hi2'⟩
  have hs : isShares l = true := hs'
  have hi2 : Ok b i2 := hi2'
  have ht := isShares_pos hs
  have h8 := ((isShares_iff l).1 hs).1
  refine evp_next hb hi2 fun v i3 h3 v0 v1 v2 hi3 => evp_ite (fun _ => evp_ev (spec_Greedy_ev l (by omega)) ?_) (fun _ => evp_ite (fun _ => evp_ev (spec_Least_ev l (by omega)) ?_) (fun _ => evp_ite (fun _ => ?_) (fun _ => ?_)))
  · have e : greedyR l = (greedy l, 0) := by rw [greedyR, if_pos hs]
    have F := (greedy_is_fair l hs).len
    rw [e]
    exact L07Draw_j2 hb hi3 h3 (greedy l) (by omega)
  · obtain ⟨c, h1, h4, h5⟩ := leastGo_from (dead l) 3600 0
    have e : leastR l = ((dead l c).1, c, 0) := by rw [leastR, if_pos hs, h1]
    have ok : (dead l c).2 = true := leastGo_ok hs h1
    have F := (dead_is_fair l hs c h4 ok).1.len
    rw [e]
    exact L07Draw_j2 hb hi3 h3 (dead l c).1 (by omega)
  · refine evp_next hb hi3 fun u i4 h4 u0 u1 u2 hi4 => ?_
    have hu := u1 (by omega)
    obtain ⟨y, hy, hy2⟩ : ∃ y, Ev (fun k => spec_l07Doubled.f k (wrap64 (1 + u))) y ∧ 1 ≤ y.length ∧ y.length ≤ 100 := by
      have key := Doubled_small ⟨u.toNat, by omega⟩
      have eu : ((u.toNat : Nat) : Int) = u := by omega
      simp only [eu] at key
      exact ⟨_, Ev.of (fun k => spec_l07Doubled.mono _ k) key.1, key.2⟩
    exact evp_ev hy (L07Draw_j2 hb hi4 h4 y (by omega))
  · exact L07Draw_l0 hb l hs l.length 0 [] i3 h3 (by omega) (by simp [tot]) hi3
theorem DrawAreBalanced_evp {b : List Int} (hb : Bytes b) : EvP (fun k => spec_DrawAreBalanced.f k b) (fun r => r.length ≤ 1000) := by
  unfold spec_DrawAreBalanced.f
  refine evp_from hb fun h => evp_pick hb (ok_start b) (by decide) fun p i2 h2 hp hi2 => evp_bind (L07Draw_evp hb hi2 h2 p (by simp at hp; omega)) fun r hr => evp_now hr.1
theorem DrawDifferenceAt_evp {b : List Int} (hb : Bytes b) : EvP (fun k => spec_DrawDifferenceAt.f k b) (fun r => r.1.length ≤ 1000) := by
  unfold spec_DrawDifferenceAt.f
  refine evp_from hb fun h => evp_pick hb (ok_start b) (by decide) fun p i2 h2 hp hi2 => evp_bind (L07Draw_evp hb hi2 h2 p (by simp at hp; omega)) ?_
  rintro ⟨l, i3, h3⟩ ⟨hl, hi3⟩
  exact evp_near hb hi3 fun v i4 h4 hi4 _ => evp_pick hb hi4 (by decide) fun u i5 h5 hu hi5 => evp_near hb hi5 fun t i6 h6 hi6 _ => evp_now hl
theorem DrawDoubledTurns_evp {b : List Int} (hb : Bytes b) : EvP (fun k => spec_DrawDoubledTurns.f k b) (fun _ => True) := by
  unfold spec_DrawDoubledTurns.f
  exact evp_from hb fun h => evp_near hb (ok_start b) fun v i4 h4 hi4 _ => evp_now trivial
theorem DrawLeastDifference_evp {b : List Int} (hb : Bytes b) : EvP (fun k => spec_DrawLeastDifference.f k b) (fun r => r.length ≤ 1000) := by
  unfold spec_DrawLeastDifference.f
  exact evp_bind (Told_evp hb) fun r hr => evp_now hr
theorem DrawDeadlineTurns_evp {b : List Int} (hb : Bytes b) : EvP (fun k => spec_DrawDeadlineTurns.f k b) (fun r => r.1.length ≤ 1000) := by
  unfold spec_DrawDeadlineTurns.f
  refine evp_bind (Told_evp hb) fun r hr => evp_from hb fun h => evp_pick hb (ok_start b) (by decide) fun p i2 h2 hp hi2 => evp_near hb (ok_start b) fun v i4 h4 hi4 _ => evp_now hr
end Go.Proofs.Ytpmconnonleokaa.Pure
end
section
namespace Go.Proofs.Ytpmconnonleokaa.Pure
open Go.RowKit Go.Proofs.Ytpmconnonleokaa.P Go.Proofs.YtpmconnonleokaaW.PrintWords Go.Proofs.YtpmconnonleokaaW.PrintLast Go.Proofs.YtpmconnonleokaaW.PrintMore
set_option linter.unusedVariables false
set_option linter.unusedSimpArgs false
structure SameT (l l' : List Int) : Prop where
  len : l'.length = l.length
  cnt : ∀ x, cnt x l' = cnt x l
theorem cnt_mem (x : Int) (l : List Int) : 1 ≤ cnt x l ↔ x ∈ l := by
  induction l with
  | nil => simp [cnt]
  | cons y l ih =>
    have hb := cnt_bounds x l
    rw [List.mem_cons]
    by_cases e : y = x
    · have e2 : cnt x (y :: l) = 1 + cnt x l := by simp only [cnt]; rw [if_pos e]
      constructor
      · intro _; exact .inl e.symm
      · intro _; omega
    · have e2 : cnt x (y :: l) = cnt x l := by simp only [cnt]; rw [if_neg e, Int.zero_add]
      rw [e2, ih]
      constructor
      · exact .inr
      · intro h
        rcases h with h | h
        · exact absurd h.symm e
        · exact h
theorem SameT.refl (l : List Int) : SameT l l := ⟨rfl, fun _ => rfl⟩
theorem SameT.trans {l l' l'' : List Int} (h : SameT l l') (h' : SameT l' l'') : SameT l l'' := ⟨h'.len.trans h.len, fun x => (h'.cnt x).trans (h.cnt x)⟩
theorem SameT.mem {l l' : List Int} (h : SameT l l') (x : Int) : x ∈ l' ↔ x ∈ l := by
  rw [← cnt_mem, ← cnt_mem, h.cnt]
theorem SameT.grt {l l' : List Int} (h : SameT l l') : great l' = great l := by
  have h1 := great_le (l := l') (great_nonneg l) fun x hx => great_pos ((h.mem x).1 hx)
  have h2 := great_le (l := l) (great_nonneg l') fun x hx => great_pos ((h.mem x).2 hx)
  omega
theorem SameT.shares {l l' : List Int} (h : SameT l l') : sharesL l' = sharesL l := by
  unfold sharesL
  rw [h.grt]
  exact tab_congr fun i _ => h.cnt i
end Go.Proofs.Ytpmconnonleokaa.Pure
end
section
namespace Go.Proofs.Ytpmconnonleokaa.Pure
open Go.RowKit Go.Proofs.Ytpmconnonleokaa.P Go.Proofs.YtpmconnonleokaaW.PrintWords Go.Proofs.YtpmconnonleokaaW.PrintLast Go.Proofs.YtpmconnonleokaaW.PrintMore
set_option linter.unusedVariables false
set_option linter.unusedSimpArgs false
/-- tasks: 1 to 8 gaps in 1..40 -/
def isTasks (l : List Int) : Bool := decide (1 ≤ (l.length : Int) ∧ (l.length : Int) ≤ 8) && l.all fun g => decide (1 ≤ g ∧ g ≤ 40)
theorem IsTasks_f (l : List Int) : impl_IsTasks.f l = some (isTasks l) := rfl
theorem isTasks_iff (l : List Int) : isTasks l = true ↔ (1 ≤ l.length ∧ l.length ≤ 8) ∧ (∀ x ∈ l, 1 ≤ x ∧ x ≤ 40) := by
  unfold isTasks
  rw [Bool.and_eq_true, List.all_eq_true, decide_eq_true_iff]
  simp only [decide_eq_true_iff]
  constructor
  · rintro ⟨h1, h2⟩; exact ⟨by omega, h2⟩
  · rintro ⟨h1, h2⟩; exact ⟨by omega, h2⟩
end Go.Proofs.Ytpmconnonleokaa.Pure
end
section
namespace Go.Proofs.Ytpmconnonleokaa.Pure
open Go.RowKit Go.Proofs.Ytpmconnonleokaa.P Go.Proofs.YtpmconnonleokaaW.PrintWords Go.Proofs.YtpmconnonleokaaW.PrintLast Go.Proofs.YtpmconnonleokaaW.PrintMore
set_option linter.unusedVariables false
set_option linter.unusedSimpArgs false
theorem Shares_l2 (l s : List Int) (hl : l.length ≤ 1048576) (hs : s.length ≤ 1048576) : ∀ d n : Nat, n + d = s.length → (∀ x ∈ s.take n, x ≠ 0) →
    Ev (fun k => spec_l07Shares.l2 k l s (s.length : Int) (n : Int)) (if s.contains 0 = true then ([], false) else (s, decide ((l.length : Int) ≤ 60))) := by
  intro d
  induction d with
  | zero =>
    intro n hn ha
    rw [List.take_of_length_le (by omega)] at ha
    rw [if_neg (fun h => ha 0 (List.contains_iff_mem.1 h) rfl)]
    exact Ev.step (fun k => by rw [spec_l07Shares.l2]) (ev_neg (by omega) (ev_now _))
  | succ d ih =>
    intro n hn ha
    have hlt : n < s.length := by omega
    refine Ev.step (fun k => by rw [spec_l07Shares.l2]) (ev_pos (by omega) (ev_pos (by omega) (ev_pos (by omega) ?_)))
    rw [rd_nat hlt]
    by_cases c : s[n] = 0
    · rw [if_pos (List.contains_iff_mem.2 (c ▸ List.getElem_mem hlt))]
      exact ev_pos c (ev_now _)
    · refine ev_neg c ?_
      rw [wrap_succ (by omega)]
      refine ih (n + 1) (by omega) fun x hx => ?_
      rw [List.take_succ_eq_append_getElem hlt] at hx
      rcases List.mem_append.1 hx with hx | hx
      · exact ha x hx
      · rw [List.mem_singleton.1 hx]; exact c
theorem Shares_l1 (l : List Int) (hl : l.length ≤ 1048576) (hm : ∀ x ∈ l, 0 ≤ x ∧ x ≤ 7) (R : List Int × Bool) (hR : Ev (fun k => spec_l07Shares.l2 k l (sharesL l) ((sharesL l).length : Int) 0) R) : ∀ d n : Nat, n + d = l.length →
    Ev (fun k => spec_l07Shares.l1 k l (tab (fun i => cnt (i : Int) (l.take n)) (great l + 1).toNat) (n : Int)) R := by
  have hg := great_nonneg l
  intro d
  induction d with
  | zero =>
    intro n hn
    rw [List.take_of_length_le (by omega)]
    refine Ev.step (fun k => by rw [spec_l07Shares.l1]) ?_
    exact ev_neg (by omega) hR
  | succ d ih =>
    intro n hn
    have hlt : n < l.length := by omega
    have hx := hm _ (List.getElem_mem hlt)
    have hx2 := great_pos (List.getElem_mem hlt)
    refine Ev.step (fun k => by rw [spec_l07Shares.l1]) (ev_pos (by omega) (ev_pos (by omega) ?_))
    rw [rd_nat hlt]
    refine ev_pos (by omega) (ev_pos (by rw [tab_length]; omega) ?_)
    obtain ⟨b, hb⟩ : ∃ b : Nat, l[n] = b := ⟨l[n].toNat, by omega⟩
    have hcb := cnt_bounds (b : Int) (l.take n)
    rw [List.length_take] at hcb
    rw [hb, Int.toNat_natCast, rd_tab (by omega), wrap_id (by omega) (by omega), wrap_succ (by omega), tab_set]
    have ih := ih (n + 1) (by omega)
    rw [tab_congr (g := fun i => if i = b then cnt (b : Int) (l.take n) + 1 else cnt (i : Int) (l.take n)) (fun i hi => by
      rw [cnt_take_succ _ l n hlt, hb]
      by_cases e : i = b
      · subst e; rw [if_pos rfl, if_pos rfl]
      · rw [if_neg (by omega), if_neg e, Int.add_zero])] at ih
    exact ih
theorem Shares_l0 (l : List Int) (hl : l.length ≤ 1048576) (h7 : ∀ x ∈ l, x ≤ 7) : ∀ d n : Nat, n + d = l.length → (∀ x ∈ l.take n, 0 ≤ x) →
    Ev (fun k => spec_l07Shares.l0 k l (great (l.take n)) (n : Int)) (if (∀ x ∈ l, 0 ≤ x) then (if (sharesL l).contains 0 = true then ([], false) else (sharesL l, decide ((l.length : Int) ≤ 60))) else ([], false)) := by
  have hg := great_nonneg l
  have hg7 := great_le (l := l) (b := 7) (by omega) h7
  intro d
  induction d with
  | zero =>
    intro n hn ha
    rw [List.take_of_length_le (by omega)] at ha ⊢
    rw [if_pos ha]
    refine Ev.step (fun k => by rw [spec_l07Shares.l0]) (ev_neg (by omega) ?_)
    rw [wrap_id (by omega) (by omega)]
    refine ev_pos (by omega) (ev_pos (by omega) ?_)
    have hlen : (sharesL l).length ≤ 1048576 := by rw [sharesL, tab_length]; omega
    have h1 := Shares_l1 l hl (fun x hx => ⟨ha x hx, h7 x hx⟩) _ (Shares_l2 l (sharesL l) hl hlen (sharesL l).length 0 (by omega) (by simp)) l.length 0 (by omega)
    rw [show tab (fun i => cnt (i : Int) (l.take 0)) (great l + 1).toNat = List.replicate (great l + 1).toNat 0 by
      rw [← tab_zero]; exact tab_congr fun i _ => by simp [cnt]] at h1
    exact h1
  | succ d ih =>
    intro n hn ha
    have hlt : n < l.length := by omega
    refine Ev.step (fun k => by rw [spec_l07Shares.l0]) (ev_pos (by omega) (ev_pos (by omega) ?_))
    rw [rd_nat hlt]
    by_cases c : l[n] < 0
    · rw [if_neg (fun h => by have := h _ (List.getElem_mem hlt); omega)]
      exact ev_pos c (ev_now _)
    · refine ev_neg c ?_
      rw [wrap_succ (by omega), ← great_take_succ l n hlt]
      refine ih (n + 1) (by omega) fun x hx => ?_
      rw [List.take_succ_eq_append_getElem hlt] at hx
      rcases List.mem_append.1 hx with hx | hx
      · exact ha x hx
      · rw [List.mem_singleton.1 hx]; omega
theorem l07Given_ev (l : List Int) (hl : l.length ≤ 1048576) : Ev (fun k => spec_l07Given.f k l) (if levelR l = 0 then sharesL l else [], levelR l) := by
  unfold spec_l07Given.f
  refine ev_bind (l01Turns_ev l 8 (by omega)) ?_
  cases ht : isTurns l 8 with
  | false => exact ev_neg (by simp) (ev_is (by simp [levelR, ht]))
  | true =>
    have h7 : ∀ x ∈ l, x ≤ 7 := fun x hx => (isTurns8_mem ht hx).2
    refine ev_pos rfl (ev_bind (show Ev (fun k => spec_l07Shares.f k l) _ from Shares_l0 l hl h7 l.length 0 (by omega) (by simp)) ?_)
    by_cases hc : l.contains (-1) = true
    · have hr : levelR l = 5 := by unfold levelR; rw [if_pos ht, if_pos hc]
      have e : ¬ (∀ x ∈ l, 0 ≤ x) := fun h => by have := h _ (List.contains_iff_mem.1 hc); omega
      refine ev_neg (by rw [if_neg e]; simp) (ev_is (by rw [hr]; rfl))
    · have hc2 := Bool.eq_false_iff.2 hc
      have e : ∀ x ∈ l, 0 ≤ x := fun x hx => by
        have := isTurns8_mem ht hx
        have : x ≠ -1 := fun e => contains_false hc2 (e ▸ hx)
        omega
      by_cases hz : (sharesL l).contains 0 = true
      · have hr : levelR l = 5 := by unfold levelR; rw [if_pos ht, if_neg hc, if_pos hz]
        exact ev_neg (by rw [if_pos e, if_pos hz]; simp) (ev_is (by rw [hr]; rfl))
      · by_cases h60 : (l.length : Int) ≤ 60
        · have hr : levelR l = 0 := by unfold levelR; rw [if_pos ht, if_neg hc, if_neg hz, if_neg (by omega)]
          exact ev_pos (by rw [if_pos e, if_neg hz]; exact decide_eq_true h60) (ev_is (by rw [hr, if_pos e, if_neg hz]; rfl))
        · have hr : levelR l = 5 := by unfold levelR; rw [if_pos ht, if_neg hc, if_neg hz, if_pos (by omega)]
          exact ev_neg (by rw [if_pos e, if_neg hz]; simp only [decide_eq_false h60]; simp) (ev_is (by rw [hr]; rfl))
end Go.Proofs.Ytpmconnonleokaa.Pure
end
section
namespace Go.Proofs.Ytpmconnonleokaa.Pure
open Go.RowKit Go.Proofs.Ytpmconnonleokaa.P Go.Proofs.YtpmconnonleokaaW.PrintWords Go.Proofs.YtpmconnonleokaaW.PrintLast Go.Proofs.YtpmconnonleokaaW.PrintMore
set_option linter.unusedVariables false
set_option linter.unusedSimpArgs false
def topT (l : List Int) : Int := l.foldl mx (-1)
def diffR (l : List Int) (n i : Int) : Int × Int := if isTurns l 8 = true then (if 0 ≤ n ∧ n ≤ (l.length : Int) then (if 0 ≤ i ∧ i ≤ topT l then (if levelR l = 0 then (dif l n.toNat i.toNat, 0) else (0, levelR l)) else (0, 2)) else (0, 2)) else (0, 2)
theorem topT_great {l : List Int} (h1 : 1 ≤ l.length) (hm : ∀ x ∈ l, 0 ≤ x) : topT l = great l := by
  cases l with
  | nil => simp at h1
  | cons y l =>
    have hy := hm y List.mem_cons_self
    simp only [topT, great, List.foldl_cons]
    rw [show mx (-1) y = y by unfold mx; split <;> omega, show mx 0 y = y by unfold mx; split <;> omega]
theorem MaxT_ev (l : List Int) (hl : l.length ≤ 1048576) (h0 : 1 ≤ l.length) (hp : ∀ x ∈ l, -1 ≤ x) : Ev (fun k => slices_Max_Sint64_int64.f k l) (topT l) := by
  unfold slices_Max_Sint64_int64.f
  refine ev_neg (by omega) (ev_pos (by omega) ?_)
  cases l with
  | nil => simp at h0
  | cons y l =>
    have hy := hp y List.mem_cons_self
    have h1 := Max_l0 (y :: l) hl y l.length 1 (by simp only [List.length_cons]; omega)
    have e0 : topT (y :: l) = (y :: l).foldl mx y := by
      simp only [topT, List.foldl_cons]
      rw [show mx (-1) y = y by unfold mx; split <;> omega, mx_self]
    have e1 : ((y :: l).take 1).foldl mx y = y := by simp [mx_self]
    rw [e1, ← e0] at h1
    exact h1
theorem DifferenceAt_l0 (l : List Int) (hl : l.length ≤ 1048576) (n i : Int) (R : Int × Int)
    (hR : Ev (fun k => (spec_l01In.f i 0 (topT l)).bind fun t104 => (if t104 = true then ((spec_l07Given.f k l).bind fun bt105 => (if bt105.2 = 0 then ((spec_l07Differences.f k l bt105.1).bind fun t109 => (if 0 ≤ n then (if n < (t109.length : Int) then (if 0 ≤ i then (if i < ((rd_L2 t109 n).length : Int) then (some (rd (rd_L2 t109 n) i, 0)) else (none)) else (none)) else (none)) else (none))) else (some (0, bt105.2)))) else (some (0, 2)))) R) : ∀ d j : Nat, j + d = l.length →
    Ev (fun k => spec_DifferenceAt.l0 k l n i ((l.take j).foldl mx (-1)) (l.length : Int) (j : Int)) R := by
  intro d
  induction d with
  | zero =>
    intro j hj
    rw [List.take_of_length_le (by omega)]
    refine Ev.step (fun k => by rw [spec_DifferenceAt.l0]) ?_
    exact ev_neg (by omega) hR
  | succ d ih =>
    intro j hj
    have hlt : j < l.length := by omega
    refine Ev.step (fun k => by rw [spec_DifferenceAt.l0]) (ev_pos (by omega) (ev_pos (by omega) (ev_pos (by omega) ?_)))
    rw [rd_nat hlt, wrap_succ (by omega)]
    have ih := ih (j + 1) (by omega)
    rw [List.take_succ_eq_append_getElem hlt, List.foldl_append] at ih
    exact ih
theorem DifferenceAt_spec (l : List Int) (hl : l.length ≤ 1048576) (n i : Int) : Ev (fun k => spec_DifferenceAt.f k l n i) (diffR l n i) := by
  unfold spec_DifferenceAt.f diffR
  refine ev_bind (l01Turns_ev l 8 (by omega)) ?_
  cases ht : isTurns l 8 with
  | false =>
    refine ev_neg (by simp) ?_
    rw [if_neg (by simp)]
    refine Ev.step (fun k => by rw [spec_DifferenceAt.j0]) ?_
    exact ev_pos rfl (ev_now _)
  | true =>
    have hlen := isTurns_len ht
    rw [if_pos rfl]
    refine ev_pos rfl (ev_fix (l01In_f _ _ _) ?_)
    by_cases hn : 0 ≤ n ∧ n ≤ (l.length : Int)
    · rw [if_pos hn]
      refine Ev.step (fun k => by rw [spec_DifferenceAt.j0]) ?_
      refine ev_neg (by rw [decide_eq_true hn]; simp) ?_
      have h := DifferenceAt_l0 l hl n i (if 0 ≤ i ∧ i ≤ topT l then (if levelR l = 0 then (dif l n.toNat i.toNat, 0) else (0, levelR l)) else (0, 2)) ?_ l.length 0 (by omega)
      · exact h
      · refine ev_fix (l01In_f _ _ _) ?_
        by_cases hi : 0 ≤ i ∧ i ≤ topT l
        · rw [if_pos hi]
          refine ev_pos (decide_eq_true hi) (ev_bind (l07Given_ev l hl) ?_)
          by_cases h : levelR l = 0
          · have L := levelR_zero h
            have hg := L.top
            rw [topT_great L.len.1 (fun x hx => (L.mem x hx).1)] at hi
            rw [if_pos h, if_pos h]
            refine ev_pos h (ev_bind (l07Differences_ev l L) ?_)
            obtain ⟨nn, rfl⟩ : ∃ nn : Nat, n = nn := ⟨n.toNat, by omega⟩
            obtain ⟨ii, rfl⟩ : ∃ ii : Nat, i = ii := ⟨i.toNat, by omega⟩
            rw [rowsD_rd _ _ _ _ (by omega), rowsD_length, rowD_length, show rd (rowD l (great l + 1).toNat nn) (ii : Int) = dif l nn ii from rd_tab (by omega), Int.toNat_natCast, Int.toNat_natCast]
            exact ev_pos (by omega) (ev_pos (by omega) (ev_pos (by omega) (ev_pos (by omega) (ev_now _))))
          · rw [if_neg h, if_neg h]
            exact ev_neg h (ev_now _)
        · rw [if_neg hi]
          exact ev_neg (by rw [decide_eq_false hi]; simp) (ev_now _)
    · rw [if_neg hn]
      refine Ev.step (fun k => by rw [spec_DifferenceAt.j0]) ?_
      exact ev_pos (by rw [decide_eq_false hn]; rfl) (ev_now _)
theorem DifferenceAt_impl (l : List Int) (hl : l.length ≤ 1048576) (n i : Int) : Ev (fun k => impl_DifferenceAt.f k l n i) (diffR l n i) := by
  unfold impl_DifferenceAt.f diffR
  refine ev_fix (areTurns_f l 8) ?_
  cases ht : isTurns l 8 with
  | false =>
    refine ev_neg (by simp) ?_
    rw [if_neg (by simp)]
    refine Ev.step (fun k => by rw [impl_DifferenceAt.j0]) ?_
    exact ev_pos rfl (ev_now _)
  | true =>
    have hlen := isTurns_len ht
    rw [if_pos rfl]
    refine ev_pos rfl (ev_fix (show impl_length_int64.f l = some (l.length : Int) from rfl) (ev_fix (within_f _ _ _) ?_))
    by_cases hn : 0 ≤ n ∧ n ≤ (l.length : Int)
    · rw [if_pos hn]
      refine ev_pos (decide_eq_true hn) (ev_bind (MaxT_ev l hl hlen.1 (fun x hx => (isTurns8_mem ht hx).1)) (ev_fix (within_f _ _ _) ?_))
      refine Ev.step (fun k => by rw [impl_DifferenceAt.j0]) ?_
      by_cases hi : 0 ≤ i ∧ i ≤ topT l
      · rw [if_pos hi]
        refine ev_neg (by rw [decide_eq_true hi]; simp) (ev_bind (levelCode_ev l hl) ?_)
        by_cases h : levelR l = 0
        · have L := levelR_zero h
          have hL := L.len
          rw [if_pos h]
          obtain ⟨nn, rfl⟩ : ∃ nn : Nat, n = nn := ⟨n.toNat, by omega⟩
          obtain ⟨ii, rfl⟩ : ∃ ii : Nat, i = ii := ⟨i.toNat, by omega⟩
          have hp := dif_parts l hL.2 nn ii (by omega)
          refine ev_pos h (ev_fix (show impl_length_int64.f l = some (l.length : Int) from rfl) (ev_pos (by omega) (ev_pos (by omega) ?_)))
          rw [Int.toNat_natCast, Int.toNat_natCast]
          refine ev_bind (share_ev (l.take nn) ii (by rw [List.length_take]; omega)) (ev_bind (share_ev l ii hl) ?_)
          rw [wrap_id (x := (l.length : Int) * _) (by omega) (by omega), wrap_id (x := (nn : Int) * _) (by omega) (by omega), wrap_id (by omega) (by omega)]
          exact ev_now _
        · rw [if_neg h]
          exact ev_neg h (ev_now _)
      · rw [if_neg hi]
        exact ev_pos (by rw [decide_eq_false hi]; rfl) (ev_now _)
    · rw [if_neg hn]
      refine ev_neg (by rw [decide_eq_false hn]; simp) ?_
      refine Ev.step (fun k => by rw [impl_DifferenceAt.j0]) ?_
      exact ev_pos rfl (ev_now _)
end Go.Proofs.Ytpmconnonleokaa.Pure
end
section
namespace Go.Proofs.Ytpmconnonleokaa.Pure
open Go.RowKit Go.Proofs.Ytpmconnonleokaa.P Go.Proofs.YtpmconnonleokaaW.PrintWords Go.Proofs.YtpmconnonleokaaW.PrintLast Go.Proofs.YtpmconnonleokaaW.PrintMore
set_option linter.unusedVariables false
set_option linter.unusedSimpArgs false
theorem turnsCode_f (G l : List Int) : impl_turnsCode.f G l = some (if isTasks G = true then (if isTurns l (G.length : Int) = true then 0 else 2) else 1) := by
  unfold impl_turnsCode.f
  rw [show impl_Tasks_many.f G = some (G.length : Int) from rfl, Option.bind_some, areTurns_f, Option.bind_some]
  unfold impl_tasksCode.f
  rw [IsTasks_f, Option.bind_some]
  cases isTasks G <;> cases isTurns l (G.length : Int) <;> rfl
theorem isTurns_of {l : List Int} {m : Nat} (hm : m ≤ 1000) (h : 1 ≤ l.length ∧ l.length ≤ 120) (hx : ∀ x ∈ l, -1 ≤ x ∧ x < (m : Int)) : isTurns l (m : Int) = true := by
  rw [isTurns, decide_eq_true (by omega), Bool.true_and, List.all_eq_true]
  intro x hxl
  have := hx x hxl
  rw [wrap_id (x := (m : Int) - 1) (by omega) (by omega)]
  exact decide_eq_true (by omega)
theorem isTurns_iff8 (l : List Int) : isTurns l 8 = true ↔ (1 ≤ l.length ∧ l.length ≤ 120) ∧ ∀ x ∈ l, -1 ≤ x ∧ x ≤ 7 := by
  refine ⟨fun h => ⟨isTurns_len h, fun x hx => isTurns8_mem h hx⟩, fun h => ?_⟩
  exact isTurns_of (m := 8) (by omega) h.1 (fun x hx => by have := h.2 x hx; omega)
end Go.Proofs.Ytpmconnonleokaa.Pure
end
section
namespace Go.Proofs.Ytpmconnonleokaa.Pure
open Go.RowKit Go.Proofs.Ytpmconnonleokaa.P Go.Proofs.YtpmconnonleokaaW.PrintWords Go.Proofs.YtpmconnonleokaaW.PrintLast Go.Proofs.YtpmconnonleokaaW.PrintMore
set_option linter.unusedVariables false
set_option linter.unusedSimpArgs false
theorem mxD_bounds {a d : Int} (h : -3600 ≤ d ∧ d ≤ 3600) : a ≤ mxD a d ∧ d ≤ mxD a d ∧ -d ≤ mxD a d ∧ (∀ B, a ≤ B → -B ≤ d → d ≤ B → mxD a d ≤ B) := by
  unfold mxD
  rw [wrap_id (x := -d) (by omega) (by omega)]
  have h1 := le_mx a (mx d (-d))
  have h2 := le_mx d (-d)
  refine ⟨h1.1, by omega, by omega, fun B h3 h4 h5 => ?_⟩
  unfold mx
  split <;> split <;> omega
theorem foldI_mx (l : List Int) (hl : l.length ≤ 60) (n : Nat) (hn : n ≤ l.length) : ∀ (d i : Nat) (a : Int), a ≤ foldI mxD l n d i a ∧ (∀ j, i ≤ j → j < i + d → dif l n j ≤ foldI mxD l n d i a ∧ -(dif l n j) ≤ foldI mxD l n d i a) ∧
    (∀ B, a ≤ B → (∀ j, i ≤ j → j < i + d → -B ≤ dif l n j ∧ dif l n j ≤ B) → foldI mxD l n d i a ≤ B) := by
  intro d
  induction d with
  | zero => intro i a; exact ⟨Int.le_refl _, fun j h1 h2 => by omega, fun B h _ => h⟩
  | succ d ih =>
    intro i a
    have hb := mxD_bounds (a := a) (dif_bounds l hl n i hn)
    obtain ⟨h1, h2, h3⟩ := ih (i + 1) (mxD a (dif l n i))
    rw [foldI]
    refine ⟨by omega, fun j h4 h5 => ?_, fun B h4 h5 => h3 B (hb.2.2.2 B h4 (h5 i (by omega) (by omega)).1 (h5 i (by omega) (by omega)).2) (fun j h6 h7 => h5 j (by omega) (by omega))⟩
    by_cases e : j = i
    · subst e; omega
    · exact h2 j (by omega) (by omega)
theorem foldN_mx (l : List Int) (hl : l.length ≤ 60) (m : Nat) : ∀ (d n : Nat) (a : Int), n + d = l.length + 1 → a ≤ foldN mxD l m d n a ∧ (∀ k, n ≤ k → k ≤ l.length → ∀ j, j < m → dif l k j ≤ foldN mxD l m d n a ∧ -(dif l k j) ≤ foldN mxD l m d n a) ∧
    (∀ B, a ≤ B → (∀ k, n ≤ k → k ≤ l.length → ∀ j, j < m → -B ≤ dif l k j ∧ dif l k j ≤ B) → foldN mxD l m d n a ≤ B) := by
  intro d
  induction d with
  | zero => intro n a hn; exact ⟨Int.le_refl _, fun k h1 h2 => by omega, fun B h _ => h⟩
  | succ d ih =>
    intro n a hn
    have hi := foldI_mx l hl n (by omega) m 0 a
    obtain ⟨h1, h2, h3⟩ := ih (n + 1) (foldI mxD l n m 0 a) (by omega)
    rw [foldN]
    refine ⟨by omega, fun k h4 h5 j hj => ?_, fun B h4 h5 => h3 B (hi.2.2 B h4 (fun j _ h7 => h5 n (by omega) (by omega) j (by omega))) (fun k h6 h7 => h5 k (by omega) h7)⟩
    by_cases e : k = n
    · subst e
      have := hi.2.1 j (by omega) (by omega)
      omega
    · exact h2 k (by omega) h5 j hj
theorem foldD_mx (l : List Int) (hl : l.length ≤ 60) : 0 ≤ foldD mxD l ∧ (∀ k, k ≤ l.length → ∀ j : Nat, j < (great l + 1).toNat → -(foldD mxD l) ≤ dif l k j ∧ dif l k j ≤ foldD mxD l) ∧
    (∀ B, 0 ≤ B → (∀ k, k ≤ l.length → ∀ j : Nat, j < (great l + 1).toNat → -B ≤ dif l k j ∧ dif l k j ≤ B) → foldD mxD l ≤ B) := by
  obtain ⟨h1, h2, h3⟩ := foldN_mx l hl (great l + 1).toNat (l.length + 1) 0 0 (by omega)
  refine ⟨h1, fun k hk j hj => ?_, fun B hB h => h3 B hB (fun k _ hk => h k hk)⟩
  have := h2 k (by omega) hk j hj
  unfold foldD
  omega
theorem fair_great {sh y : List Int} (hs : isShares sh = true) (F : Fair sh y) : great y + 1 = sh.length := by
  obtain ⟨h8, hx, h60⟩ := (isShares_iff sh).1 hs
  have h1 := great_le (l := y) (b := (sh.length : Int) - 1) (by omega) (fun x hx => by have := F.mem x hx; omega)
  have hlt : sh.length - 1 < sh.length := by omega
  have hc := F.cnt (sh.length - 1) hlt
  rw [rd_nat hlt] at hc
  have hm : ((sh.length - 1 : Nat) : Int) ∈ y := (cnt_mem _ _).1 (by have := hx _ (List.getElem_mem hlt); omega)
  have := great_pos hm
  omega
theorem fair_shares {sh y : List Int} (hs : isShares sh = true) (F : Fair sh y) : sharesL y = sh := by
  have hg := fair_great hs F
  unfold sharesL
  rw [show (great y + 1).toNat = sh.length by omega]
  symm
  refine tab_ext rfl fun i hi => ?_
  rw [F.cnt i hi, rd_nat hi]
theorem fair_turns {sh y : List Int} (hs : isShares sh = true) (F : Fair sh y) : isTurns y (sh.length : Int) = true := by
  have ht := isShares_pos hs
  have h8 := ((isShares_iff sh).1 hs).1
  have hl := F.len
  exact isTurns_of (m := sh.length) (by omega) (by omega) (fun x hx => by have := F.mem x hx; omega)
theorem fair_level {sh y : List Int} (hs : isShares sh = true) (F : Fair sh y) : levelR y = 0 := by
  have ht := isShares_pos hs
  obtain ⟨h8, hx, h60⟩ := (isShares_iff sh).1 hs
  have hl := F.len
  unfold levelR
  rw [if_pos ((isTurns_iff8 y).2 ⟨by omega, fun x hx => by have := F.mem x hx; omega⟩), if_neg, if_neg, if_neg (by omega)]
  · intro h
    rw [fair_shares hs F, List.contains_iff_mem] at h
    have := hx 0 h
    omega
  · intro h
    rw [List.contains_iff_mem] at h
    have := F.mem (-1) h
    omega
theorem fair_idle {sh y : List Int} (F : Fair sh y) : cnt (-1) y = 0 := by
  have h := (cnt_bounds (-1) y).1
  have : ¬ 1 ≤ cnt (-1) y := fun h => by have := F.mem (-1) ((cnt_mem _ _).1 h); omega
  omega
theorem SharesOf_l0 (l : List Int) (hl : l.length ≤ 1048576) (M : Nat) (hM : M ≤ 1000) : ∀ d n : Nat, n + d = M →
    Ev (fun k => impl_SharesOf.l0 k l (tab (fun i => cnt (i : Int) l) n) (M : Int) (n : Int)) (tab (fun i => cnt (i : Int) l) M, cnt (-1) l, 0) := by
  intro d
  induction d with
  | zero =>
    intro n hn
    obtain rfl : n = M := by omega
    refine Ev.step (fun k => by rw [impl_SharesOf.l0]) ?_
    exact ev_neg (by omega) (ev_bind (share_ev l (-1) hl) (ev_now _))
  | succ d ih =>
    intro n hn
    have ih := ih (n + 1) (by omega)
    rw [tab_succ] at ih
    refine Ev.step (fun k => by rw [impl_SharesOf.l0]) ?_
    refine ev_pos (by omega) (ev_bind (share_ev l _ hl) (ev_pos (by rw [tab_length]; omega) ?_))
    rw [wrap_succ (n := n) (by omega)]
    exact ih
theorem ones_tasks {n : Nat} (h : 1 ≤ n ∧ n ≤ 8) : isTasks (List.replicate n 1) = true := by
  refine (isTasks_iff _).2 ⟨by rw [List.length_replicate]; exact h, fun x hx => ?_⟩
  have := (List.mem_replicate.1 hx).2
  omega
theorem fair_SharesOf {sh y : List Int} (hs : isShares sh = true) (F : Fair sh y) : Ev (fun k => impl_SharesOf.f k (List.replicate sh.length 1) y) (sh, 0, 0) := by
  have ht := isShares_pos hs
  have h8 := ((isShares_iff sh).1 hs).1
  have hl := F.len
  have hsl := fair_shares hs F
  have hg := fair_great hs F
  unfold impl_SharesOf.f
  refine ev_fix (turnsCode_f _ _) ?_
  rw [ones_tasks h8, if_pos rfl, List.length_replicate, fair_turns hs F, if_pos rfl]
  refine ev_pos rfl (ev_fix (show impl_Tasks_many.f (List.replicate sh.length 1) = some (sh.length : Int) by show some ((List.replicate sh.length (1 : Int)).length : Int) = _; rw [List.length_replicate]) ?_)
  have h := SharesOf_l0 y (by omega) sh.length (by omega) sh.length 0 (by omega)
  unfold sharesL at hsl
  rw [show (great y + 1).toNat = sh.length by omega] at hsl
  rw [hsl, fair_idle F] at h
  exact h
end Go.Proofs.Ytpmconnonleokaa.Pure
end
section
namespace Go.Proofs.Ytpmconnonleokaa.Pure
open Go.RowKit Go.Proofs.Ytpmconnonleokaa.P Go.Proofs.YtpmconnonleokaaW.PrintWords Go.Proofs.YtpmconnonleokaaW.PrintLast Go.Proofs.YtpmconnonleokaaW.PrintMore
set_option linter.unusedVariables false
set_option linter.unusedSimpArgs false
def win (l : List Int) (i : Int) (fr : Nat) : Nat → Int
  | 0 => 0
  | j + 1 => win l i fr j + (if rd l (((fr + j) % l.length : Nat) : Int) = i then 1 else 0)
theorem win_bounds (l : List Int) (i : Int) (fr : Nat) : ∀ j, 0 ≤ win l i fr j ∧ win l i fr j ≤ j := by
  intro j
  induction j with
  | zero => simp [win]
  | succ j ih => simp only [win]; split <;> omega
def lohi (l : List Int) (i : Int) (len : Nat) : Nat → Nat → Int → Int → Int × Int
  | 0, _, lo, hi => (lo, hi)
  | d + 1, fr, lo, hi => lohi l i len d (fr + 1) (mn lo (win l i fr len)) (mx hi (win l i fr len))
def balLen (l : List Int) (i : Int) : Nat → Nat → Bool
  | 0, _ => true
  | d + 1, len => if (lohi l i len l.length 0 l.length 0).2 - (lohi l i len l.length 0 l.length 0).1 > 1 then false else balLen l i d (len + 1)
def balTask (l : List Int) : Nat → Nat → Bool
  | 0, _ => true
  | d + 1, i => if balLen l i (l.length - 1) 1 = true then balTask l d (i + 1) else false
theorem Bal_l3 (l : List Int) (hl : l.length ≤ 60) (i a b : Int) (len fr : Nat) (hlen : len < l.length) (hfr : fr < l.length) (lo hi : Int) (R : Bool × Int)
    (hR : Ev (fun k => spec_AreBalanced.l2 k l (l.length : Int) i (len : Int) (mn lo (win l i fr len)) (mx hi (win l i fr len)) ((fr + 1 : Nat) : Int) a b) R) : ∀ d j : Nat, j + d = len →
    Ev (fun k => spec_AreBalanced.l3 k l (l.length : Int) i (len : Int) lo hi (fr : Int) (win l i fr j) (j : Int) a b) R := by
  intro d
  induction d with
  | zero =>
    intro j hj
    obtain rfl : j = len := by omega
    refine Ev.step (fun k => by rw [spec_AreBalanced.l3]) ?_
    rw [wrap_succ (n := fr) (by omega)]
    exact ev_neg (by omega) hR
  | succ d ih =>
    intro j hj
    have ih := ih (j + 1) (by omega)
    have hw := win_bounds l i fr j
    have hmod : (fr + j) % l.length < l.length := Nat.mod_lt _ (by omega)
    rw [win] at ih
    refine Ev.step (fun k => by rw [spec_AreBalanced.l3]) ?_
    rw [wrap_id (x := (fr : Int) + j) (by omega) (by omega), show (fr : Int) + (j : Int) = ((fr + j : Nat) : Int) by omega, tmod_nat, wrap_succ (by omega)]
    refine ev_pos (by omega) (ev_neg (by omega) (ev_pos (by omega) (ev_pos (by omega) ?_)))
    by_cases c : rd l (((fr + j) % l.length : Nat) : Int) = i
    · rw [if_pos c] at ih
      refine ev_pos c ?_
      rw [wrap_id (by omega) (by omega)]
      exact ih
    · rw [if_neg c, Int.add_zero] at ih
      exact ev_neg c ih
theorem Bal_l2 (l : List Int) (hl : l.length ≤ 60) (i a b : Int) (len : Nat) (hlen : len < l.length) (R : Bool × Int) : ∀ d fr : Nat, fr + d = l.length → ∀ lo hi : Int, (0 ≤ lo ∧ lo ≤ l.length) → (0 ≤ hi ∧ hi ≤ l.length) →
    ((lohi l i len d fr lo hi).2 - (lohi l i len d fr lo hi).1 > 1 → R = (false, 0)) →
    (¬ (lohi l i len d fr lo hi).2 - (lohi l i len d fr lo hi).1 > 1 → Ev (fun k => spec_AreBalanced.l1 k l (l.length : Int) i ((len + 1 : Nat) : Int) a b) R) →
    Ev (fun k => spec_AreBalanced.l2 k l (l.length : Int) i (len : Int) lo hi (fr : Int) a b) R := by
  intro d
  induction d with
  | zero =>
    intro fr hfr lo hi h1 h2 h3 h4
    simp only [lohi] at h3 h4
    refine Ev.step (fun k => by rw [spec_AreBalanced.l2]) ?_
    rw [wrap_id (x := hi - lo) (by omega) (by omega), wrap_succ (by omega)]
    refine ev_neg (by omega) ?_
    by_cases c : hi - lo > 1
    · exact ev_pos c (ev_is (by rw [h3 c]))
    · exact ev_neg c (h4 c)
  | succ d ih =>
    intro fr hfr lo hi h1 h2 h3 h4
    have hw := win_bounds l i fr len
    refine Ev.step (fun k => by rw [spec_AreBalanced.l2]) ?_
    refine ev_pos (by omega) (Bal_l3 l hl i a b len fr hlen (by omega) lo hi R ?_ len 0 (by omega))
    refine ih (fr + 1) (by omega) _ _ ?_ ?_ h3 h4
    · unfold mn; split <;> omega
    · unfold mx; split <;> omega
theorem Bal_l1 (l : List Int) (hl : l.length ≤ 60) (i a b : Int) (hb : 0 ≤ b ∧ b ≤ 100) (R : Bool × Int) : ∀ d len : Nat, len + d = l.length →
    (balLen l i d len = true → Ev (fun k => spec_AreBalanced.l0 k l (l.length : Int) a (b + 1)) R) → (balLen l i d len = false → R = (false, 0)) →
    Ev (fun k => spec_AreBalanced.l1 k l (l.length : Int) i (len : Int) a b) R := by
  intro d
  induction d with
  | zero =>
    intro len hlen h1 h2
    refine Ev.step (fun k => by rw [spec_AreBalanced.l1]) ?_
    rw [wrap_id (x := b + 1) (by omega) (by omega)]
    exact ev_neg (by omega) (h1 rfl)
  | succ d ih =>
    intro len hlen h1 h2
    refine Ev.step (fun k => by rw [spec_AreBalanced.l1]) ?_
    refine ev_pos (by omega) (Bal_l2 l hl i a b len (by omega) R l.length 0 (by omega) _ _ (by omega) (by omega) ?_ ?_)
    · intro c
      exact h2 (by rw [balLen, if_pos c])
    · intro c
      rw [balLen, if_neg c] at h1 h2
      exact ih (len + 1) (by omega) h1 h2
theorem Bal_l0 (l : List Int) (hl : 1 ≤ l.length ∧ l.length ≤ 60) (m : Nat) (hm : m ≤ 100) : ∀ d i : Nat, i + d = m →
    Ev (fun k => spec_AreBalanced.l0 k l (l.length : Int) (m : Int) (i : Int)) (balTask l d i, 0) := by
  intro d
  induction d with
  | zero =>
    intro i hi
    refine Ev.step (fun k => by rw [spec_AreBalanced.l0]) ?_
    exact ev_neg (by omega) (ev_now _)
  | succ d ih =>
    intro i hi
    refine Ev.step (fun k => by rw [spec_AreBalanced.l0]) ?_
    refine ev_pos (by omega) (Bal_l1 l hl.2 i m i (by omega) _ (l.length - 1) 1 (by omega) ?_ ?_)
    · intro c
      rw [balTask, if_pos c]
      exact ih (i + 1) (by omega)
    · intro c
      rw [balTask, if_neg (by rw [c]; simp)]
theorem twice_get (l : List Int) (j : Nat) (h : j < (l ++ l).length) : (l ++ l)[j] = rd l ((j % l.length : Nat) : Int) := by
  rw [List.length_append] at h
  have hm : j % l.length < l.length := Nat.mod_lt _ (by omega)
  rw [rd_nat hm]
  by_cases c : j < l.length
  · rw [List.getElem_append_left c]
    simp only [Nat.mod_eq_of_lt c]
  · rw [List.getElem_append_right (by omega)]
    have : j % l.length = j - l.length := by rw [Nat.mod_eq_sub_mod (by omega), Nat.mod_eq_of_lt (by omega)]
    simp only [this]
theorem cut_win (l : List Int) (i : Int) (fr : Nat) : ∀ len : Nat, fr + len ≤ l.length + l.length → cnt i (((l ++ l).take (fr + len)).drop fr) = win l i fr len := by
  intro len
  induction len with
  | zero => intro _; rw [Nat.add_zero, List.drop_of_length_le (by rw [List.length_take]; omega)]; rfl
  | succ len ih =>
    intro h
    have hlt : fr + len < (l ++ l).length := by rw [List.length_append]; omega
    rw [win, ← ih (by omega), ← Nat.add_assoc, List.take_succ_eq_append_getElem hlt, List.drop_append_of_le_length (by rw [List.length_take]; omega), cnt_append, twice_get]
    simp [cnt]
theorem isBal_l1 (l : List Int) (hl : l.length ≤ 60) (i : Int) (len : Nat) (hlen : 1 ≤ len ∧ len < l.length) (R : Bool) : ∀ d fr : Nat, fr + d = l.length → ∀ lo hi : Int, (0 ≤ lo ∧ lo ≤ l.length) → (0 ≤ hi ∧ hi ≤ l.length) →
    ((lohi l i len d fr lo hi).2 - (lohi l i len d fr lo hi).1 > 1 → R = false) →
    (¬ (lohi l i len d fr lo hi).2 - (lohi l i len d fr lo hi).1 > 1 → Ev (fun k => impl_isBalanced.l0 k i (l.length : Int) (l ++ l) ((len + 1 : Nat) : Int)) R) →
    Ev (fun k => impl_isBalanced.l1 k i (l.length : Int) (l ++ l) (len : Int) lo hi (l.length : Int) (fr : Int)) R := by
  intro d
  induction d with
  | zero =>
    intro fr hfr lo hi h1 h2 h3 h4
    simp only [lohi] at h3 h4
    refine Ev.step (fun k => by rw [impl_isBalanced.l1]) ?_
    rw [wrap_id (x := hi - lo) (by omega) (by omega), wrap_succ (n := len) (by omega)]
    refine ev_neg (by omega) ?_
    by_cases c : hi - lo > 1
    · exact ev_pos c (ev_is (by rw [h3 c]))
    · exact ev_neg c (h4 c)
  | succ d ih =>
    intro fr hfr lo hi h1 h2 h3 h4
    have hw := win_bounds l i fr len
    have hll : (l ++ l).length = l.length + l.length := List.length_append
    refine Ev.step (fun k => by rw [impl_isBalanced.l1]) ?_
    rw [wrap_id (x := (fr : Int) + len) (by omega) (by omega), show (fr : Int) + (len : Int) = ((fr + len : Nat) : Int) by omega, Int.toNat_natCast, Int.toNat_natCast, wrap_succ (n := fr) (by omega)]
    have hs := share_ev (((l ++ l).take (fr + len)).drop fr) i (by rw [List.length_drop, List.length_take]; omega)
    rw [cut_win l i fr len (by omega)] at hs
    refine ev_pos (by omega) (ev_pos (by omega) (ev_pos (by omega) (ev_pos (by omega) (ev_bind hs ?_))))
    refine ih (fr + 1) (by omega) _ _ ?_ ?_ h3 h4
    · unfold mn; split <;> omega
    · unfold mx; split <;> omega
theorem isBal_l0 (l : List Int) (hl : l.length ≤ 60) (i : Int) : ∀ d len : Nat, 1 ≤ len → len + d = l.length → Ev (fun k => impl_isBalanced.l0 k i (l.length : Int) (l ++ l) (len : Int)) (balLen l i d len) := by
  intro d
  induction d with
  | zero =>
    intro len h1 hlen
    refine Ev.step (fun k => by rw [impl_isBalanced.l0]) ?_
    exact ev_neg (by omega) (ev_now _)
  | succ d ih =>
    intro len h1 hlen
    refine Ev.step (fun k => by rw [impl_isBalanced.l0]) ?_
    refine ev_pos (by omega) (isBal_l1 l hl i len (by omega) _ l.length 0 (by omega) _ _ (by omega) (by omega) ?_ ?_)
    · intro c
      rw [balLen, if_pos c]
    · intro c
      rw [balLen, if_neg c]
      exact ih (len + 1) (by omega) (by omega)
end Go.Proofs.Ytpmconnonleokaa.Pure
end
section
namespace Go.Proofs.Ytpmconnonleokaa.Pure
open Go.RowKit Go.Proofs.Ytpmconnonleokaa.P Go.Proofs.YtpmconnonleokaaW.PrintWords Go.Proofs.YtpmconnonleokaaW.PrintLast Go.Proofs.YtpmconnonleokaaW.PrintMore
set_option linter.unusedVariables false
set_option linter.unusedSimpArgs false
theorem Concat_l1 (ls : List (List Int)) : ∀ (d n : Nat) (x : List Int), n + d = ls.length → x ++ (ls.drop n).flatten ≠ [] → (x ++ (ls.drop n).flatten).length < 17592186044416 → ls.length ≤ 1048576 →
    Ev (fun k => slices_Concat_Sint64_int64.l1 k x ls (ls.length : Int) (n : Int)) (x ++ (ls.drop n).flatten) := by
  intro d
  induction d with
  | zero =>
    intro n x hn h0 h1 h2
    rw [List.drop_of_length_le (by omega)]
    refine Ev.step (fun k => by rw [slices_Concat_Sint64_int64.l1]) ?_
    exact ev_neg (by omega) (ev_is (by simp))
  | succ d ih =>
    intro n x hn h0 h1 h2
    have hlt : n < ls.length := by omega
    have e : ls.drop n = ls[n] :: ls.drop (n + 1) := List.drop_eq_getElem_cons hlt
    rw [e, List.flatten_cons, ← List.append_assoc] at h0 h1 ⊢
    have hr : rd_L2 ls (n : Int) = ls[n] := by simp [rd_L2, hlt]
    refine Ev.step (fun k => by rw [slices_Concat_Sint64_int64.l1]) ?_
    rw [hr, wrap_succ (by omega)]
    refine ev_pos (by omega) (ev_pos (by omega) (ev_pos (by omega) (ev_pos ?_ (ih (n + 1) _ (by omega) h0 h1 h2))))
    rw [List.length_append] at h1
    rw [List.length_append] at h1
    omega
theorem Concat_l0 (ls : List (List Int)) (h2 : ls.length ≤ 1048576) (h0 : ls.flatten ≠ []) (h1 : ls.flatten.length < 17592186044416) : ∀ d n : Nat, n + d = ls.length →
    Ev (fun k => slices_Concat_Sint64_int64.l0 k ls ((ls.take n).flatten.length : Int) ls (ls.length : Int) (n : Int)) ls.flatten := by
  intro d
  induction d with
  | zero =>
    intro n hn
    rw [List.take_of_length_le (by omega)]
    have hpos := List.length_pos_iff.2 h0
    refine Ev.step (fun k => by rw [slices_Concat_Sint64_int64.l0]) ?_
    refine ev_neg (by omega) (ev_fix (show slices_Grow_Sint64_int64.f [] (ls.flatten.length : Int) = some [] from if_pos ⟨rfl, by omega⟩) ?_)
    have := Concat_l1 ls ls.length 0 [] (by omega) (by simpa using h0) (by simpa using h1) h2
    simpa using this
  | succ d ih =>
    intro n hn
    have hlt : n < ls.length := by omega
    have hr : rd_L2 ls (n : Int) = ls[n] := by simp [rd_L2, hlt]
    have e : (ls.take (n + 1)).flatten = (ls.take n).flatten ++ ls[n] := by rw [List.take_succ_eq_append_getElem hlt, List.flatten_append]; simp
    have hle : ((ls.take n).flatten ++ ls[n]).length ≤ ls.flatten.length := by
      rw [← e]
      conv => rhs; rw [← List.take_append_drop (n + 1) ls, List.flatten_append, List.length_append]
      omega
    have ih := ih (n + 1) (by omega)
    rw [e] at ih
    rw [List.length_append] at hle ih
    refine Ev.step (fun k => by rw [slices_Concat_Sint64_int64.l0]) ?_
    rw [hr, wrap_succ (by omega), wrap_id (by omega) (by omega)]
    exact ev_pos (by omega) (ev_pos (by omega) (ev_pos (by omega) (ev_neg (by omega) ih)))
theorem Concat_ev (ls : List (List Int)) (h2 : ls.length ≤ 1048576) (h0 : ls.flatten ≠ []) (h1 : ls.flatten.length < 17592186044416) : Ev (fun k => slices_Concat_Sint64_int64.f k ls) ls.flatten := by
  unfold slices_Concat_Sint64_int64.f
  exact Concat_l0 ls h2 h0 h1 ls.length 0 (by omega)
end Go.Proofs.Ytpmconnonleokaa.Pure
end
section
namespace Go.Proofs.Ytpmconnonleokaa.Pure
open Go.RowKit Go.Proofs.Ytpmconnonleokaa.P Go.Proofs.YtpmconnonleokaaW.PrintWords Go.Proofs.YtpmconnonleokaaW.PrintLast Go.Proofs.YtpmconnonleokaaW.PrintMore
set_option linter.unusedVariables false
set_option linter.unusedSimpArgs false
def balR (l : List Int) : Bool × Int := if levelR l = 0 then (balTask l (great l + 1).toNat 0, 0) else (false, levelR l)
theorem AreBalanced_spec (l : List Int) (hl : l.length ≤ 1048576) : Ev (fun k => spec_AreBalanced.f k l) (balR l) := by
  unfold spec_AreBalanced.f balR
  refine ev_bind (l07Given_ev l hl) ?_
  by_cases h : levelR l = 0
  · have L := levelR_zero h
    have hg := L.top
    rw [if_pos h, if_pos h]
    refine ev_pos h ?_
    have := Bal_l0 l L.len (great l + 1).toNat (by omega) (great l + 1).toNat 0 (by omega)
    rw [show ((sharesL l).length : Int) = ((great l + 1).toNat : Int) by rw [sharesL, tab_length]]
    exact this
  · rw [if_neg h, if_neg h]
    exact ev_neg h (ev_now _)
theorem isBalanced_ev (l : List Int) (hl : 1 ≤ l.length ∧ l.length ≤ 60) (i : Int) : Ev (fun k => impl_isBalanced.f k l i) (balLen l i (l.length - 1) 1) := by
  unfold impl_isBalanced.f
  have hf : [l, l].flatten = l ++ l := by simp
  have hc := Concat_ev [l, l] (by simp) (by
    rw [hf]
    intro h
    have h2 : (l ++ l).length = 0 := by rw [h]; rfl
    rw [List.length_append] at h2
    omega) (by rw [hf, List.length_append]; omega)
  rw [hf] at hc
  refine ev_fix (show impl_length_int64.f l = some (l.length : Int) from rfl) (ev_bind hc ?_)
  exact isBal_l0 l hl.2 i (l.length - 1) 1 (by omega) (by omega)
theorem AreBal_l0 (l : List Int) (hl : 1 ≤ l.length ∧ l.length ≤ 60) (m : Nat) (hm : m ≤ 100) : ∀ d i : Nat, i + d = m →
    Ev (fun k => impl_AreBalanced.l0 k l (m : Int) (i : Int)) (balTask l d i, 0) := by
  intro d
  induction d with
  | zero =>
    intro i hi
    refine Ev.step (fun k => by rw [impl_AreBalanced.l0]) ?_
    exact ev_neg (by omega) (ev_now _)
  | succ d ih =>
    intro i hi
    refine Ev.step (fun k => by rw [impl_AreBalanced.l0]) ?_
    refine ev_pos (by omega) (ev_bind (isBalanced_ev l hl i) ?_)
    rw [balTask, wrap_succ (by omega)]
    cases h : balLen l i (l.length - 1) 1 with
    | true => exact ev_pos rfl (ih (i + 1) (by omega))
    | false => exact ev_neg (by simp) (ev_now _)
theorem AreBalanced_impl (l : List Int) (hl : l.length ≤ 1048576) : Ev (fun k => impl_AreBalanced.f k l) (balR l) := by
  unfold impl_AreBalanced.f balR
  refine ev_bind (levelCode_ev l hl) ?_
  by_cases h : levelR l = 0
  · have L := levelR_zero h
    have hg := L.top
    rw [if_pos h]
    refine ev_pos h (ev_bind (Max_ev l hl L.len.1 (fun x hx => (L.mem x hx).1)) ?_)
    rw [wrap_id (by omega) (by omega), show great l + 1 = ((great l + 1).toNat : Int) by omega]
    exact AreBal_l0 l L.len (great l + 1).toNat (by omega) (great l + 1).toNat 0 (by omega)
  · rw [if_neg h]
    exact ev_neg h (ev_now _)
end Go.Proofs.Ytpmconnonleokaa.Pure
end
section
namespace Go.Proofs.Ytpmconnonleokaa.Pure
open Go.RowKit Go.Proofs.Ytpmconnonleokaa.P Go.Proofs.YtpmconnonleokaaW.PrintWords Go.Proofs.YtpmconnonleokaaW.PrintLast Go.Proofs.YtpmconnonleokaaW.PrintMore
set_option linter.unusedVariables false
set_option linter.unusedSimpArgs false
theorem DoubledTurns_spec_off (a : Int) (h : ¬ (1 ≤ a ∧ a ≤ 5)) : Ev (fun k => spec_DoubledTurns.f k a) ([], 2) := by
  unfold spec_DoubledTurns.f
  refine ev_fix (l01In_f _ _ _) ?_
  rw [decide_eq_false h]
  exact ev_neg (by simp) (ev_now _)
theorem DoubledTurns_impl_off (a : Int) (h : ¬ (1 ≤ a ∧ a ≤ 5)) : Ev (fun k => impl_DoubledTurns.f k a) ([], 2) := by
  unfold impl_DoubledTurns.f
  refine ev_fix (within_f _ _ _) ?_
  rw [decide_eq_false h]
  exact ev_neg (by simp) (ev_now _)
end Go.Proofs.Ytpmconnonleokaa.Pure
end
section
namespace Go.Proofs.Ytpmconnonleokaa.Pure
open Go.RowKit Go.Proofs.Ytpmconnonleokaa.P Go.Proofs.YtpmconnonleokaaW.PrintWords Go.Proofs.YtpmconnonleokaaW.PrintLast Go.Proofs.YtpmconnonleokaaW.PrintMore
set_option linter.unusedVariables false
set_option linter.unusedSimpArgs false
theorem GreatestDifference_impl (l : List Int) (hl : l.length ≤ 1048576) : Ev (fun k => impl_GreatestDifference.f k l) (if levelR l = 0 then (foldD mxD l, 0) else (0, levelR l)) := by
  unfold impl_GreatestDifference.f
  refine ev_bind (levelCode_ev l hl) ?_
  by_cases h : levelR l = 0
  · have L := levelR_zero h
    rw [if_pos h]
    refine ev_pos h ?_
    exact ev_bind (sharesOf_ev l hl L.len.1 L.mem) (ev_bind (difs_ev mxD l L) (ev_now _))
  · rw [if_neg h]
    exact ev_neg h (ev_now _)
end Go.Proofs.Ytpmconnonleokaa.Pure
end
section
namespace Go.Proofs.Ytpmconnonleokaa.Pure
open Go.RowKit Go.Proofs.Ytpmconnonleokaa.P Go.Proofs.YtpmconnonleokaaW.PrintWords Go.Proofs.YtpmconnonleokaaW.PrintLast Go.Proofs.YtpmconnonleokaaW.PrintMore
set_option linter.unusedVariables false
set_option linter.unusedSimpArgs false
theorem Level_doubled : ∀ n : Fin 6, 1 ≤ n.val → impl_DoubledTurns.f 40 (n.val : Int) = some ((impl_DoubledTurns.f 40 (n.val : Int)).getD ([], 9)) ∧ spec_DoubledTurns.f 40 (n.val : Int) = some ((impl_DoubledTurns.f 40 (n.val : Int)).getD ([], 9)) ∧
    ((impl_DoubledTurns.f 40 (n.val : Int)).getD ([], 9)).2 = 0 ∧ balR ((impl_DoubledTurns.f 40 (n.val : Int)).getD ([], 9)).1 = (true, 0) ∧ ((impl_DoubledTurns.f 40 (n.val : Int)).getD ([], 9)).1.length ≤ 1000 ∧
    0 ≤ IntKind.u64.wrap (n.val : Int) ∧ (((impl_DoubledTurns.f 40 (n.val : Int)).getD ([], 9)).1.length : Int) = wrap64 (shl .i64 1 (IntKind.u64.wrap (n.val : Int)) - 1) := by decide +kernel
theorem Level_j7 {b : List Int} (hb : Bytes b) : Ev (fun k => laws_FnLevel.j7 k b) true := by
  refine Ev.step (fun k => by rw [laws_FnLevel.j7]) ?_
  refine evp_true ?_
  refine evp_bind (DrawAreBalanced_evp hb) fun l hl => evp_ev (AreBalanced_impl l (by omega)) (evp_ev (AreBalanced_spec l (by omega)) ?_)
  refine evp_bind (DrawDifferenceAt_evp hb) fun r hr => evp_ev (DifferenceAt_impl r.1 (by omega) r.2.1 r.2.2) (evp_ev (DifferenceAt_spec r.1 (by omega) r.2.1 r.2.2) ?_)
  exact evp_pos rfl (evp_pos (by simp) (evp_pos rfl (evp_now (by simp))))
theorem Level_j5 {b : List Int} (hb : Bytes b) : Ev (fun k => laws_FnLevel.j5 k b) true := by
  refine Ev.step (fun k => by rw [laws_FnLevel.j5]) ?_
  refine evp_true ?_
  refine evp_bind (DrawDoubledTurns_evp hb) fun n _ => evp_of ?_ rfl
  by_cases h : 1 ≤ n ∧ n ≤ 5
  · have key := Level_doubled ⟨n.toNat, by omega⟩ (by show 1 ≤ n.toNat; omega)
    have en : ((n.toNat : Nat) : Int) = n := by omega
    simp only [en] at key
    generalize (impl_DoubledTurns.f 40 n).getD ([], 9) = D at key
    obtain ⟨k1, k2, k3, k4, k5, k6, k7⟩ := key
    refine ev_bind (Ev.of (fun k => impl_DoubledTurns.mono n k) k1) (ev_bind (Ev.of (fun k => spec_DoubledTurns.mono n k) k2) (ev_pos rfl (ev_bind (likeInts_ev D.1 (by omega)) ?_)))
    refine Ev.step (fun k => by rw [laws_FnLevel.j6]) ?_
    refine ev_neg (by simp) (ev_pos k3 (ev_bind (AreBalanced_impl D.1 (by omega)) ?_))
    rw [k4]
    exact ev_pos rfl (ev_pos rfl (ev_pos k6 (ev_pos k7 (Level_j7 hb))))
  · refine ev_bind (DoubledTurns_impl_off n h) (ev_bind (DoubledTurns_spec_off n h) (ev_pos rfl (ev_bind (likeInts_ev [] (by simp)) ?_)))
    refine Ev.step (fun k => by rw [laws_FnLevel.j6]) ?_
    refine ev_neg (by simp) (ev_neg (by decide) (Level_j7 hb))
theorem great_diff {sh y : List Int} (hs : isShares sh = true) (F : Fair sh y) : Ev (fun k => impl_GreatestDifference.f k y) (foldD mxD y, 0) := by
  have ht := isShares_pos hs
  have hl := F.len
  have h := GreatestDifference_impl y (by omega)
  rw [if_pos (fair_level hs F)] at h
  exact h
theorem Level_j3 {b : List Int} (hb : Bytes b) : Ev (fun k => laws_FnLevel.j3 k b) true := by
  refine Ev.step (fun k => by rw [laws_FnLevel.j3]) ?_
  refine evp_true ?_
  refine evp_bind (DrawDeadlineTurns_evp hb) fun r hr => evp_of ?_ rfl
  have hd := deadR_length r.1 r.2
  refine ev_bind (impl_DeadlineTurns_ev r.1 r.2 (by omega)) (ev_bind (spec_DeadlineTurns_ev r.1 r.2 (by omega)) (ev_pos rfl (ev_bind (likeInts_ev (deadR r.1 r.2).1 (by omega)) ?_)))
  refine Ev.step (fun k => by rw [laws_FnLevel.j4]) ?_
  refine ev_neg (by simp) ?_
  by_cases h : isShares r.1 = true ∧ (0 ≤ r.2 ∧ r.2 ≤ 60)
  · by_cases ok : (dead r.1 r.2).2 = true
    · have e : deadR r.1 r.2 = ((dead r.1 r.2).1, 0) := by rw [deadR, if_pos h, if_pos ok]
      obtain ⟨F, hdif⟩ := dead_is_fair r.1 h.1 r.2 h.2.1 ok
      rw [e]
      refine ev_pos rfl (ev_bind (great_diff h.1 F) (ev_pos rfl (ev_neg ?_ (Level_j5 hb))))
      have ht := isShares_pos h.1
      have hl := F.len
      have hg := fair_great h.1 F
      have := (foldD_mx (dead r.1 r.2).1 (by omega)).2.2 r.2 h.2.1 (fun k hk j hj => hdif j (by omega) k hk)
      show ¬ foldD mxD (dead r.1 r.2).1 > r.2
      omega
    · have e : deadR r.1 r.2 = ([], 4) := by rw [deadR, if_pos h, if_neg ok]
      rw [e]
      exact ev_neg (by decide) (Level_j5 hb)
  · have e : deadR r.1 r.2 = ([], 2) := by rw [deadR, if_neg h]
    rw [e]
    exact ev_neg (by decide) (Level_j5 hb)
theorem Level_ones {b sh y g : List Int} {c x14 x15 x16 x17 : Int} (hl : sh.length ≤ 8) {R : Bool} (h : Ev (fun k => laws_FnLevel.l0 k b sh y c g x14 x15 x16 x17 (sh.length : Int) (sh.length : Int) (List.replicate sh.length 1)) R) :
    ∀ d n : Nat, n + d = sh.length → Ev (fun k => laws_FnLevel.l0 k b sh y c g x14 x15 x16 x17 (sh.length : Int) (n : Int) (List.replicate n 1)) R := by
  intro d
  induction d with
  | zero =>
    intro n hn
    obtain rfl : n = sh.length := by omega
    exact h
  | succ d ih =>
    intro n hn
    refine Ev.step (fun k => by rw [laws_FnLevel.l0]) ?_
    refine ev_pos (by omega) (ev_pos (by rw [List.length_replicate]; omega) ?_)
    rw [wrap_succ (n := n) (by omega), ← List.replicate_succ']
    exact ih (n + 1) (by omega)
theorem Level_j2 {b sh : List Int} (hb : Bytes b) (hs : isShares sh = true) {c : Int} (hc : 0 ≤ c) (h1 : leastGo (dead sh) 3600 0 = ((dead sh c).1, c, 0)) : Ev (fun k => laws_FnLevel.j2 k b sh c false) true := by
  have ht := isShares_pos hs
  have h8 := ((isShares_iff sh).1 hs).1
  refine Ev.step (fun k => by rw [laws_FnLevel.j2]) ?_
  refine ev_neg (by simp) ?_
  by_cases c0 : c > 0
  · have hm := leastGo_min h1
    have hc60 : c ≤ 60 := by
      refine Classical.byContradiction fun hno => ?_
      exact hm 60 (by omega) (by omega) (dead_all sh hs 60 (by omega))
    refine ev_pos c0 ?_
    rw [wrap_id (x := c - 1) (by omega) (by omega)]
    have e : deadR sh (c - 1) = ([], 4) := by rw [deadR, if_pos ⟨hs, by omega⟩, if_neg (hm (c - 1) (by omega) (by omega))]
    have hd := impl_DeadlineTurns_ev sh (c - 1) (by omega)
    rw [e] at hd
    exact ev_bind hd (ev_pos rfl (Level_j3 hb))
  · exact ev_neg c0 (Level_j3 hb)
theorem Level_j0 {b sh : List Int} (hb : Bytes b) (hl : sh.length ≤ 1000) : Ev (fun k => laws_FnLevel.j0 k b sh (leastR sh).1 (leastR sh).2.1 (leastR sh).2.2 (greedyR sh).1 ((leastR sh).2.2 != (greedyR sh).2)) true := by
  by_cases hs : isShares sh = true
  · obtain ⟨c, h1, h2, h3⟩ := leastGo_from (dead sh) 3600 0
    have e1 : leastR sh = ((dead sh c).1, c, 0) := by rw [leastR, if_pos hs, h1]
    have e2 : greedyR sh = (greedy sh, 0) := by rw [greedyR, if_pos hs]
    have ok := leastGo_ok hs h1
    have hm := leastGo_min h1
    obtain ⟨F, hdif⟩ := dead_is_fair sh hs c h2 ok
    have G := greedy_is_fair sh hs
    have ht := isShares_pos hs
    have h8 := ((isShares_iff sh).1 hs).1
    have hgF := fair_great hs F
    have hgG := fair_great hs G
    have hlF := F.len
    have hlG := G.len
    have hc60 : c ≤ 60 := by
      refine Classical.byContradiction fun hno => ?_
      exact hm 60 (by omega) (by omega) (dead_all sh hs 60 (by omega))
    obtain ⟨f1, f2, f3⟩ := foldD_mx (dead sh c).1 (by omega)
    obtain ⟨g1, g2, g3⟩ := foldD_mx (greedy sh) (by omega)
    have hx1 : foldD mxD (dead sh c).1 ≤ c := f3 c h2 (fun k hk j hj => hdif j (by omega) k hk)
    have hx2 : c ≤ foldD mxD (dead sh c).1 := by
      refine Classical.byContradiction fun hno => ?_
      exact hm _ f1 (by omega) (dead_fair sh hs _ ⟨f1, by omega⟩ _ F (fun i hi m hm' => f2 m hm' i (by omega)))
    have hx3 : c ≤ foldD mxD (greedy sh) := by
      refine Classical.byContradiction fun hno => ?_
      exact hm _ g1 (by omega) (dead_fair sh hs _ ⟨g1, by omega⟩ _ G (fun i hi m hm' => g2 m hm' i (by omega)))
    rw [e1, e2, bne_self_eq_false]
    refine Ev.step (fun k => by rw [laws_FnLevel.j0]) ?_
    refine ev_neg (by simp) (ev_pos rfl (ev_bind (great_diff hs F) (ev_bind (great_diff hs G) ?_)))
    refine Level_ones (by omega) ?_ sh.length 0 (by omega)
    refine Ev.step (fun k => by rw [laws_FnLevel.l0]) ?_
    refine ev_neg (by omega) (ev_bind (fair_SharesOf hs F) (ev_bind (fair_SharesOf hs G) ?_))
    refine ev_pos rfl (ev_pos rfl (ev_pos rfl (ev_pos rfl (ev_pos (show foldD mxD (dead sh c).1 = c by omega) (ev_neg (show ¬ foldD mxD (dead sh c).1 > foldD mxD (greedy sh) by omega) ?_)))))
    refine ev_bind (likeInts_ev sh (by omega)) (ev_pos rfl (ev_bind (likeInts_ev sh (by omega)) (ev_pos rfl (ev_pos rfl ?_))))
    exact Level_j2 hb hs h2 h1
  · have e1 : leastR sh = ([], 0, 2) := by rw [leastR, if_neg hs]
    have e2 : greedyR sh = ([], 2) := by rw [greedyR, if_neg hs]
    rw [e1, e2, bne_self_eq_false]
    refine Ev.step (fun k => by rw [laws_FnLevel.j0]) ?_
    exact ev_neg (by simp) (ev_neg (by decide) (Level_j3 hb))
theorem FnLevel : laws_FnLevel.Pure := by
  intro b _ _ hw
  have hb0 : ∀ x ∈ b, 0 ≤ x ∧ x ≤ 255 := fun x hx => by
    have h := hw x hx
    rw [Lit.wf, Bool.and_eq_true] at h
    exact ⟨of_decide_eq_true h.1, of_decide_eq_true h.2⟩
  refine ev_rounds (g := fun k => laws_FnLevel.f k b) ?_
  unfold laws_FnLevel.f
  refine ev_fix (a := decide ((b.length : Int) > 4096)) rfl ?_
  by_cases c : (b.length : Int) > 4096
  · exact ev_pos (decide_eq_true c) (ev_now _)
  have hb : Bytes b := ⟨hb0, by omega⟩
  refine ev_neg (by rw [decide_eq_false c]; simp) (evp_true ?_)
  refine evp_bind (DrawLeastDifference_evp hb) fun sh hsh => evp_of ?_ rfl
  have r1 := leastR_length sh
  have r2 := greedyR_length sh
  refine ev_bind (impl_Least_ev sh (by omega)) (ev_bind (spec_Least_ev sh (by omega)) (ev_bind (impl_Greedy_ev sh (by omega)) (ev_bind (spec_Greedy_ev sh (by omega)) (ev_pos rfl ?_))))
  refine ev_bind (likeInts_ev _ (by omega)) (ev_pos rfl (ev_pos rfl (ev_pos rfl (ev_bind (likeInts_ev _ (by omega)) (ev_pos rfl ?_)))))
  exact Level_j0 hb hsh
end Go.Proofs.Ytpmconnonleokaa.Pure
end
section
namespace Go.Proofs.Ytpmconnonleokaa.fnLevel
open Go.ChangeShapes Go.WideShapes Go.ChangeAt Go.RowKit
open Go.ChangeMaps (open_string shut_string)
set_option linter.unusedVariables false
theorem own : ownKnob Try.prog.godebug = none := by kernel_rfl
theorem laidOut : laidOutB Try.prog = true := by kernel_rfl
def IsRow (k : IntKind) (w : World) (a : Option Addr) (len cap : Nat) (zs : List Int) : Prop :=
  (a = none ∧ len = 0 ∧ cap = 0 ∧ zs = []) ∨
  ∃ x, a = some x ∧ len ≤ cap ∧ cap ≤ maxLen ∧ zs.length = cap ∧ (∀ i, i < zs.length → w.cell? (x.add i) = some (.int k (zs.getD i 0))) ∧ ∀ n ∈ zs, (Lit.int k n).wf = true
set_option maxRecDepth 100000 in
theorem lifted (os : Os) (started : os.Started) (H : Type) (enc : TypeId × Value → H) :
    ReturnsInHanded {} Try.checked os 3 .any (Rows.fnLevelSpec.pre6 enc Try.prog Try.f3 Rows.fnLevelRow.domain false) (Rows.fnLevelSpec.post enc Try.prog Try.f3 false true false false) := by
  refine returnsInHanded_of_change_sized (C := Try.checked) own started (by kernel_rfl) Try.func3
    (ChangeSpec.witness6 (enc := enc) (C := Try.checked) false ⟨#[], #[.slice none 0 0], []⟩ 8 (by kernel_rfl) (by kernel_rfl) (by kernel_rfl) (by kernel_rfl)) ?_
  intro W base args ds gs before hval0 hW hcnd hsz0 _
  have hsz : (DataW.weightsEach Try.prog (Try.f3.params.toList ++ Rows.fnLevelSpec.plain.varTypes Try.prog) (ds ++ gs)).all (· ≤ reachBytes) = true := hsz0
  have hval : ∀ (j : Nat) t v, Try.f3.params[j]? = some t → args[j]? = some v → Value.okWide Try.prog W .any base t v := hval0
  have hW' := hW
  obtain ⟨p, q, hA0, hV, rfl, hfz, hnd⟩ := hW
  have hA : DataW.TrodAll enc Try.prog W 0 (fun _ => true) true Try.f3.params.toList args.toList ds p := hA0
  rw [Try.params3] at hA hval hsz
  obtain ⟨v0, vs0, d0, ds0, p0, q0, hargs, rfl, rfl, h0, r0⟩ := trodAll_cons hA
  obtain ⟨rfl, rfl, rfl⟩ := trodAll_nil r0
  obtain rfl : args = #[v0] := by cases args; simp_all
  obtain ⟨rfl, rfl⟩ := trodVars_none hV
  obtain ⟨a0, len0, cap0, rfl⟩ := okWide_slice Try.underlying22 (hval 0 22 v0 rfl rfl)
  have k0 := h0
  have lt0 : ∀ x ∈ p0, x.block < W.heap.size := by obtain ⟨m, hm⟩ := k0; exact DataW.trod_lt m _ _ _ hm
  obtain ⟨z0, w0⟩ : ∃ zs, IsRow .u8 W a0 len0 cap0 zs := by
    obtain ⟨fuel, hf⟩ := h0
    rcases open_ints Try.underlying22 Try.underlying5 (by kernel_rfl) hf with ⟨hcs, _⟩ | ⟨x, l, c, zs, hcs, _, hl, hm, hz, _, hcell, hwz⟩
    · simp [Value.cells] at hcs
      obtain ⟨rfl, rfl, rfl⟩ := hcs
      exact ⟨[], .inl ⟨rfl, rfl, rfl, rfl⟩⟩
    · simp [Value.cells] at hcs
      obtain ⟨rfl, rfl, rfl⟩ := hcs
      exact ⟨zs, .inr ⟨_, rfl, hl, hm, by simpa using hz, hcell, hwz⟩⟩
  have y0 : len0 * 1 ≤ 140737488351232 := Go.Proofs.YtpmconnonleokaaW.PrintWords.sized_ints hsz (j := 0) (t := 22) rfl rfl Try.underlying22 Try.underlying5 (by kernel_rfl) (by kernel_rfl) h0
  clear hA0 hval0 hsz0 hsz
  refine (P.laws_FnLevel.walk Pure.FnLevel a0 len0 cap0 z0 W w0 y0).mono fun e W' ⟨he, bel⟩ => ?_
  subst he
  exact ⟨_, rfl, _, _, _, [], _, [], hW', trodAll_mk1 (shut_bool Try.underlying4 _), (trodAll_cons_mk (Below.trod laidOut (by kernel_rfl) (of_decide_eq_true (by kernel_rfl)) k0 bel lt0) trodAll_mk0), rfl, bel.frame _, fun h => by cases h⟩
theorem over : Rows.fnLevelRow.holds Try.pinned (OpenSpec.ofChange Rows.fnLevelSpec) :=
  OpenClaim.holds_of_wide 3 Try.f3 rfl rfl rfl rfl rfl rfl rfl ⟨rfl, rfl, rfl, rfl, rfl⟩ rfl rfl rfl rfl rfl (by kernel_rfl) Try.func3 (by kernel_rfl)
    (of_decide_eq_true (by kernel_rfl)) (by unfold Func.isWrapper; first | (rw [if_pos (by decide +kernel)]; kernel_rfl) | (rw [if_neg (by decide +kernel)]; exact ⟨rfl, rfl⟩))
    (fun os started H enc _ => lifted os started H enc)
theorem proved : Rows.FnLevelSaid := over
end Go.Proofs.Ytpmconnonleokaa.fnLevel
namespace Go.Proofs.Ytpmconnonleokaa
/-- The row, under a short name, for the claim. -/
theorem fnLevel_holds : Rows.FnLevelSaid := fnLevel.proved
end Go.Proofs.Ytpmconnonleokaa
end
