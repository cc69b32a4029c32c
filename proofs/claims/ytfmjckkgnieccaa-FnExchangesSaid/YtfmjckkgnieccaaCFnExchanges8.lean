/- Exchanges go back, best exchanges give less squares, smooth turns have no more squares and no better exchange, and spreads are told by waits. -/
import Derived.Test.YtfmjckkgnieccaaCFnExchanges7
import Derived.Test.YtfmjckkgnieccaaRows
section
namespace Go.Proofs.Ytfmjckkgnieccaa.Pure
open Go.RowKit Go.Proofs.Ytfmjckkgnieccaa.P Go.Proofs.YtfmjckkgnieccaaW.PrintWords Go.Proofs.YtfmjckkgnieccaaW.PrintLast Go.Proofs.YtfmjckkgnieccaaW.PrintMore
set_option linter.unusedVariables false
set_option linter.unusedSimpArgs false
theorem levelCode_ev (l : List Int) (hl : l.length ≤ 1048576) : Ev (fun k => impl_levelCode.f k l) (levelR l) := by
  unfold impl_levelCode.f levelR
  refine ev_fix (areTurns_f l 8) ?_
  cases ht : isTurns l 8 with
  | false => exact ev_neg (by simp) (ev_is (by simp))
  | true =>
    rw [if_pos rfl]
    have hlen := isTurns_len ht
    refine ev_pos rfl (ev_bind (Contains_ev l (-1) (by omega)) ?_)
    cases hc : l.contains (-1) with
    | true => exact ev_pos rfl (ev_is (by simp))
    | false =>
      show Ev _ (if (sharesL l).contains 0 = true then 5 else if (l.length : Int) > 60 then 5 else 0)
      have hm : ∀ x ∈ l, 0 ≤ x ∧ x ≤ 7 := fun x hx => by
        have := isTurns8_mem ht hx
        have : x ≠ -1 := fun e => contains_false hc (e ▸ hx)
        omega
      have hg := great_le (l := l) (b := 7) (by omega) fun x hx => (hm x hx).2
      refine ev_neg (by simp) (ev_bind (sharesOf_ev l hl hlen.1 hm) (ev_bind (Contains_ev (sharesL l) 0 (by rw [sharesL, tab_length]; omega)) ?_))
      cases hz : (sharesL l).contains 0 with
      | true => exact ev_pos rfl (ev_now _)
      | false =>
        show Ev _ (if (l.length : Int) > 60 then 5 else 0)
        refine ev_neg (by simp) ?_
        by_cases h60 : (l.length : Int) > 60
        · exact ev_pos h60 (ev_is (by rw [if_pos h60]))
        · exact ev_neg h60 (ev_is (by rw [if_neg h60]))
end Go.Proofs.Ytfmjckkgnieccaa.Pure
end
section
namespace Go.Proofs.Ytfmjckkgnieccaa.Pure
open Go.RowKit Go.Proofs.Ytfmjckkgnieccaa.P Go.Proofs.YtfmjckkgnieccaaW.PrintWords Go.Proofs.YtfmjckkgnieccaaW.PrintLast Go.Proofs.YtfmjckkgnieccaaW.PrintMore
set_option linter.unusedVariables false
set_option linter.unusedSimpArgs false
structure SameT (l l' : List Int) : Prop where
  len : l'.length = l.length
  cnt : ∀ x, cnt x l' = cnt x l
theorem cnt_mem (x : Int) (l : List Int) : 1 ≤ cnt x l ↔ x ∈ l := by
  induction l with
  | nil => simp [cnt]
  | cons y l ih =>
    have hb := cnt_bounds x l
    rw [List.mem_cons]
    by_cases e : y = x
    · have e2 : cnt x (y :: l) = 1 + cnt x l := by simp only [cnt]; rw [if_pos e]
      constructor
      · intro _; exact .inl e.symm
      · intro _; omega
    · have e2 : cnt x (y :: l) = cnt x l := by simp only [cnt]; rw [if_neg e, Int.zero_add]
      rw [e2, ih]
      constructor
      · exact .inr
      · intro h
        rcases h with h | h
        · exact absurd h.symm e
        · exact h
theorem cnt_set (x v : Int) : ∀ (l : List Int) (n : Nat) (h : n < l.length), cnt x (l.set n v) = cnt x l - (if l[n] = x then 1 else 0) + (if v = x then 1 else 0) := by
  intro l
  induction l with
  | nil => intro n h; simp at h
  | cons y l ih =>
    intro n h
    cases n with
    | zero =>
      simp only [List.set_cons_zero, cnt, List.getElem_cons_zero]
      omega
    | succ n =>
      simp only [List.set_cons_succ, cnt, List.getElem_cons_succ]
      rw [ih n (by simpa using h)]
      omega
theorem SameT.refl (l : List Int) : SameT l l := ⟨rfl, fun _ => rfl⟩
theorem SameT.trans {l l' l'' : List Int} (h : SameT l l') (h' : SameT l' l'') : SameT l l'' := ⟨h'.len.trans h.len, fun x => (h'.cnt x).trans (h.cnt x)⟩
theorem SameT.mem {l l' : List Int} (h : SameT l l') (x : Int) : x ∈ l' ↔ x ∈ l := by
  rw [← cnt_mem, ← cnt_mem, h.cnt]
theorem SameT.grt {l l' : List Int} (h : SameT l l') : great l' = great l := by
  have h1 := great_le (l := l') (great_nonneg l) fun x hx => great_pos ((h.mem x).1 hx)
  have h2 := great_le (l := l) (great_nonneg l') fun x hx => great_pos ((h.mem x).2 hx)
  omega
theorem SameT.shares {l l' : List Int} (h : SameT l l') : sharesL l' = sharesL l := by
  unfold sharesL
  rw [h.grt]
  exact tab_congr fun i _ => h.cnt i
theorem SameT.trn {l l' : List Int} (h : SameT l l') (k : Int) (ht : isTurns l k = true) : isTurns l' k = true := by
  have h1 := isTurns_len ht
  unfold isTurns
  rw [Bool.and_eq_true, List.all_eq_true]
  refine ⟨decide_eq_true (by have := h.len; omega), fun x hx => decide_eq_true (isTurns_mem ht ((h.mem x).1 hx))⟩
theorem SameT.level {l l' : List Int} (h : SameT l l') (L : Level l) : Level l' :=
  ⟨h.trn 8 L.turns, by rw [h.len]; exact L.len, fun x hx => L.mem x ((h.mem x).1 hx), by rw [h.grt]; exact L.top, fun i hi => by rw [h.cnt]; exact L.pos i (by rw [h.grt] at hi; exact hi)⟩
theorem exch_same (l : List Int) (n m : Nat) (hn : n < l.length) (hm : m < l.length) : SameT l (exch l n m) := by
  refine ⟨exch_length l n m, fun x => ?_⟩
  unfold exch
  rw [Int.toNat_natCast, Int.toNat_natCast, rd_nat hn, rd_nat hm, cnt_set x _ _ m (by rw [List.length_set]; exact hm), cnt_set x _ _ n hn, List.getElem_set]
  by_cases e : n = m
  · subst e
    rw [if_pos rfl]
    omega
  · rw [if_neg e]
    omega
theorem exch_eq (l : List Int) (n m : Nat) (hn : n < l.length) (hm : m < l.length) (e : l[n] = l[m]) : exch l n m = l := by
  unfold exch
  rw [Int.toNat_natCast, Int.toNat_natCast, rd_nat hn, rd_nat hm]
  refine List.ext_getElem (by simp) fun i h1 h2 => ?_
  rw [List.getElem_set, List.getElem_set]
  by_cases e1 : m = i
  · subst e1; rw [if_pos rfl, e]
  · rw [if_neg e1]
    by_cases e2 : n = i
    · subst e2; rw [if_pos rfl, e]
    · rw [if_neg e2]
end Go.Proofs.Ytfmjckkgnieccaa.Pure
end
section
namespace Go.Proofs.Ytfmjckkgnieccaa.Pure
open Go.RowKit Go.Proofs.Ytfmjckkgnieccaa.P Go.Proofs.YtfmjckkgnieccaaW.PrintWords Go.Proofs.YtfmjckkgnieccaaW.PrintLast Go.Proofs.YtfmjckkgnieccaaW.PrintMore
set_option linter.unusedVariables false
set_option linter.unusedSimpArgs false
def dif (l : List Int) (n i : Nat) : Int := (l.length : Int) * cnt (i : Int) (l.take n) - (n : Int) * cnt (i : Int) l
theorem prod60 {x y : Int} (hx : 0 ≤ x ∧ x ≤ 60) (hy : 0 ≤ y ∧ y ≤ 60) : 0 ≤ x * y ∧ x * y ≤ 3600 :=
  ⟨Int.mul_nonneg hx.1 hy.1, by have := Int.mul_le_mul hx.2 hy.2 hy.1 (by omega); omega⟩
theorem dif_parts (l : List Int) (hl : l.length ≤ 60) (n i : Nat) (hn : n ≤ l.length) : (0 ≤ (l.length : Int) * cnt (i : Int) (l.take n) ∧ (l.length : Int) * cnt (i : Int) (l.take n) ≤ 3600) ∧ (0 ≤ (n : Int) * cnt (i : Int) l ∧ (n : Int) * cnt (i : Int) l ≤ 3600) := by
  have h1 := cnt_bounds (i : Int) (l.take n)
  rw [List.length_take] at h1
  have h2 := cnt_bounds (i : Int) l
  exact ⟨prod60 (by omega) (by omega), prod60 (by omega) (by omega)⟩
theorem dif_bounds (l : List Int) (hl : l.length ≤ 60) (n i : Nat) (hn : n ≤ l.length) : -3600 ≤ dif l n i ∧ dif l n i ≤ 3600 := by
  have := dif_parts l hl n i hn
  unfold dif
  omega
theorem dif_zero (l : List Int) (i : Nat) : dif l 0 i = 0 := by simp [dif, cnt]
theorem dif_succ (l : List Int) (n i : Nat) (hn : n < l.length) : dif l (n + 1) i = dif l n i - cnt (i : Int) l + (if l[n] = (i : Int) then (l.length : Int) else 0) := by
  unfold dif
  rw [cnt_take_succ _ l n hn, Int.natCast_add, Int.add_mul, Int.mul_add]
  split
  · simp only [Int.mul_one, Int.natCast_one, Int.one_mul]; omega
  · simp only [Int.mul_zero, Int.natCast_one, Int.one_mul]; omega
def rowD (l : List Int) (m n : Nat) : List Int := tab (fun i => dif l n i) m
def rowsD (l : List Int) (m n : Nat) : List (List Int) := (List.range' 0 n).map (rowD l m)
theorem rowsD_length (l : List Int) (m n : Nat) : (rowsD l m n).length = n := by simp [rowsD]
theorem rowsD_succ (l : List Int) (m n : Nat) : rowsD l m (n + 1) = rowsD l m n ++ [rowD l m n] := by simp [rowsD, List.range'_1_concat]
theorem rowsD_rd (l : List Int) (m M n : Nat) (h : n < M) : rd_L2 (rowsD l m M) (n : Int) = rowD l m n := by
  simp [rd_L2, rowsD, h]
theorem rowD_length (l : List Int) (m n : Nat) : (rowD l m n).length = m := tab_length _ _
theorem Own_f (l : List Int) (h : l.length ≤ 1048576) : spec_l01Own.f l = some l := by
  show (if ([] : List Int).length + l.length < 17592186044416 then some (([] : List Int) ++ l) else none) = some l
  rw [if_pos (by rw [List.length_nil]; omega), List.nil_append]
theorem Dif_l1 (l : List Int) (L : Level l) (n : Nat) (hn : n < l.length) (R : List (List Int))
    (hR : Ev (fun k => spec_l07Differences.l0 k l (sharesL l) (l.length : Int) (rowsD l (great l + 1).toNat (n + 2)) ((n + 1 : Nat) : Int)) R) : ∀ d j : Nat, j + d = (great l + 1).toNat →
    Ev (fun k => spec_l07Differences.l1 k l (sharesL l) (l.length : Int) (rowsD l (great l + 1).toNat (n + 1)) (n : Int) (tab (fun i => if i < j then dif l n i - cnt (i : Int) l else dif l n i) (great l + 1).toNat) (((great l + 1).toNat : Nat) : Int) (j : Int)) R := by
  have ht := L.top
  have hl := L.len
  intro d
  induction d with
  | zero =>
    intro j hj
    have hx := L.mem _ (List.getElem_mem hn)
    have hg := great_pos (List.getElem_mem hn)
    obtain ⟨b, hb⟩ : ∃ b : Nat, l[n] = b := ⟨l[n].toNat, by omega⟩
    have hd := dif_bounds l hl.2 n b (by omega)
    have hc := cnt_bounds (b : Int) l
    refine Ev.step (fun k => by rw [spec_l07Differences.l1]) (ev_neg (by omega) (ev_pos (by omega) (ev_pos (by omega) ?_)))
    rw [rd_nat hn]
    refine ev_pos (by omega) (ev_pos (by rw [tab_length]; omega) (ev_pos (by rw [rowsD_length]; omega) ?_))
    rw [hb, rd_tab (by omega), Int.toNat_natCast, if_pos (by omega), wrap_id (x := dif l n b - cnt (b : Int) l + _) (by omega) (by omega), wrap_succ (by omega), tab_set]
    rw [tab_congr (g := fun i => dif l (n + 1) i) (fun i hi => by
      rw [dif_succ l n i hn, hb]
      by_cases e : i = b
      · subst e; rw [if_pos rfl, if_pos rfl]
      · rw [if_neg e, if_pos (by omega), if_neg (by omega), Int.add_zero])]
    have e := rowsD_succ l (great l + 1).toNat (n + 1)
    rw [e] at hR
    exact hR
  | succ d ih =>
    intro j hj
    have hd := dif_bounds l hl.2 n j (by omega)
    have hc := cnt_bounds (j : Int) l
    refine Ev.step (fun k => by rw [spec_l07Differences.l1]) (ev_pos (by omega) (ev_pos (by omega) (ev_pos (by rw [tab_length]; omega) (ev_pos (by rw [sharesL, tab_length]; omega) ?_))))
    rw [rd_tab (by omega), show rd (sharesL l) (j : Int) = cnt (j : Int) l from rd_tab (by omega), if_neg (by omega), Int.toNat_natCast, wrap_id (x := dif l n j - _) (by omega) (by omega), wrap_succ (by omega), tab_set]
    have ih := ih (j + 1) (by omega)
    rw [tab_congr (g := fun i => if i < j + 1 then dif l n i - cnt (i : Int) l else dif l n i) (fun i hi => by
      by_cases e : i = j
      · subst e; rw [if_pos rfl, if_pos (by omega)]
      · by_cases c : i < j
        · rw [if_neg e, if_pos c, if_pos (by omega)]
        · rw [if_neg e, if_neg c, if_neg (by omega)])]
    exact ih
theorem Dif_l0 (l : List Int) (L : Level l) : ∀ d n : Nat, n + d = l.length →
    Ev (fun k => spec_l07Differences.l0 k l (sharesL l) (l.length : Int) (rowsD l (great l + 1).toNat (n + 1)) (n : Int)) (rowsD l (great l + 1).toNat (l.length + 1)) := by
  have ht := L.top
  have hl := L.len
  intro d
  induction d with
  | zero =>
    intro n hn
    obtain rfl : n = l.length := by omega
    exact Ev.step (fun k => by rw [spec_l07Differences.l0]) (ev_neg (by omega) (ev_now _))
  | succ d ih =>
    intro n hn
    refine Ev.step (fun k => by rw [spec_l07Differences.l0]) (ev_pos (by omega) (ev_pos (by omega) (ev_pos (by rw [rowsD_length]; omega) ?_)))
    rw [rowsD_rd _ _ _ _ (by omega)]
    refine ev_fix (Own_f _ (by rw [rowD_length]; omega)) ?_
    have h := Dif_l1 l L n (by omega) _ (ih (n + 1) (by omega)) (great l + 1).toNat 0 (by omega)
    rw [rowD_length]
    rw [tab_congr (g := fun i => dif l n i) (fun i hi => by rw [if_neg (by omega)])] at h
    exact h
theorem l07Differences_ev (l : List Int) (L : Level l) : Ev (fun k => spec_l07Differences.f k l (sharesL l)) (rowsD l (great l + 1).toNat (l.length + 1)) := by
  have ht := L.top
  have hs : (sharesL l).length = (great l + 1).toNat := tab_length _ _
  unfold spec_l07Differences.f
  refine ev_pos (by omega) (ev_pos (by omega) ?_)
  have h := Dif_l0 l L l.length 0 (by omega)
  rw [show ((sharesL l).length : Int).toNat = (great l + 1).toNat by omega]
  rw [show rowsD l (great l + 1).toNat (0 + 1) = [List.replicate (great l + 1).toNat 0] by
    rw [rowsD_succ]
    simp only [rowsD, List.range'_zero, List.map_nil, List.nil_append, rowD]
    rw [← tab_zero, tab_congr (g := fun _ => 0) (fun i _ => dif_zero l i)]] at h
  exact h
end Go.Proofs.Ytfmjckkgnieccaa.Pure
end
section
namespace Go.Proofs.Ytfmjckkgnieccaa.Pure
open Go.RowKit Go.Proofs.Ytfmjckkgnieccaa.P Go.Proofs.YtfmjckkgnieccaaW.PrintWords Go.Proofs.YtfmjckkgnieccaaW.PrintLast Go.Proofs.YtfmjckkgnieccaaW.PrintMore
set_option linter.unusedVariables false
set_option linter.unusedSimpArgs false
def foldI (st : Int → Int → Int) (l : List Int) (n : Nat) : Nat → Nat → Int → Int
  | 0, _, a => a
  | d + 1, i, a => foldI st l n d (i + 1) (st a (dif l n i))
def foldN (st : Int → Int → Int) (l : List Int) (m : Nat) : Nat → Nat → Int → Int
  | 0, _, a => a
  | d + 1, n, a => foldN st l m d (n + 1) (foldI st l n m 0 a)
def foldD (st : Int → Int → Int) (l : List Int) : Int := foldN st l (great l + 1).toNat (l.length + 1) 0 0
theorem difs_l1 (st : Int → Int → Int) (l : List Int) (L : Level l) (n : Nat) (hn : n ≤ l.length) (R : Int) : ∀ d i : Nat, i + d = (great l + 1).toNat → ∀ a : Int,
    Ev (fun k => difs.l0 st k l (sharesL l) (tab (fun i => cnt (i : Int) (l.take (n + 1))) (great l + 1).toNat) (l.length : Int) ((n + 1 : Nat) : Int) (foldI st l n d i a)) R →
    Ev (fun k => difs.l1 st k l (sharesL l) (tab (fun i => cnt (i : Int) (l.take n)) (great l + 1).toNat) (l.length : Int) (n : Int) (i : Int) a) R := by
  have ht := L.top
  have hl := L.len
  have hs : (sharesL l).length = (great l + 1).toNat := tab_length _ _
  intro d
  induction d with
  | zero =>
    intro i hi a hR
    refine Ev.step (fun k => by rw [difs.l1]) (ev_neg (by omega) ?_)
    rw [wrap_succ (n := n) (by omega)]
    by_cases c : n < l.length
    · have hx := L.mem _ (List.getElem_mem c)
      have hg := great_pos (List.getElem_mem c)
      obtain ⟨b, hb⟩ : ∃ b : Nat, l[n] = b := ⟨l[n].toNat, by omega⟩
      have hcb := cnt_bounds (b : Int) (l.take n)
      rw [List.length_take] at hcb
      refine ev_pos (by omega) (ev_pos (by omega) (ev_pos (by omega) ?_))
      rw [rd_nat c]
      refine ev_pos (by omega) (ev_pos (by rw [tab_length]; omega) ?_)
      rw [hb, rd_tab (by omega), Int.toNat_natCast, wrap_id (x := cnt (b : Int) (l.take n) + 1) (by omega) (by omega), tab_set]
      rw [tab_congr (g := fun i => if i = b then cnt (b : Int) (l.take n) + 1 else cnt (i : Int) (l.take n)) (fun i hi => by
        rw [cnt_take_succ _ l n c, hb]
        by_cases e : i = b
        · subst e; rw [if_pos rfl, if_pos rfl]
        · rw [if_neg (by omega), if_neg e, Int.add_zero])] at hR
      exact hR
    · refine ev_neg (by omega) ?_
      rw [List.take_of_length_le (by omega)] at hR ⊢
      exact hR
  | succ d ih =>
    intro i hi a hR
    have hp := dif_parts l hl.2 n i hn
    have hb := dif_bounds l hl.2 n i hn
    refine Ev.step (fun k => by rw [difs.l1]) (ev_pos (by omega) (ev_pos (by omega) (ev_pos (by rw [tab_length]; omega) ?_)))
    rw [rd_tab (by omega), show rd (sharesL l) (i : Int) = cnt (i : Int) l from rd_tab (by omega), wrap_id (x := (l.length : Int) * _) (by omega) (by omega), wrap_id (x := (n : Int) * _) (by omega) (by omega), wrap_succ (by omega)]
    rw [show wrap64 ((l.length : Int) * cnt (i : Int) (l.take n) - (n : Int) * cnt (i : Int) l) = dif l n i from wrap_id (by unfold dif at hb; omega) (by unfold dif at hb; omega)]
    exact ih (i + 1) (by omega) _ hR
theorem difs_l0 (st : Int → Int → Int) (l : List Int) (L : Level l) : ∀ d n : Nat, n + d = l.length + 1 → ∀ a : Int,
    Ev (fun k => difs.l0 st k l (sharesL l) (tab (fun i => cnt (i : Int) (l.take n)) (great l + 1).toNat) (l.length : Int) (n : Int) a) (foldN st l (great l + 1).toNat d n a) := by
  have ht := L.top
  have hl := L.len
  intro d
  induction d with
  | zero =>
    intro n hn a
    refine Ev.step (fun k => by rw [difs.l0]) ?_
    rw [wrap_succ (n := l.length) (by omega)]
    exact ev_neg (by omega) (ev_now _)
  | succ d ih =>
    intro n hn a
    refine Ev.step (fun k => by rw [difs.l0]) ?_
    rw [wrap_succ (n := l.length) (by omega)]
    exact ev_pos (by omega) (difs_l1 st l L n (by omega) _ (great l + 1).toNat 0 (by omega) a (ih (n + 1) (by omega) _))
theorem difs_ev (st : Int → Int → Int) (l : List Int) (L : Level l) : Ev (fun k => difs.f st k l (sharesL l) 0) (foldD st l) := by
  have ht := L.top
  have hs : (sharesL l).length = (great l + 1).toNat := tab_length _ _
  unfold difs.f
  refine ev_pos (by omega) ?_
  have h := difs_l0 st l L (l.length + 1) 0 (by omega) 0
  rw [show tab (fun i => cnt (i : Int) (l.take 0)) (great l + 1).toNat = List.replicate (sharesL l).length 0 by
    rw [hs, ← tab_zero]; exact tab_congr fun i _ => by simp [cnt]] at h
  exact h
theorem squares_ev (l : List Int) (L : Level l) : Ev (fun k => impl_squares.f k l) (foldD sqD l) := by
  unfold impl_squares.f
  exact ev_bind (sharesOf_ev l (by have := L.len; omega) L.len.1 L.mem) (difs_ev sqD l L)
theorem l07Squares_l1 (l : List Int) (L : Level l) (n : Nat) (hn : n ≤ l.length) (R : Int) : ∀ d i : Nat, i + d = (great l + 1).toNat → ∀ a : Int,
    Ev (fun k => spec_l07Squares.l0 k (rowsD l (great l + 1).toNat (l.length + 1)) (foldI sqD l n d i a) ((l.length + 1 : Nat) : Int) ((n + 1 : Nat) : Int)) R →
    Ev (fun k => spec_l07Squares.l1 k (rowsD l (great l + 1).toNat (l.length + 1)) a (n : Int) ((l.length + 1 : Nat) : Int) (n : Int) (((great l + 1).toNat : Nat) : Int) (i : Int)) R := by
  have ht := L.top
  have hl := L.len
  intro d
  induction d with
  | zero =>
    intro i hi a hR
    refine Ev.step (fun k => by rw [spec_l07Squares.l1]) (ev_neg (by omega) ?_)
    rw [wrap_succ (by omega)]
    exact hR
  | succ d ih =>
    intro i hi a hR
    refine Ev.step (fun k => by rw [spec_l07Squares.l1]) (ev_pos (by omega) (ev_pos (by omega) (ev_pos (by rw [rowsD_length]; omega) (ev_pos (by omega) (ev_pos (by rw [rowsD_rd _ _ _ _ (by omega), rowD_length]; omega) ?_)))))
    rw [rowsD_rd _ _ _ _ (by omega), show rd (rowD l (great l + 1).toNat n) (i : Int) = dif l n i from rd_tab (by omega), wrap_succ (by omega)]
    exact ih (i + 1) (by omega) _ hR
theorem l07Squares_l0 (l : List Int) (L : Level l) : ∀ d n : Nat, n + d = l.length + 1 → ∀ a : Int,
    Ev (fun k => spec_l07Squares.l0 k (rowsD l (great l + 1).toNat (l.length + 1)) a ((l.length + 1 : Nat) : Int) (n : Int)) (foldN sqD l (great l + 1).toNat d n a) := by
  have ht := L.top
  have hl := L.len
  intro d
  induction d with
  | zero =>
    intro n hn a
    refine Ev.step (fun k => by rw [spec_l07Squares.l0]) ?_
    exact ev_neg (by omega) (ev_now _)
  | succ d ih =>
    intro n hn a
    refine Ev.step (fun k => by rw [spec_l07Squares.l0]) (ev_pos (by omega) (ev_pos (by omega) (ev_pos (by rw [rowsD_length]; omega) ?_)))
    rw [rowsD_rd _ _ _ _ (by omega), rowD_length]
    exact l07Squares_l1 l L n (by omega) _ (great l + 1).toNat 0 (by omega) a (ih (n + 1) (by omega) _)
theorem l07Squares_ev (l : List Int) (L : Level l) : Ev (fun k => spec_l07Squares.f k l (sharesL l)) (foldD sqD l) := by
  unfold spec_l07Squares.f
  refine ev_bind (l07Differences_ev l L) ?_
  rw [rowsD_length]
  exact l07Squares_l0 l L (l.length + 1) 0 (by omega) 0
end Go.Proofs.Ytfmjckkgnieccaa.Pure
end
section
namespace Go.Proofs.Ytfmjckkgnieccaa.Pure
open Go.RowKit Go.Proofs.Ytfmjckkgnieccaa.P Go.Proofs.YtfmjckkgnieccaaW.PrintWords Go.Proofs.YtfmjckkgnieccaaW.PrintLast Go.Proofs.YtfmjckkgnieccaaW.PrintMore
set_option linter.unusedVariables false
set_option linter.unusedSimpArgs false
def stepB (l : List Int) (n m : Nat) (s : Int × Option (Nat × Nat)) : Int × Option (Nat × Nat) := if foldD sqD (exch l n m) < s.1 then (foldD sqD (exch l n m), some (n, m)) else s
def bestM (l : List Int) (n : Nat) : Nat → Nat → Int × Option (Nat × Nat) → Int × Option (Nat × Nat)
  | 0, _, s => s
  | d + 1, m, s => bestM l n d (m + 1) (stepB l n m s)
def bestN (l : List Int) : Nat → Nat → Int × Option (Nat × Nat) → Int × Option (Nat × Nat)
  | 0, _, s => s
  | d + 1, n, s => bestN l d (n + 1) (bestM l n (l.length - (n + 1)) (n + 1) s)
def best (l : List Int) : Int × Option (Nat × Nat) := bestN l l.length 0 (foldD sqD l, none)
/-- what is kept: the squares found are the least so far -/
def Good (l : List Int) (s : Int × Option (Nat × Nat)) : Prop := match s.2 with
  | none => s.1 = foldD sqD l
  | some p => p.1 < l.length ∧ p.2 < l.length ∧ s.1 = foldD sqD (exch l p.1 p.2) ∧ s.1 < foldD sqD l
theorem Good.le {l : List Int} {s : Int × Option (Nat × Nat)} (h : Good l s) : s.1 ≤ foldD sqD l := by
  obtain ⟨a, o⟩ := s
  cases o with
  | none => exact Int.le_of_eq h
  | some p => exact Int.le_of_lt h.2.2.2
theorem stepB_good {l : List Int} {n m : Nat} (hn : n < l.length) (hm : m < l.length) {s : Int × Option (Nat × Nat)} (h : Good l s) : Good l (stepB l n m s) := by
  unfold stepB
  split
  · next c => exact ⟨hn, hm, rfl, by have := h.le; show foldD sqD (exch l n m) < foldD sqD l; omega⟩
  · exact h
theorem bestM_good {l : List Int} {n : Nat} (hn : n < l.length) : ∀ d m s, m + d ≤ l.length → Good l s → Good l (bestM l n d m s) := by
  intro d
  induction d with
  | zero => intro m s _ h; exact h
  | succ d ih => intro m s hm h; exact ih _ _ (by omega) (stepB_good hn (by omega) h)
theorem bestN_good {l : List Int} : ∀ d n s, n + d ≤ l.length → Good l s → Good l (bestN l d n s) := by
  intro d
  induction d with
  | zero => intro n s _ h; exact h
  | succ d ih => intro n s hn h; exact ih _ _ (by omega) (bestM_good (by omega) _ _ _ (by omega) h)
theorem best_good (l : List Int) : Good l (best l) := bestN_good _ _ _ (by omega) rfl
def oa (o : Option (Nat × Nat)) (z : Int) : Int := match o with | none => z | some p => (p.1 : Int)
def ob (o : Option (Nat × Nat)) (z : Int) : Int := match o with | none => z | some p => (p.2 : Int)
theorem oa_ge (o : Option (Nat × Nat)) : decide (oa o (-1) ≥ 0) = o.isSome := by
  cases o with
  | none => rfl
  | some p => exact decide_eq_true (show (p.1 : Int) ≥ 0 by omega)
theorem impl_best_l1 (l : List Int) (L : Level l) (n : Nat) (hn : n < l.length) (R : Int × Int × Bool) : ∀ d m : Nat, m + d = l.length → ∀ s : Int × Option (Nat × Nat),
    Ev (fun k => impl_bestExchange.l0 k l (bestM l n d m s).1 (oa (bestM l n d m s).2 0) (ob (bestM l n d m s).2 0) (bestM l n d m s).2.isSome (l.length : Int) ((n + 1 : Nat) : Int)) R →
    Ev (fun k => impl_bestExchange.l1 k l s.1 (oa s.2 0) (ob s.2 0) s.2.isSome (n : Int) (m : Int) (l.length : Int) (n : Int)) R := by
  have hl := L.len
  intro d
  induction d with
  | zero =>
    intro m hm s hR
    refine Ev.step (fun k => by rw [impl_bestExchange.l1]) (ev_fix (show impl_length_int64.f l = some (l.length : Int) from rfl) ?_)
    rw [wrap_succ (n := n) (by omega)]
    exact ev_neg (by omega) hR
  | succ d ih =>
    intro m hm s hR
    refine Ev.step (fun k => by rw [impl_bestExchange.l1]) (ev_fix (show impl_length_int64.f l = some (l.length : Int) from rfl) ?_)
    rw [wrap_succ (n := m) (by omega)]
    refine ev_pos (by omega) (ev_fix (exchanged_f l n m (by omega) (by omega) (by omega)) ?_)
    refine ev_bind (squares_ev (exch l n m) ((exch_same l n m hn (by omega)).level L)) ?_
    have ih := ih (m + 1) (by omega) (stepB l n m s) hR
    unfold stepB at ih
    by_cases c : foldD sqD (exch l n m) < s.1
    · rw [if_pos c] at ih
      exact ev_pos c ih
    · rw [if_neg c] at ih
      exact ev_neg c ih
theorem impl_best_l0 (l : List Int) (L : Level l) : ∀ d n : Nat, n + d = l.length → ∀ s : Int × Option (Nat × Nat),
    Ev (fun k => impl_bestExchange.l0 k l s.1 (oa s.2 0) (ob s.2 0) s.2.isSome (l.length : Int) (n : Int)) (oa (bestN l d n s).2 0, ob (bestN l d n s).2 0, (bestN l d n s).2.isSome) := by
  have hl := L.len
  intro d
  induction d with
  | zero =>
    intro n hn s
    refine Ev.step (fun k => by rw [impl_bestExchange.l0]) ?_
    exact ev_neg (by omega) (ev_now _)
  | succ d ih =>
    intro n hn s
    refine Ev.step (fun k => by rw [impl_bestExchange.l0]) ?_
    rw [wrap_succ (by omega)]
    exact ev_pos (by omega) (impl_best_l1 l L n (by omega) _ (l.length - (n + 1)) (n + 1) (by omega) s (ih (n + 1) (by omega) _))
theorem bestExchange_ev (l : List Int) (L : Level l) : Ev (fun k => impl_bestExchange.f k l) (oa (best l).2 0, ob (best l).2 0, (best l).2.isSome) := by
  unfold impl_bestExchange.f
  refine ev_bind (squares_ev l L) (ev_fix (show impl_length_int64.f l = some (l.length : Int) from rfl) ?_)
  exact impl_best_l0 l L l.length 0 (by omega) (foldD sqD l, none)
theorem spec_best_l1 (l : List Int) (L : Level l) (n : Nat) (hn : n < l.length) (R : Int × Int × Bool) : ∀ d m : Nat, m + d = l.length → ∀ s : Int × Option (Nat × Nat), Good l s →
    Ev (fun k => spec_l07Best.l0 k l (sharesL l) (bestM l n d m s).1 (oa (bestM l n d m s).2 (-1)) (ob (bestM l n d m s).2 (-1)) ((n + 1 : Nat) : Int)) R →
    Ev (fun k => spec_l07Best.l1 k l (sharesL l) s.1 (oa s.2 (-1)) (ob s.2 (-1)) (n : Int) (m : Int)) R := by
  have hl := L.len
  intro d
  induction d with
  | zero =>
    intro m hm s _ hR
    refine Ev.step (fun k => by rw [spec_l07Best.l1]) ?_
    rw [wrap_succ (n := n) (by omega)]
    exact ev_neg (by omega) hR
  | succ d ih =>
    intro m hm s hs hR
    refine Ev.step (fun k => by rw [spec_l07Best.l1]) ?_
    rw [wrap_succ (n := m) (by omega), rd_nat hn, rd_nat (n := m) (by omega)]
    refine ev_pos (by omega) (ev_pos (by omega) (ev_pos (by omega) (ev_pos (by omega) ?_)))
    have ih := ih (m + 1) (by omega) (stepB l n m s) (stepB_good hn (by omega) hs) hR
    unfold stepB at ih
    by_cases e : l[n] = l[m]
    · refine ev_pos e ?_
      rw [if_neg (by rw [exch_eq l n m hn (by omega) e]; have := hs.le; omega)] at ih
      exact ih
    · have S := exch_same l n m hn (by omega)
      refine ev_neg e (ev_fix (l07Exchanged_f l n m (by omega) (by omega) (by omega)) ?_)
      have hq := l07Squares_ev (exch l n m) (S.level L)
      rw [S.shares] at hq
      refine ev_bind hq ?_
      by_cases c : foldD sqD (exch l n m) < s.1
      · rw [if_pos c] at ih
        exact ev_pos c ih
      · rw [if_neg c] at ih
        exact ev_neg c ih
theorem spec_best_l0 (l : List Int) (L : Level l) : ∀ d n : Nat, n + d = l.length → ∀ s : Int × Option (Nat × Nat), Good l s →
    Ev (fun k => spec_l07Best.l0 k l (sharesL l) s.1 (oa s.2 (-1)) (ob s.2 (-1)) (n : Int)) (oa (bestN l d n s).2 (-1), ob (bestN l d n s).2 (-1), (bestN l d n s).2.isSome) := by
  have hl := L.len
  intro d
  induction d with
  | zero =>
    intro n hn s _
    refine Ev.step (fun k => by rw [spec_l07Best.l0]) ?_
    exact ev_neg (by omega) (ev_is (by rw [oa_ge]; rfl))
  | succ d ih =>
    intro n hn s hs
    refine Ev.step (fun k => by rw [spec_l07Best.l0]) ?_
    rw [wrap_succ (by omega)]
    exact ev_pos (by omega) (spec_best_l1 l L n (by omega) _ (l.length - (n + 1)) (n + 1) (by omega) s hs (ih (n + 1) (by omega) _ (bestM_good (by omega) _ _ _ (by omega) hs)))
theorem l07Best_ev (l : List Int) (L : Level l) : Ev (fun k => spec_l07Best.f k l (sharesL l)) (oa (best l).2 (-1), ob (best l).2 (-1), (best l).2.isSome) := by
  unfold spec_l07Best.f
  refine ev_bind (l07Squares_ev l L) ?_
  exact spec_best_l0 l L l.length 0 (by omega) (foldD sqD l, none) rfl
end Go.Proofs.Ytfmjckkgnieccaa.Pure
end
section
namespace Go.Proofs.Ytfmjckkgnieccaa.Pure
open Go.RowKit Go.Proofs.Ytfmjckkgnieccaa.P Go.Proofs.YtfmjckkgnieccaaW.PrintWords Go.Proofs.YtfmjckkgnieccaaW.PrintLast Go.Proofs.YtfmjckkgnieccaaW.PrintMore
set_option linter.unusedVariables false
set_option linter.unusedSimpArgs false
/-- the digit of the road between two places -/
def roadOf (i j : Int) : Int := 2 ^ ((max i j) * ((max i j) - 1) / 2 + min i j).toNat
/-- Two places are near: the same, or joined. -/
def nearB (b i j : Int) : Bool := if i = j then true else Go.bits .and .i64 b (roadOf i j) != 0
end Go.Proofs.Ytfmjckkgnieccaa.Pure
end
section
namespace Go.Proofs.Ytfmjckkgnieccaa.Pure
open Go.RowKit Go.Proofs.Ytfmjckkgnieccaa.P Go.Proofs.YtfmjckkgnieccaaW.PrintWords Go.Proofs.YtfmjckkgnieccaaW.PrintLast Go.Proofs.YtfmjckkgnieccaaW.PrintMore
set_option linter.unusedVariables false
set_option linter.unusedSimpArgs false
theorem rd_set {l : List Int} {b i : Nat} {x : Int} (hb : b < l.length) : rd (l.set b x) (i : Nat) = if i = b then x else rd l (i : Nat) := by
  simp only [rd, Int.toNat_natCast, List.getD_eq_getElem?_getD, List.getElem?_set]
  by_cases h : b = i
  · subst h; simp [hb]
  · rw [if_neg h, if_neg (fun e => h e.symm)]
end Go.Proofs.Ytfmjckkgnieccaa.Pure
end
section
namespace Go.Proofs.Ytfmjckkgnieccaa.Pure
open Go.RowKit Go.Proofs.Ytfmjckkgnieccaa.P Go.Proofs.YtfmjckkgnieccaaW.PrintWords Go.Proofs.YtfmjckkgnieccaaW.PrintLast Go.Proofs.YtfmjckkgnieccaaW.PrintMore
set_option linter.unusedVariables false
set_option linter.unusedSimpArgs false
def neg : List Int → Nat
  | [] => 0
  | y :: l => (if y < 0 then 1 else 0) + neg l
theorem neg_set (v : Int) (hv : 0 ≤ v) : ∀ (l : List Int) (n : Nat) (h : n < l.length), l[n] < 0 → neg (l.set n v) + 1 = neg l := by
  intro l
  induction l with
  | nil => intro n h; simp at h
  | cons y l ih =>
    intro n h hn
    cases n with
    | zero =>
      simp only [List.getElem_cons_zero] at hn
      simp only [List.set_cons_zero, neg]
      rw [if_neg (by omega), if_pos hn]
      omega
    | succ n =>
      simp only [List.getElem_cons_succ] at hn
      simp only [List.set_cons_succ, neg]
      have := ih n (by simpa using h) hn
      omega
def stepJ (b h : Int) (j : Nat) (s : List Int × List Int) : List Int × List Int := if rd s.1 (j : Int) < 0 ∧ nearB b h (j : Int) = true then (s.1.set j (rd s.1 h + 1), s.2 ++ [(j : Int)]) else s
def inJ (b h : Int) : Nat → Nat → List Int × List Int → List Int × List Int
  | 0, _, s => s
  | d + 1, j, s => inJ b h d (j + 1) (stepJ b h j s)
structure Bfs (a : Nat) (s : List Int × List Int) : Prop where
  len : s.1.length = a
  mem : ∀ x ∈ s.2, 0 ≤ x ∧ x < (a : Int) ∧ 0 ≤ rd s.1 x
  hi : ∀ i : Nat, i < a → rd s.1 (i : Int) ≤ (s.2.length : Int)
  num : s.2.length + neg s.1 ≤ a
theorem Bfs.step {a : Nat} {b h : Int} {j : Nat} {s : List Int × List Int} (B : Bfs a s) (hj : j < a) (hh : 0 ≤ h ∧ h < (a : Int) ∧ 0 ≤ rd s.1 h) : Bfs a (stepJ b h j s) := by
  unfold stepJ
  split
  · next c =>
    have hl := B.len
    refine ⟨by rw [List.length_set]; exact hl, fun x hx => ?_, fun i hi => ?_, ?_⟩
    · rcases List.mem_append.1 hx with hx | hx
      · obtain ⟨h1, h2, h3⟩ := B.mem x hx
        obtain ⟨n, rfl⟩ : ∃ n : Nat, x = n := ⟨x.toNat, by omega⟩
        refine ⟨h1, h2, ?_⟩
        show 0 ≤ rd (s.1.set j _) (n : Int)
        rw [rd_set (by omega)]
        split <;> omega
      · rw [List.mem_singleton.1 hx]
        refine ⟨by omega, by omega, ?_⟩
        show 0 ≤ rd (s.1.set j _) (j : Int)
        rw [rd_set (by omega), if_pos rfl]
        omega
    · have h1 := B.hi i hi
      have h2 := B.hi h.toNat (by omega)
      rw [show ((h.toNat : Nat) : Int) = h by omega] at h2
      show rd (s.1.set j _) (i : Int) ≤ ((s.2 ++ [(j : Int)]).length : Int)
      rw [rd_set (by omega), List.length_append, List.length_singleton]
      split <;> omega
    · have c1 := c.1
      rw [rd_nat (by omega)] at c1
      have := neg_set (rd s.1 h + 1) (by omega) s.1 j (by omega) c1
      have := B.num
      show (s.2 ++ [(j : Int)]).length + neg (s.1.set j (rd s.1 h + 1)) ≤ a
      rw [List.length_append, List.length_singleton]
      omega
  · exact B
theorem stepJ_head {a : Nat} {b h : Int} {j : Nat} {s : List Int × List Int} (B : Bfs a s) (hj : j < a) (hh : 0 ≤ h ∧ h < (a : Int) ∧ 0 ≤ rd s.1 h) : 0 ≤ rd (stepJ b h j s).1 h := by
  unfold stepJ
  split
  · have hl := B.len
    obtain ⟨n, rfl⟩ : ∃ n : Nat, h = n := ⟨h.toNat, by omega⟩
    show 0 ≤ rd (s.1.set j _) (n : Int)
    rw [rd_set (by omega)]
    split <;> omega
  · exact hh.2.2
theorem Bfs.inner {a : Nat} {b h : Int} : ∀ d j : Nat, j + d = a → ∀ s : List Int × List Int, Bfs a s → (0 ≤ h ∧ h < (a : Int) ∧ 0 ≤ rd s.1 h) → Bfs a (inJ b h d j s) := by
  intro d
  induction d with
  | zero => intro j _ s B _; exact B
  | succ d ih => intro j hj s B hh; exact ih (j + 1) (by omega) _ (B.step (by omega) hh) ⟨hh.1, hh.2.1, stepJ_head B (by omega) hh⟩
end Go.Proofs.Ytfmjckkgnieccaa.Pure
end
section
namespace Go.Proofs.Ytfmjckkgnieccaa.Pure
open Go.RowKit Go.Proofs.Ytfmjckkgnieccaa.P Go.Proofs.YtfmjckkgnieccaaW.PrintWords Go.Proofs.YtfmjckkgnieccaaW.PrintLast Go.Proofs.YtfmjckkgnieccaaW.PrintMore
set_option linter.unusedVariables false
set_option linter.unusedSimpArgs false
theorem likeInts_ev (l : List Int) (hl : l.length ≤ 1048576) : Ev (fun k => laws_likeInts.f k l l) true := by
  have main : ∀ d n : Nat, n + d = l.length → Ev (fun k => laws_likeInts.l0 k l l (n : Int)) true := by
    intro d
    induction d with
    | zero =>
      intro n hn
      exact Ev.step (fun k => by rw [laws_likeInts.l0]) (ev_neg (by omega) (ev_now _))
    | succ d ih =>
      intro n hn
      refine Ev.step (fun k => by rw [laws_likeInts.l0]) (ev_pos (by omega) (ev_pos (by omega) (ev_pos (by omega) (ev_pos rfl ?_))))
      rw [wrap_succ (n := n) (by omega)]
      exact ih (n + 1) (by omega)
  unfold laws_likeInts.f
  exact ev_pos rfl (main l.length 0 (by omega))
end Go.Proofs.Ytfmjckkgnieccaa.Pure
end
section
namespace Go.Proofs.Ytfmjckkgnieccaa.Pure
open Go.RowKit Go.Proofs.Ytfmjckkgnieccaa.P Go.Proofs.YtfmjckkgnieccaaW.PrintWords Go.Proofs.YtfmjckkgnieccaaW.PrintLast Go.Proofs.YtfmjckkgnieccaaW.PrintMore
set_option linter.unusedVariables false
set_option linter.unusedSimpArgs false
def EvP {β : Type} (A : Nat → Option β) (P : β → Prop) : Prop := ∃ r, Ev A r ∧ P r
theorem evp_now {β : Type} {P : β → Prop} {r : β} (h : P r) : EvP (fun _ => some r) P := ⟨r, Ev.now r, h⟩
theorem evp_bind {α β : Type} {g : Nat → Option α} {f : Nat → α → Option β} {Q : α → Prop} {P : β → Prop} (h : EvP g Q) (k : ∀ a, Q a → EvP (fun n => f n a) P) : EvP (fun n => (g n).bind (f n)) P := by
  obtain ⟨a, e, q⟩ := h
  obtain ⟨r, e2, p⟩ := k a q
  exact ⟨r, Ev.bind e e2, p⟩
theorem evp_ev {α β : Type} {g : Nat → Option α} {f : Nat → α → Option β} {a : α} {P : β → Prop} (h : Ev g a) (k : EvP (fun n => f n a) P) : EvP (fun n => (g n).bind (f n)) P := by
  obtain ⟨r, e2, p⟩ := k
  exact ⟨r, Ev.bind h e2, p⟩
theorem evp_fix {α β : Type} {g : Option α} {f : Nat → α → Option β} {a : α} {P : β → Prop} (h : g = some a) (k : EvP (fun n => f n a) P) : EvP (fun n => g.bind (f n)) P := by subst h; exact k
theorem evp_pos {β : Type} {c : Prop} [Decidable c] {A B : Nat → Option β} {P : β → Prop} (h : c) (k : EvP A P) : EvP (fun n => if c then A n else B n) P := by
  obtain ⟨r, e, p⟩ := k; exact ⟨r, Ev.congr (fun n => if_pos h) e, p⟩
theorem evp_neg {β : Type} {c : Prop} [Decidable c] {A B : Nat → Option β} {P : β → Prop} (h : ¬ c) (k : EvP B P) : EvP (fun n => if c then A n else B n) P := by
  obtain ⟨r, e, p⟩ := k; exact ⟨r, Ev.congr (fun n => if_neg h) e, p⟩
theorem evp_ite {β : Type} {c : Prop} [Decidable c] {A B : Nat → Option β} {P : β → Prop} (h1 : c → EvP A P) (h2 : ¬ c → EvP B P) : EvP (fun n => if c then A n else B n) P := by
  by_cases h : c
  · exact evp_pos h (h1 h)
  · exact evp_neg h (h2 h)
theorem evp_step {β : Type} {g f : Nat → Option β} {P : β → Prop} (h : ∀ k, g (k + 1) = f k) (k : EvP f P) : EvP g P := by
  obtain ⟨r, e, p⟩ := k; exact ⟨r, Ev.step h e, p⟩
theorem evp_true {A : Nat → Option Bool} (h : EvP A (fun r => r = true)) : Ev A true := by
  obtain ⟨r, e, p⟩ := h; subst p; exact e
theorem evp_of {β : Type} {A : Nat → Option β} {P : β → Prop} {r : β} (h : Ev A r) (p : P r) : EvP A P := ⟨r, h, p⟩
end Go.Proofs.Ytfmjckkgnieccaa.Pure
end
section
namespace Go.Proofs.Ytfmjckkgnieccaa.Pure
open Go.RowKit Go.Proofs.Ytfmjckkgnieccaa.P Go.Proofs.YtfmjckkgnieccaaW.PrintWords Go.Proofs.YtfmjckkgnieccaaW.PrintLast Go.Proofs.YtfmjckkgnieccaaW.PrintMore
set_option linter.unusedVariables false
set_option linter.unusedSimpArgs false
def Bytes (b : List Int) : Prop := (∀ x ∈ b, 0 ≤ x ∧ x ≤ 255) ∧ b.length ≤ 4096
def Ok (b : List Int) (i : Int) : Prop := 0 ≤ i ∧ i ≤ (b.length : Int)
theorem bits_bound (x : Int) : 0 ≤ Go.bits .and .u64 x 16777215 ∧ Go.bits .and .u64 x 16777215 ≤ 16777215 := by
  have h : (BitVec.ofInt 64 x &&& BitVec.ofInt 64 16777215).toNat ≤ 16777215 := by
    rw [BitVec.toNat_and]
    exact Nat.le_trans Nat.and_le_right (by decide)
  show 0 ≤ IntKind.u64.wrap ((BitVec.ofInt 64 x &&& BitVec.ofInt 64 16777215).toNat : Int) ∧ IntKind.u64.wrap ((BitVec.ofInt 64 x &&& BitVec.ofInt 64 16777215).toNat : Int) ≤ 16777215
  generalize (BitVec.ofInt 64 x &&& BitVec.ofInt 64 16777215).toNat = n at h
  have e : IntKind.u64.wrap (n : Int) = (n : Int) := by
    show (n : Int) % 18446744073709551616 = (n : Int)
    omega
  rw [e]
  omega
theorem next_f {b : List Int} (hb : Bytes b) {i : Int} (hi : Ok b i) (h n : Int) :
    ∃ v i2 h2, spec_l01Next.f b i h n = some (v, i2, h2) ∧ 0 ≤ v ∧ (1 ≤ n → v < n) ∧ (n < 1 → v = 0) ∧ Ok b i2 := by
  unfold spec_l01Next.f
  by_cases c : n < 1
  · rw [if_pos c]; exact ⟨_, _, _, rfl, by omega, fun _ => by omega, fun _ => rfl, hi⟩
  rw [if_neg c]
  have hy := bits_bound (IntKind.u64.wrap ((IntKind.u64.wrap (h * 6364136223846793005)) + 1442695040888963407) / 8589934592)
  generalize Go.bits .and .u64 (IntKind.u64.wrap ((IntKind.u64.wrap (h * 6364136223846793005)) + 1442695040888963407) / 8589934592) 16777215 = y at hy ⊢
  rw [wrap_id (x := y) (by omega) (by omega)]
  have hl := hb.2
  obtain ⟨h0, h1⟩ := hi
  by_cases d : i < (b.length : Int)
  · have hx := hb.1 _ (rd_mem (l := b) (i := i) h0 d)
    rw [if_pos d, if_pos h0, if_neg (by omega), wrap_id (x := rd b i) (by omega) (by omega), wrap_id (x := y + rd b i) (by omega) (by omega), wrap_id (x := i + 1) (by omega) (by omega)]
    exact ⟨_, _, _, rfl, Int.tmod_nonneg _ (by omega), fun _ => Int.tmod_lt_of_pos _ (by omega), fun h => absurd h c, by constructor <;> omega⟩
  · rw [if_neg d, if_neg (by omega)]
    exact ⟨_, _, _, rfl, Int.tmod_nonneg _ (by omega), fun _ => Int.tmod_lt_of_pos _ (by omega), fun h => absurd h c, ⟨h0, h1⟩⟩
theorem evp_next {β : Type} {b : List Int} (hb : Bytes b) {i : Int} (hi : Ok b i) {h n : Int} {f : Nat → Int × Int × Int → Option β} {P : β → Prop}
    (k : ∀ v i2 h2, 0 ≤ v → (1 ≤ n → v < n) → (n < 1 → v = 0) → Ok b i2 → EvP (fun m => f m (v, i2, h2)) P) : EvP (fun m => (spec_l01Next.f b i h n).bind (f m)) P := by
  obtain ⟨v, i2, h2, e, h1, h3, h4, h5⟩ := next_f hb hi h n
  exact evp_fix e (k v i2 h2 h1 h3 h4 h5)
theorem evp_pick {β : Type} {b : List Int} (hb : Bytes b) {i : Int} (hi : Ok b i) {h : Int} {l : List Int} (hl : 1 ≤ l.length) {f : Nat → Int × Int × Int → Option β} {P : β → Prop}
    (k : ∀ v i2 h2, v ∈ l → Ok b i2 → EvP (fun m => f m (v, i2, h2)) P) : EvP (fun m => (spec_l01Pick.f b i h l).bind (f m)) P := by
  obtain ⟨v, i2, h2, e, h1, h3, h4, h5⟩ := next_f hb hi h (l.length : Int)
  refine evp_fix (a := (rd l v, i2, h2)) ?_ (k _ i2 h2 (rd_mem h1 (h3 (by omega))) h5)
  unfold spec_l01Pick.f
  rw [e, Option.bind_some, if_pos h1, if_pos (h3 (by omega))]
theorem l01From_evp (b : List Int) (hl : b.length ≤ 4096) : EvP (fun k => spec_l01From.f k b) (fun r => r.1 = b ∧ r.2.1 = 0) := by
  have main : ∀ d n : Nat, n + d = b.length → ∀ h : Int, EvP (fun k => spec_l01From.l0 k b (n : Int) b 0 h) (fun r => r.1 = b ∧ r.2.1 = 0) := by
    intro d
    induction d with
    | zero =>
      intro n hn h
      exact evp_step (fun k => by rw [spec_l01From.l0]) (evp_neg (by omega) (evp_now ⟨rfl, rfl⟩))
    | succ d ih =>
      intro n hn h
      refine evp_step (fun k => by rw [spec_l01From.l0]) (evp_pos (by omega) (evp_pos (by omega) (evp_pos (by omega) ?_)))
      rw [wrap_succ (n := n) (by omega)]
      exact ih (n + 1) (by omega) _
  unfold spec_l01From.f
  exact main b.length 0 (by omega) _
theorem evp_from {β : Type} {b : List Int} (hb : Bytes b) {f : Nat → List Int × Int × Int → Option β} {P : β → Prop}
    (k : ∀ h, EvP (fun m => f m (b, 0, h)) P) : EvP (fun m => (spec_l01From.f m b).bind (f m)) P := by
  refine evp_bind (l01From_evp b hb.2) ?_
  rintro ⟨b2, i, h⟩ ⟨h1, h2⟩
  cases h1; cases h2
  exact k h
theorem ok_start (b : List Int) : Ok b 0 := by constructor <;> omega
theorem evp_near {β : Type} {b : List Int} (hb : Bytes b) {i : Int} (hi : Ok b i) {h : Int} {a : Int} {f : Nat → Int × Int × Int → Option β} {P : β → Prop}
    (k : ∀ v i2 h2, Ok b i2 → (v = -1 ∨ v = wrap64 (a + 1) ∨ v = 1099511627776 ∨ v = -4611686018427387904 ∨ (0 ≤ v ∧ (1 ≤ wrap64 (a + 1) → v < wrap64 (a + 1)) ∧ (wrap64 (a + 1) < 1 → v = 0))) → EvP (fun m => f m (v, i2, h2)) P) : EvP (fun m => (spec_l01Near.f b i h a).bind (f m)) P := by
  obtain ⟨v, i2, h2, e, h1, h3, h4, h5⟩ := next_f hb hi h 14
  by_cases c : v = 0
  · obtain ⟨u, i3, h6, e2, q1, q3, q4, q5⟩ := next_f hb h5 h2 (([(-1), wrap64 (a + 1), 1099511627776, (-4611686018427387904)] : List Int).length : Int)
    have hu : u < 4 := q3 (by show (1 : Int) ≤ 4; decide)
    refine evp_fix (a := (rd [(-1), wrap64 (a + 1), 1099511627776, (-4611686018427387904)] u, i3, h6)) ?_ (k _ i3 h6 q5 ?_)
    · unfold spec_l01Near.f
      rw [e, Option.bind_some, if_pos c]
      unfold spec_l01Pick.f
      rw [e2, Option.bind_some, if_pos q1, if_pos (show u < (([(-1), wrap64 (a + 1), 1099511627776, (-4611686018427387904)] : List Int).length : Int) from hu), Option.bind_some]
    · have hm := rd_mem (l := [(-1), wrap64 (a + 1), 1099511627776, (-4611686018427387904)]) q1 (show u < (([(-1), wrap64 (a + 1), 1099511627776, (-4611686018427387904)] : List Int).length : Int) from hu)
      simp only [List.mem_cons, List.mem_nil_iff, or_false] at hm
      rcases hm with h | h | h | h
      · exact .inl h
      · exact .inr (.inl h)
      · exact .inr (.inr (.inl h))
      · exact .inr (.inr (.inr (.inl h)))
  · obtain ⟨u, i3, h6, e2, q1, q3, q4, q5⟩ := next_f hb h5 h2 (wrap64 (a + 1))
    refine evp_fix (a := (u, i3, h6)) ?_ (k _ i3 h6 q5 (.inr (.inr (.inr (.inr ⟨q1, q3, q4⟩)))))
    unfold spec_l01Near.f
    rw [e, Option.bind_some, if_neg c, e2, Option.bind_some]
end Go.Proofs.Ytfmjckkgnieccaa.Pure
end
section
namespace Go.Proofs.Ytfmjckkgnieccaa.Pure
set_option linter.unusedVariables false
set_option linter.unusedSimpArgs false
/-- the sum of a list -/
def tot : List Int → Int
  | [] => 0
  | x :: l => x + tot l
theorem tot_append (a b : List Int) : tot (a ++ b) = tot a + tot b := by
  induction a with
  | nil => simp [tot]
  | cons x a ih => simp only [List.cons_append, tot, ih]; omega
theorem tot_take_succ (l : List Int) (n : Nat) (h : n < l.length) : tot (l.take (n + 1)) = tot (l.take n) + l[n] := by
  rw [List.take_succ_eq_append_getElem h, tot_append]; simp [tot]
theorem tot_bounds (lo hi : Int) (l : List Int) (h : ∀ x ∈ l, lo ≤ x ∧ x ≤ hi) : lo * l.length ≤ tot l ∧ tot l ≤ hi * l.length := by
  induction l with
  | nil => simp [tot]
  | cons x l ih =>
    have h1 := ih (fun y hy => h y (List.mem_cons_of_mem _ hy))
    have h2 := h x List.mem_cons_self
    simp only [tot, List.length_cons]
    rw [show ((l.length + 1 : Nat) : Int) = (l.length : Int) + 1 by omega, Int.mul_add, Int.mul_add, Int.mul_one, Int.mul_one]
    omega
theorem mem_of_mem_take {α : Type} {l : List α} {n : Nat} {x : α} (h : x ∈ l.take n) : x ∈ l := List.mem_of_mem_take h
end Go.Proofs.Ytfmjckkgnieccaa.Pure
end
section
namespace Go.Proofs.Ytfmjckkgnieccaa.Pure
open Go.RowKit Go.Proofs.Ytfmjckkgnieccaa.P Go.Proofs.YtfmjckkgnieccaaW.PrintWords Go.Proofs.YtfmjckkgnieccaaW.PrintLast Go.Proofs.YtfmjckkgnieccaaW.PrintMore
set_option linter.unusedVariables false
set_option linter.unusedSimpArgs false
/-- 1 to 8 shares in 1..60, of at most 60 in all -/
def isShares (l : List Int) : Bool := decide (1 ≤ (l.length : Int) ∧ (l.length : Int) ≤ 8) && (l.all (fun g => decide (1 ≤ g ∧ g ≤ 60)) && decide (tot l ≤ 60))
theorem isShares_iff (l : List Int) : isShares l = true ↔ (1 ≤ l.length ∧ l.length ≤ 8) ∧ (∀ x ∈ l, 1 ≤ x ∧ x ≤ 60) ∧ tot l ≤ 60 := by
  unfold isShares
  rw [Bool.and_eq_true, Bool.and_eq_true, List.all_eq_true, decide_eq_true_iff, decide_eq_true_iff]
  simp only [decide_eq_true_iff]
  constructor
  · rintro ⟨h1, h2, h3⟩; exact ⟨by omega, h2, h3⟩
  · rintro ⟨h1, h2, h3⟩; exact ⟨by omega, h2, h3⟩
theorem isShares_pos {l : List Int} (h : isShares l = true) : 1 ≤ tot l ∧ tot l ≤ 60 := by
  have h1 := (isShares_iff l).1 h
  have h2 := tot_bounds 1 60 l h1.2.1
  omega
theorem l07Sum_l0 (l : List Int) (hl : l.length ≤ 1048576) : ∀ d n : Nat, n + d = l.length → (∀ x ∈ l.take n, 1 ≤ x ∧ x ≤ 60) → Ev (fun k => spec_l07Sum.l0 k l (tot (l.take n)) (n : Int)) (if isShares l = true then tot l else 0) := by
  intro d
  induction d with
  | zero =>
    intro n hn ha
    have hb := tot_bounds 1 60 _ ha
    rw [List.take_of_length_le (by omega)] at ha hb ⊢
    refine Ev.step (fun k => by rw [spec_l07Sum.l0]) (ev_neg (by omega) ?_)
    by_cases h8 : (l.length : Int) > 8
    · refine ev_pos h8 (ev_is ?_)
      rw [if_neg (fun h => by have := ((isShares_iff l).1 h).1; omega)]
    · refine ev_neg h8 ?_
      by_cases h60 : tot l > 60
      · refine ev_pos h60 (ev_is ?_)
        rw [if_neg (fun h => by have := ((isShares_iff l).1 h).2.2; omega)]
      · refine ev_neg h60 (ev_is ?_)
        by_cases h : isShares l = true
        · rw [if_pos h]
        · rw [if_neg h]
          rw [isShares_iff] at h
          have h0 : l.length = 0 := by
            rcases Nat.eq_zero_or_pos l.length with h0 | h0
            · exact h0
            · exact absurd ⟨by omega, ha, by omega⟩ h
          rw [List.eq_nil_of_length_eq_zero h0]
          rfl
  | succ d ih =>
    intro n hn ha
    have hlt : n < l.length := by omega
    have hb := tot_bounds 1 60 _ ha
    rw [List.length_take, Nat.min_eq_left (by omega)] at hb
    refine Ev.step (fun k => by rw [spec_l07Sum.l0]) (ev_pos (by omega) (ev_pos (by omega) (ev_fix (l01In_f _ _ _) ?_)))
    rw [rd_nat hlt]
    by_cases hq : 1 ≤ l[n] ∧ l[n] ≤ 60
    · rw [decide_eq_true hq]
      refine ev_pos rfl ?_
      rw [wrap_succ (by omega), wrap_id (by omega) (by omega), ← tot_take_succ l n hlt]
      refine ih (n + 1) (by omega) ?_
      rw [List.take_succ_eq_append_getElem hlt]
      intro y hy
      rcases List.mem_append.1 hy with hy | hy
      · exact ha y hy
      · rw [List.mem_singleton.1 hy]; exact hq
    · rw [decide_eq_false hq]
      refine ev_neg (by simp) (ev_is ?_)
      rw [if_neg (fun h => hq (((isShares_iff l).1 h).2.1 _ (List.getElem_mem hlt)))]
theorem l07Sum_ev (l : List Int) (hl : l.length ≤ 1048576) : Ev (fun k => spec_l07Sum.f k l) (if isShares l = true then tot l else 0) := by
  unfold spec_l07Sum.f
  exact l07Sum_l0 l hl l.length 0 (by omega) (by simp)
end Go.Proofs.Ytfmjckkgnieccaa.Pure
end
section
namespace Go.Proofs.Ytfmjckkgnieccaa.Pure
open Go.RowKit Go.Proofs.Ytfmjckkgnieccaa.P Go.Proofs.YtfmjckkgnieccaaW.PrintWords Go.Proofs.YtfmjckkgnieccaaW.PrintLast Go.Proofs.YtfmjckkgnieccaaW.PrintMore
set_option linter.unusedVariables false
set_option linter.unusedSimpArgs false
def dElig (shares given : List Int) (all b n : Int) (i : Nat) : Bool := decide (rd given i + 1 ≤ rd shares i) && decide (all * (rd given i + 1) - n * rd shares i ≤ b)
def dOwn (shares given : List Int) (all b : Int) (i : Nat) : Int := mn ((b + all * rd given i) / rd shares i + 1) all
/-- the task with the least last slot among the first j that may have the slot, and that slot (from 1 on) -/
def dPick (elig : Nat → Bool) (own : Nat → Int) : Nat → Int × Int
  | 0 => (-1, 0)
  | j + 1 => if elig j = true then (if (dPick elig own j).1 < 0 ∨ own j < (dPick elig own j).2 then ((j : Int), own j) else dPick elig own j) else dPick elig own j
theorem dPick_range (elig : Nat → Bool) (own : Nat → Int) : ∀ j : Nat, (dPick elig own j).1 = -1 ∨ ∃ i : Nat, i < j ∧ (dPick elig own j).1 = i ∧ (dPick elig own j).2 = own i ∧ elig i = true := by
  intro j
  induction j with
  | zero => exact .inl rfl
  | succ j ih =>
    rw [dPick]
    have hold : (dPick elig own j).1 = -1 ∨ ∃ i : Nat, i < j + 1 ∧ (dPick elig own j).1 = i ∧ (dPick elig own j).2 = own i ∧ elig i = true := by
      rcases ih with h | ⟨i, hi, h⟩
      · exact .inl h
      · exact .inr ⟨i, by omega, h⟩
    split
    · rename_i he
      split
      · exact .inr ⟨j, by omega, rfl, rfl, he⟩
      · exact hold
    · exact hold
def deadGo (shares : List Int) (all b : Int) : Nat → List Int → List Int → Int → List Int × Bool
  | 0, _, out, _ => (out, true)
  | d + 1, given, out, n =>
    if (dPick (dElig shares given all b n) (dOwn shares given all b) shares.length).1 < 0 ∨ (dPick (dElig shares given all b n) (dOwn shares given all b) shares.length).2 < n then ([], false)
    else deadGo shares all b d (given.set (dPick (dElig shares given all b n) (dOwn shares given all b) shares.length).1.toNat (rd given (dPick (dElig shares given all b n) (dOwn shares given all b) shares.length).1 + 1)) (out ++ [(dPick (dElig shares given all b n) (dOwn shares given all b) shares.length).1]) (n + 1)
/-- the deadline turns of shares for a number -/
def dead (shares : List Int) (b : Int) : List Int × Bool := deadGo shares (tot shares) b (tot shares).toNat (List.replicate shares.length 0) [] 1
structure DInv (shares given : List Int) : Prop where
  len : given.length = shares.length
  bnd : ∀ i : Nat, i < shares.length → 0 ≤ rd given i ∧ rd given i ≤ rd shares i
theorem DInv.start {shares : List Int} (h : isShares shares = true) : DInv shares (List.replicate shares.length 0) := by
  refine ⟨by simp, fun i hi => ?_⟩
  have h1 := ((isShares_iff shares).1 h).2.1 _ (List.getElem_mem hi)
  rw [← rd_nat hi] at h1
  have h2 : rd (List.replicate shares.length 0) (i : Int) = 0 := by simp [rd, List.getElem?_replicate, hi]
  omega
theorem DInv.next {shares given : List Int} (h : DInv shares given) {i : Nat} (hi : i < shares.length) (he : rd given i + 1 ≤ rd shares i) : DInv shares (given.set i (rd given i + 1)) := by
  refine ⟨by rw [List.length_set]; exact h.len, fun j hj => ?_⟩
  rw [rd_set (by rw [h.len]; exact hi)]
  have h1 := h.bnd j hj
  have h2 := h.bnd i hi
  by_cases e : j = i
  · subst e; rw [if_pos rfl]; omega
  · rw [if_neg e]; exact h1
structure DBnd (shares given : List Int) (all b n : Int) : Prop where
  sh : isShares shares = true
  al : all = tot shares
  inv : DInv shares given
  b0 : 0 ≤ b ∧ b ≤ 10000
  n0 : 1 ≤ n ∧ n ≤ all
theorem DBnd.facts {shares given : List Int} {all b n : Int} (h : DBnd shares given all b n) (j : Nat) (hj : j < shares.length) :
    (1 ≤ all ∧ all ≤ 60) ∧ (0 ≤ rd given j ∧ rd given j ≤ 60) ∧ (1 ≤ rd shares j ∧ rd shares j ≤ 60) ∧ (1 ≤ n ∧ n ≤ 60) ∧ (0 ≤ b ∧ b ≤ 10000) := by
  have h1 := isShares_pos h.sh
  have h2 := h.inv.bnd j hj
  have h3 := ((isShares_iff shares).1 h.sh).2.1 _ (List.getElem_mem hj)
  rw [← rd_nat hj] at h3
  have h4 := h.al; have h5 := h.n0; have h6 := h.b0
  omega
theorem elig_false {shares given : List Int} {all b n : Int} {j : Nat} (h : ¬ rd given j + 1 ≤ rd shares j) : dElig shares given all b n j = false := by simp [dElig, h]
theorem elig_second {shares given : List Int} {all b n : Int} {j : Nat} (h : rd given j + 1 ≤ rd shares j) : dElig shares given all b n j = decide (all * (rd given j + 1) - n * rd shares j ≤ b) := by simp [dElig, h]
theorem gt_flip {x b : Int} : decide (x > b) = !decide (x ≤ b) := by
  by_cases h : x ≤ b
  · rw [decide_eq_true h, decide_eq_false (by omega)]; rfl
  · rw [decide_eq_false h, decide_eq_true (by omega)]; rfl
theorem mul60 {a b A B : Int} (ha : 0 ≤ a ∧ a ≤ A) (hb : 0 ≤ b ∧ b ≤ B) : 0 ≤ a * b ∧ a * b ≤ A * B := by
  refine ⟨Int.mul_nonneg ha.1 hb.1, ?_⟩
  exact Int.le_trans (Int.mul_le_mul_of_nonneg_right ha.2 hb.1) (Int.mul_le_mul_of_nonneg_left hb.2 (by omega))
theorem own_spec {all b s g : Int} (ha : 1 ≤ all ∧ all ≤ 60) (hb : 0 ≤ b ∧ b ≤ 10000) (hs : 1 ≤ s ∧ s ≤ 60) (hg : 0 ≤ g ∧ g ≤ 60) :
    mn (wrap64 ((wrap64 (Int.tdiv (wrap64 (b + (wrap64 (all * (wrap64 (wrap64 (g + 1) - 1)))))) s)) + 1)) all = mn ((b + all * g) / s + 1) all := by
  have h1 := mul60 (a := all) (b := g) (A := 60) (B := 60) (by omega) hg
  have h2 : 0 ≤ (b + all * g) / s := Int.ediv_nonneg (by omega) (by omega)
  have h3 : (b + all * g) / s ≤ b + all * g := Int.ediv_le_self _ (by omega)
  rw [wrap_id (x := g + 1) (by omega) (by omega), show g + 1 - 1 = g by omega, wrap_id (x := g) (by omega) (by omega), wrap_id (x := all * g) (by omega) (by omega), wrap_id (x := b + all * g) (by omega) (by omega), Int.tdiv_eq_ediv_of_nonneg (by omega), wrap_id (x := (b + all * g) / s) (by omega) (by omega), wrap_id (by omega) (by omega)]
/-- the continuation behind the tasks of a slot, of the reference -/
theorem Dead_spec_l1 (shares given out : List Int) (all b n : Int) (hG : DBnd shares given all b n) (hout : out.length < 17592186044416) (R : List Int × Bool)
    (hR : Ev (fun k => spec_l07Deadline.l1 k shares all b out given n (dPick (dElig shares given all b n) (dOwn shares given all b) shares.length).1 (dPick (dElig shares given all b n) (dOwn shares given all b) shares.length).2 (shares.length : Int) (shares.length : Int)) R) :
    ∀ d j : Nat, j + d = shares.length → Ev (fun k => spec_l07Deadline.l1 k shares all b out given n (dPick (dElig shares given all b n) (dOwn shares given all b) j).1 (dPick (dElig shares given all b n) (dOwn shares given all b) j).2 (shares.length : Int) (j : Int)) R := by
  have hlen := hG.inv.len
  have hpos := ((isShares_iff shares).1 hG.sh).1
  intro d
  induction d with
  | zero =>
    intro j hj
    obtain rfl : j = shares.length := by omega
    exact hR
  | succ d ih =>
    intro j hj
    have hlt : j < shares.length := by omega
    have ⟨f1, f2, f3, f4, f5⟩ := hG.facts j hlt
    have h5 := mul60 (a := all) (b := rd given j + 1) (A := 60) (B := 61) (by omega) (by omega)
    have h6 := mul60 (a := n) (b := rd shares j) (A := 60) (B := 60) (by omega) (by omega)
    have hih := ih (j + 1) (by omega)
    rw [dPick] at hih
    generalize dPick (dElig shares given all b n) (dOwn shares given all b) j = p at hih ⊢
    refine Ev.step (fun k => by rw [spec_l07Deadline.l1]) ?_
    refine ev_pos (by omega) (ev_pos (by omega) (ev_pos (by omega) (ev_pos (by omega) ?_)))
    rw [wrap_id (x := rd given j + 1) (by omega) (by omega)]
    have hskip : dElig shares given all b n j = false → Ev (fun k => spec_l07Deadline.j2 k shares all b out given n p.1 p.2 (j : Int) (rd given j + 1) (shares.length : Int) (j : Int) true) R := by
      intro he
      rw [he, if_neg (by simp)] at hih
      refine Ev.step (fun k => by rw [spec_l07Deadline.j2]) ?_
      refine ev_pos rfl ?_
      rw [wrap_succ (by omega)]
      exact hih
    by_cases c1 : rd given j + 1 > rd shares j
    · exact ev_pos c1 (hskip (elig_false (by omega)))
    · refine ev_neg c1 ?_
      rw [wrap_id (x := all * (rd given j + 1)) (by omega) (by omega), wrap_id (x := n * rd shares j) (by omega) (by omega), wrap_id (x := _ - _) (by omega) (by omega), gt_flip, ← elig_second (n := n) (b := b) (all := all) (by omega)]
      cases he : dElig shares given all b n j with
      | false => exact hskip he
      | true =>
        rw [he, if_pos rfl] at hih
        refine Ev.step (fun k => by rw [spec_l07Deadline.j2]) ?_
        refine ev_neg (by simp) (ev_pos (by omega) (ev_pos (by omega) (ev_neg (by omega) ?_)))
        have ho := own_spec f1 f5 f3 f2
        rw [wrap_id (x := rd given j + 1) (by omega) (by omega)] at ho
        rw [ho, wrap_succ (by omega)]
        by_cases c2 : p.1 < 0
        · rw [if_pos (.inl c2)] at hih
          exact ev_pos c2 hih
        · refine ev_neg c2 ?_
          by_cases c3 : dOwn shares given all b j < p.2
          · rw [if_pos (.inr c3)] at hih
            exact ev_pos c3 hih
          · rw [if_neg (fun h => h.elim c2 c3)] at hih
            exact ev_neg c3 hih
theorem Dead_spec_l0 (shares : List Int) (hs : isShares shares = true) (b : Int) (hb : 0 ≤ b ∧ b ≤ 10000) : ∀ (d : Nat) (given out : List Int) (n : Int), n + d = tot shares + 1 → 1 ≤ n → out.length = n - 1 → DInv shares given →
    Ev (fun k => spec_l07Deadline.l0 k shares (tot shares) b out given n) (deadGo shares (tot shares) b d given out n) := by
  have ht := isShares_pos hs
  have hpos := ((isShares_iff shares).1 hs).1
  intro d
  induction d with
  | zero =>
    intro given out n hn h0 ho hi
    show Ev _ (out, true)
    refine Ev.step (fun k => by rw [spec_l07Deadline.l0]) ?_
    exact ev_neg (by omega) (ev_now _)
  | succ d ih =>
    intro given out n hn h0 ho hi
    have hG : DBnd shares given (tot shares) b n := ⟨hs, rfl, hi, hb, by omega⟩
    refine Ev.step (fun k => by rw [spec_l07Deadline.l0]) ?_
    refine ev_pos (by omega) (Dead_spec_l1 shares given out (tot shares) b n hG (by omega) _ ?_ shares.length 0 (by omega))
    have hr := dPick_range (dElig shares given (tot shares) b n) (dOwn shares given (tot shares) b) shares.length
    rw [deadGo]
    generalize dPick (dElig shares given (tot shares) b n) (dOwn shares given (tot shares) b) shares.length = p at hr ⊢
    refine Ev.step (fun k => by rw [spec_l07Deadline.l1]) ?_
    refine ev_neg (by omega) ?_
    rcases hr with hr | ⟨i, hi1, hr, hr2, he⟩
    · rw [if_pos (.inl (by omega))]
      exact ev_pos (by omega) (ev_now _)
    · refine ev_neg (by omega) ?_
      by_cases c : p.2 < n
      · rw [if_pos (.inr c)]
        exact ev_pos c (ev_now _)
      · rw [if_neg (by omega)]
        have hf := hG.facts i hi1
        simp only [dElig, Bool.and_eq_true, decide_eq_true_iff] at he
        refine ev_neg c (ev_pos (by omega) (ev_pos (by rw [hi.len]; omega) (ev_pos (by omega) ?_)))
        rw [hr, wrap_id (x := n + 1) (by omega) (by omega), wrap_id (x := rd given i + 1) (by omega) (by omega), Int.toNat_natCast]
        exact ih _ _ (n + 1) (by omega) (by omega) (by rw [List.length_append, List.length_singleton]; omega) (hi.next hi1 he.1)
theorem l07Deadline_ev (shares : List Int) (hs : isShares shares = true) (b : Int) (hb : 0 ≤ b ∧ b ≤ 10000) : Ev (fun k => spec_l07Deadline.f k shares (tot shares) b) (dead shares b) := by
  unfold spec_l07Deadline.f dead
  have hpos := ((isShares_iff shares).1 hs).1
  have ht := isShares_pos hs
  refine ev_pos (by omega) (ev_pos (by omega) ?_)
  rw [Int.toNat_natCast]
  exact Dead_spec_l0 shares hs b hb _ _ [] 1 (by omega) (by omega) (by simp) (DInv.start hs)
end Go.Proofs.Ytfmjckkgnieccaa.Pure
end
section
namespace Go.Proofs.Ytfmjckkgnieccaa.Pure
open Go.RowKit Go.Proofs.Ytfmjckkgnieccaa.P Go.Proofs.YtfmjckkgnieccaaW.PrintWords Go.Proofs.YtfmjckkgnieccaaW.PrintLast Go.Proofs.YtfmjckkgnieccaaW.PrintMore
set_option linter.unusedVariables false
set_option linter.unusedSimpArgs false
theorem tot_mono : ∀ (a b : List Int), a.length = b.length → (∀ i : Nat, i < a.length → rd b i ≤ rd a i) → tot b ≤ tot a := by
  intro a
  induction a with
  | nil => intro b h _; obtain rfl : b = [] := List.eq_nil_of_length_eq_zero (by simpa using h.symm); exact Int.le_refl _
  | cons x a ih =>
    intro b h hr
    match b, h with
    | y :: b, h =>
      have h1 := ih b (by simpa using h) (fun i hi => by
        have := hr (i + 1) (by simpa using hi)
        simpa [rd] using this)
      have h2 := hr 0 (by simp)
      simp only [tot]
      have h3 : y ≤ x := by simpa [rd] using h2
      omega
theorem tot_set (l : List Int) (i : Nat) (h : i < l.length) (x : Int) : tot (l.set i x) = tot l - rd l i + x := by
  induction l generalizing i with
  | nil => simp at h
  | cons y l ih =>
    cases i with
    | zero => simp [tot, rd]; omega
    | succ i =>
      have h1 := ih i (by simpa using h)
      have h2 : rd (y :: l) ((i + 1 : Nat) : Int) = rd l (i : Int) := by simp [rd]
      rw [List.set_cons_succ, tot, tot, h1, h2]
      omega
theorem dPick_some (elig : Nat → Bool) (own : Nat → Int) : ∀ j : Nat, (∃ i, i < j ∧ elig i = true) → 0 ≤ (dPick elig own j).1 := by
  intro j
  induction j with
  | zero => rintro ⟨i, h, _⟩; omega
  | succ j ih =>
    rintro ⟨i, hi, he⟩
    rw [dPick]
    by_cases hj : elig j = true
    · rw [if_pos hj]
      by_cases c : (dPick elig own j).1 < 0 ∨ own j < (dPick elig own j).2
      · rw [if_pos c]; simp
      · rw [if_neg c]; omega
    · rw [if_neg hj]
      refine ih ⟨i, ?_, he⟩
      have : i ≠ j := fun e => hj (e ▸ he)
      omega
theorem deadGo_ok (shares : List Int) (hs : isShares shares = true) (b : Int) (hb : 3600 ≤ b ∧ b ≤ 10000) : ∀ (d : Nat) (given out : List Int) (n : Int), n + d = tot shares + 1 → 1 ≤ n → DInv shares given → tot given = n - 1 →
    (deadGo shares (tot shares) b d given out n).2 = true := by
  have ht := isShares_pos hs
  intro d
  induction d with
  | zero => intros; rfl
  | succ d ih =>
    intro given out n hn h0 hi hg
    have hG : DBnd shares given (tot shares) b n := ⟨hs, rfl, hi, by omega, by omega⟩
    have hex : ∃ i, i < shares.length ∧ rd given i + 1 ≤ rd shares i := by
      refine Classical.byContradiction fun hno => ?_
      have h1 := tot_mono given shares hi.len (fun i hlt => by
        rw [hi.len] at hlt
        have h2 : ¬ rd given i + 1 ≤ rd shares i := fun h => hno ⟨i, hlt, h⟩
        omega)
      omega
    have hel : ∀ i, i < shares.length → rd given i + 1 ≤ rd shares i → dElig shares given (tot shares) b n i = true := by
      intro i hlt h
      have ⟨f1, f2, f3, f4, f5⟩ := hG.facts i hlt
      have h5 := mul60 (a := tot shares) (b := rd given i + 1) (A := 60) (B := 60) (by omega) (by omega)
      have h6 := mul60 (a := n) (b := rd shares i) (A := 60) (B := 60) (by omega) (by omega)
      rw [elig_second h, decide_eq_true_iff]
      omega
    obtain ⟨i, hi1, hi2⟩ := hex
    have hp := dPick_some (dElig shares given (tot shares) b n) (dOwn shares given (tot shares) b) shares.length ⟨i, hi1, hel i hi1 hi2⟩
    have hr := dPick_range (dElig shares given (tot shares) b n) (dOwn shares given (tot shares) b) shares.length
    rw [deadGo]
    generalize dPick (dElig shares given (tot shares) b n) (dOwn shares given (tot shares) b) shares.length = p at hr hp ⊢
    rcases hr with hr | ⟨j, hj1, hr, hr2, he⟩
    · omega
    · have ⟨f1, f2, f3, f4, f5⟩ := hG.facts j hj1
      have h5 := mul60 (a := tot shares) (b := rd given j) (A := 60) (B := 60) (by omega) (by omega)
      have how : dOwn shares given (tot shares) b j = tot shares := by
        have h7 : 60 ≤ (b + tot shares * rd given j) / rd shares j := (Int.le_ediv_iff_mul_le (by omega)).2 (by omega)
        rw [dOwn, mn, if_pos (by omega)]
      rw [if_neg (by omega), hr, Int.toNat_natCast]
      simp only [dElig, Bool.and_eq_true, decide_eq_true_iff] at he
      refine ih _ _ (n + 1) (by omega) (by omega) (hi.next hj1 he.1) ?_
      rw [tot_set _ _ (by rw [hi.len]; exact hj1)]
      omega
theorem tot_zeros (n : Nat) : tot (List.replicate n 0) = 0 := by
  induction n with
  | zero => rfl
  | succ n ih => rw [List.replicate_succ, tot, ih]; rfl
theorem dead_ok (shares : List Int) (hs : isShares shares = true) : (dead shares 3600).2 = true := by
  have ht := isShares_pos hs
  exact deadGo_ok shares hs 3600 (by omega) _ _ _ 1 (by omega) (by omega) (DInv.start hs) (by rw [tot_zeros]; rfl)
/-- the first number from b on for which there are deadline turns -/
def leastGo (f : Int → List Int × Bool) : Nat → Int → List Int × Int × Int
  | 0, b => ((f b).1, b, 0)
  | d + 1, b => if (f b).2 = true then ((f b).1, b, 0) else leastGo f d (b + 1)
theorem leastGo_from (f : Int → List Int × Bool) : ∀ (d : Nat) (b : Int), ∃ c, leastGo f d b = ((f c).1, c, 0) ∧ b ≤ c ∧ c ≤ b + d := by
  intro d
  induction d with
  | zero => intro b; exact ⟨b, rfl, by omega⟩
  | succ d ih =>
    intro b
    rw [leastGo]
    by_cases h : (f b).2 = true
    · exact ⟨b, by rw [if_pos h], by omega⟩
    · obtain ⟨c, h1, h2⟩ := ih (b + 1)
      exact ⟨c, by rw [if_neg h, h1], by omega⟩
def leastR (l : List Int) : List Int × Int × Int := if isShares l = true then leastGo (dead l) 3600 0 else ([], 0, 2)
end Go.Proofs.Ytfmjckkgnieccaa.Pure
end
section
namespace Go.Proofs.Ytfmjckkgnieccaa.Pure
set_option linter.unusedVariables false
set_option linter.unusedSimpArgs false
def sumTo (f : Nat → Int) : Nat → Int
  | 0 => 0
  | k + 1 => sumTo f k + f k
theorem sumTo_le {f g : Nat → Int} : ∀ k, (∀ i, i < k → f i ≤ g i) → sumTo f k ≤ sumTo g k := by
  intro k
  induction k with
  | zero => intro _; exact Int.le_refl _
  | succ k ih => intro h; have h1 := ih (fun i hi => h i (by omega)); have h2 := h k (by omega); simp only [sumTo]; omega
theorem sumTo_lt {f g : Nat → Int} : ∀ k, (∀ i, i < k → f i ≤ g i) → (∃ j, j < k ∧ f j < g j) → sumTo f k < sumTo g k := by
  intro k
  induction k with
  | zero => intro _ ⟨j, hj, _⟩; omega
  | succ k ih =>
    intro h ⟨j, hj, hlt⟩
    simp only [sumTo]
    by_cases e : j = k
    · subst e; have h1 := sumTo_le (f := f) (g := g) j (fun i hi => h i (by omega)); omega
    · have h1 := ih (fun i hi => h i (by omega)) ⟨j, by omega, hlt⟩; have h2 := h k (by omega); omega
theorem sumTo_zero : ∀ k, sumTo (fun _ => 0) k = 0 := by
  intro k
  induction k with
  | zero => rfl
  | succ k ih => simp only [sumTo]; rw [ih]; rfl
def hit (best : Nat → Int) (t i : Nat) : Int := if best t = (i : Int) then 1 else 0
def wrk (best : Nat → Int) : Nat → Nat → Int
  | 0, _ => 0
  | t + 1, i => wrk best t i + hit best t i
theorem hit_01 (best : Nat → Int) (t i : Nat) : hit best t i = 0 ∨ (hit best t i = 1 ∧ best t = (i : Int)) := by
  unfold hit; split
  · next h => exact .inr ⟨rfl, h⟩
  · exact .inl rfl
structure Edf (k : Nat) (l p d : Nat → Nat) (left due a e : Nat → Nat → Int) (best : Nat → Int) : Prop where
  pd : ∀ i, i < k → 1 ≤ p i ∧ 1 ≤ d i ∧ d i ≤ p i
  l0 : ∀ i, i < k → left 0 i = 0
  ha : ∀ t i, i < k → a t i = if t % p i = 0 then (l i : Int) else left t i
  he : ∀ t i, i < k → e t i = if t % p i = 0 then ((t + d i : Nat) : Int) else due t i
  hb : ∀ t, (best t = -1 ∧ ∀ i, i < k → a t i ≤ 0) ∨ ∃ b : Nat, best t = (b : Int) ∧ b < k ∧ a t b > 0 ∧ ∀ i, i < k → a t i > 0 → e t b ≤ e t i
  nl : ∀ t i, i < k → left (t + 1) i = a t i - hit best t i
  nd : ∀ t i, i < k → due (t + 1) i = e t i
variable {k : Nat} {l p d : Nat → Nat} {left due a e : Nat → Nat → Int} {best : Nat → Int}
theorem Edf.hit_pos (E : Edf k l p d left due a e best) (t i : Nat) (hi : i < k) (h : best t = (i : Int)) : a t i > 0 := by
  rcases E.hb t with ⟨h1, _⟩ | ⟨b, h1, _, h2, _⟩
  · omega
  · rw [show i = b by omega]; exact h2
structure At (l p d : Nat → Nat) (left due : Nat → Nat → Int) (best : Nat → Int) (s i : Nat) : Prop where
  lo : 0 ≤ left (s + 1) i
  hi : left (s + 1) i ≤ l i
  du : due (s + 1) i = ((s / p i * p i + d i : Nat) : Int)
  wk : left (s + 1) i + wrk best (s + 1) i = ((l i * (s / p i + 1) : Nat) : Int)
  ti : left (s + 1) i > 0 → ((s + 1 : Nat) : Int) ≤ due (s + 1) i
theorem Edf.at (E : Edf k l p d left due a e best) (T : Nat) (hT : ∀ u i, u < T → i < k → ¬ (left u i > 0 ∧ due u i = (u : Int))) : ∀ s, s + 1 ≤ T → ∀ i, i < k → At l p d left due best s i := by
  intro s
  induction s with
  | zero =>
    intro _ i hi
    have h1 := E.pd i hi
    have h2 := E.nl 0 i hi
    have h3 := E.nd 0 i hi
    rw [E.ha 0 i hi, if_pos (Nat.zero_mod _)] at h2
    rw [E.he 0 i hi, if_pos (Nat.zero_mod _)] at h3
    have h4 := E.hit_pos 0 i hi
    rw [E.ha 0 i hi, if_pos (Nat.zero_mod _)] at h4
    have h5 := hit_01 best 0 i
    refine ⟨?_, ?_, ?_, ?_, ?_⟩
    · rcases h5 with h5 | ⟨h5, h6⟩
      · omega
      · have := h4 h6; omega
    · omega
    · rw [h3, Nat.zero_div, Nat.zero_mul]
    · rw [h2, Nat.zero_div, Nat.zero_add, Nat.mul_one, wrk, wrk]; omega
    · intro _; rw [h3]; omega
  | succ s ih =>
    intro hs i hi
    have A := ih (by omega) i hi
    have h1 := E.pd i hi
    have h2 := E.nl (s + 1) i hi
    have h3 := E.nd (s + 1) i hi
    have h4 := E.hit_pos (s + 1) i hi
    have h5 := hit_01 best (s + 1) i
    have hno := hT (s + 1) i (by omega) hi
    have hw : wrk best (s + 1 + 1) i = wrk best (s + 1) i + hit best (s + 1) i := rfl
    have alo := A.lo
    have ahi := A.hi
    have adu := A.du
    have awk := A.wk
    have ati := A.ti
    by_cases c : (s + 1) % p i = 0
    · rw [E.ha _ i hi, if_pos c] at h2 h4
      rw [E.he _ i hi, if_pos c] at h3
      have hq : (s + 1) / p i = s / p i + 1 := Nat.succ_div_of_dvd (Nat.dvd_of_mod_eq_zero c)
      have hm : (s + 1) / p i * p i = s + 1 := Nat.div_mul_cancel (Nat.dvd_of_mod_eq_zero c)
      have hz : left (s + 1) i = 0 := by
        rw [hq, Nat.add_mul, Nat.one_mul] at hm
        rcases Decidable.em (0 < left (s + 1) i) with h | h
        · exact absurd ⟨h, by have := ati h; omega⟩ hno
        · omega
      refine ⟨?_, ?_, ?_, ?_, ?_⟩
      · rcases h5 with h5 | ⟨h5, h6⟩
        · omega
        · have := h4 h6; omega
      · omega
      · rw [h3, hm]
      · rw [hq, h2, hw]
        rw [Nat.mul_add (l i) (s / p i + 1) 1]
        omega
      · intro _; rw [h3]; omega
    · rw [E.ha _ i hi, if_neg c] at h2 h4
      rw [E.he _ i hi, if_neg c] at h3
      have hq : (s + 1) / p i = s / p i := Nat.succ_div_of_not_dvd (fun h => c (Nat.mod_eq_zero_of_dvd h))
      refine ⟨?_, ?_, ?_, ?_, ?_⟩
      · rcases h5 with h5 | ⟨h5, h6⟩
        · omega
        · have := h4 h6; omega
      · rcases h5 with h5 | ⟨h5, h6⟩ <;> omega
      · rw [h3, hq]; exact adu
      · rw [hq, h2, hw]; omega
      · intro hp
        rw [h3]
        have hp1 : left (s + 1) i > 0 := by rcases h5 with h5 | ⟨h5, h6⟩ <;> omega
        have := ati hp1
        have : due (s + 1) i ≠ ((s + 1 : Nat) : Int) := fun h => hno ⟨hp1, h⟩
        omega
theorem Edf.first (E : Edf k l p d left due a e best) (s : Nat) : ∀ t, t < s → (∀ u, t ≤ u → u < s → ∃ b : Nat, best u = (b : Int) ∧ b < k ∧ e u b ≤ s) →
    ∃ t0, t0 ≤ t ∧ (∀ u, t0 ≤ u → u < s → ∃ b : Nat, best u = (b : Int) ∧ b < k ∧ e u b ≤ s) ∧ ∀ i, i < k → left t0 i > 0 → due t0 i > s := by
  intro t
  induction t with
  | zero => intro _ h; exact ⟨0, by omega, h, fun i hi hp => by rw [E.l0 i hi] at hp; omega⟩
  | succ t ih =>
    intro ht h
    by_cases c : ∃ b : Nat, best t = (b : Int) ∧ b < k ∧ e t b ≤ s
    · obtain ⟨t0, h0, h1, h2⟩ := ih (by omega) (fun u hu hus => by
        by_cases e : u = t
        · subst e; exact c
        · exact h u (by omega) hus)
      exact ⟨t0, by omega, h1, h2⟩
    · refine ⟨t + 1, by omega, h, fun i hi hp => ?_⟩
      rw [E.nl t i hi] at hp
      rw [E.nd t i hi]
      have hp2 : a t i > 0 := by rcases hit_01 best t i with h | ⟨h, _⟩ <;> omega
      rcases E.hb t with ⟨_, h1⟩ | ⟨b, h1, h2, _, h3⟩
      · have := h1 i hi; omega
      · have := h3 i hi hp2
        have : ¬ e t b ≤ s := fun h => c ⟨b, h1, h2, h⟩
        omega
end Go.Proofs.Ytfmjckkgnieccaa.Pure
end
section
namespace Go.Proofs.Ytfmjckkgnieccaa.Pure
open Go.RowKit Go.Proofs.Ytfmjckkgnieccaa.P Go.Proofs.YtfmjckkgnieccaaW.PrintWords Go.Proofs.YtfmjckkgnieccaaW.PrintLast Go.Proofs.YtfmjckkgnieccaaW.PrintMore
set_option linter.unusedVariables false
set_option linter.unusedSimpArgs false
/-- the first index among the first n at which a key is least -/
def bst (key : Nat → Int) : Nat → Nat
  | 0 => 0
  | j + 1 => if key j < key (bst key j) then j else bst key j
theorem bst_lt (key : Nat → Int) (n : Nat) (h : 0 < n) : bst key n < n := by
  induction n with
  | zero => omega
  | succ n ih =>
    rw [bst]
    split
    · omega
    · rcases Nat.eq_zero_or_pos n with h0 | h0
      · subst h0; simp [bst]
      · have := ih h0; omega
def gKey (shares : List Int) (all n : Int) (many : List Int) (i : Nat) : Int := all * rd many i - (n + 1) * rd shares i
def greedyGo (shares : List Int) (all : Int) : Nat → List Int → List Int → Int → List Int
  | 0, _, out, _ => out
  | d + 1, many, out, n => greedyGo shares all d (many.set (bst (gKey shares all n many) shares.length) (rd many (bst (gKey shares all n many) shares.length : Nat) + 1)) (out ++ [(bst (gKey shares all n many) shares.length : Int)]) (n + 1)
/-- the greedy turns of shares -/
def greedy (shares : List Int) : List Int := greedyGo shares (tot shares) (tot shares).toNat (List.replicate shares.length 0) [] 0
def greedyR (shares : List Int) : List Int × Int := if isShares shares = true then (greedy shares, 0) else ([], 2)
/-- what holds of the numbers of turns ahead of the slot n -/
structure GInv (shares many : List Int) (n : Int) : Prop where
  len : many.length = shares.length
  bnd : ∀ i : Nat, i < many.length → 0 ≤ rd many i ∧ rd many i ≤ n
theorem GInv.start (shares : List Int) : GInv shares (List.replicate shares.length 0) 0 := ⟨by simp, fun i h => by rw [List.length_replicate] at h; simp [rd, List.getElem?_replicate, h]⟩
theorem GInv.next {shares many : List Int} {n : Int} (h : GInv shares many n) {b : Nat} (hb : b < shares.length) : GInv shares (many.set b (rd many b + 1)) (n + 1) := by
  refine ⟨by rw [List.length_set]; exact h.len, fun i hi => ?_⟩
  rw [List.length_set] at hi
  rw [rd_set (by rw [h.len]; exact hb)]
  have h1 := h.bnd i hi
  have h2 := h.bnd b (by rw [h.len]; exact hb)
  split <;> omega
structure GBnd (shares many : List Int) (all n : Int) : Prop where
  sh : isShares shares = true
  al : all = tot shares
  inv : GInv shares many n
  n0 : 0 ≤ n
  n1 : n < all
theorem GBnd.facts {shares many : List Int} {all n : Int} (h : GBnd shares many all n) (j : Nat) (hj : j < shares.length) :
    (0 ≤ all ∧ all ≤ 60) ∧ (0 ≤ rd many j ∧ rd many j ≤ 60) ∧ (1 ≤ rd shares j ∧ rd shares j ≤ 60) ∧ (0 ≤ n ∧ n ≤ 59) := by
  have h1 := isShares_pos h.sh
  have h2 := h.inv.bnd j (by rw [h.inv.len]; exact hj)
  have h3 := ((isShares_iff shares).1 h.sh).2.1 _ (List.getElem_mem hj)
  rw [← rd_nat hj] at h3
  have h4 := h.al; have h5 := h.n0; have h6 := h.n1
  omega
theorem mul_small {a b : Int} (ha : 0 ≤ a ∧ a ≤ 60) (hb : 0 ≤ b ∧ b ≤ 60) : 0 ≤ a * b ∧ a * b ≤ 3600 := by
  refine ⟨Int.mul_nonneg ha.1 hb.1, ?_⟩
  have h1 : a * b ≤ 60 * b := Int.mul_le_mul_of_nonneg_right ha.2 hb.1
  omega
theorem GBnd.key {shares many : List Int} {all n : Int} (h : GBnd shares many all n) (j : Nat) (hj : j < shares.length) :
    wrap64 ((wrap64 (all * (rd many j))) - (wrap64 ((wrap64 (n + 1)) * (rd shares j)))) = gKey shares all n many j := by
  have ⟨h1, h2, h3, h4⟩ := h.facts j hj
  have h5 := mul_small h1 h2
  have h6 := mul_small (a := n + 1) (b := rd shares j) (by omega) (by omega)
  rw [wrap_id (x := n + 1) (by omega) (by omega), wrap_id (x := all * rd many j) (by omega) (by omega), wrap_id (x := (n + 1) * rd shares j) (by omega) (by omega), wrap_id (by omega) (by omega)]
  rfl
theorem Greedy_spec_l1 (shares many out : List Int) (all n : Int) (hG : GBnd shares many all n) (hout : out.length < 17592186044416) (R : List Int × Int)
    (hR : Ev (fun k => spec_GreedyTurns.l0 k shares all (out ++ [(bst (gKey shares all n many) shares.length : Int)]) (many.set (bst (gKey shares all n many) shares.length) (rd many (bst (gKey shares all n many) shares.length : Nat) + 1)) (n + 1)) R) :
    ∀ d j : Nat, j + d = shares.length → Ev (fun k => spec_GreedyTurns.l1 k shares all out many n (bst (gKey shares all n many) j : Int) (shares.length : Int) (j : Int)) R := by
  have hlen := hG.inv.len
  have hpos := ((isShares_iff shares).1 hG.sh).1
  intro d
  induction d with
  | zero =>
    intro j hj
    have hb := bst_lt (gKey shares all n many) shares.length (by omega)
    have hf := hG.facts _ hb
    obtain rfl : j = shares.length := by omega
    refine Ev.step (fun k => by rw [spec_GreedyTurns.l1]) (ev_neg (by omega) (ev_pos (by omega) (ev_pos (by omega) (ev_pos hout ?_))))
    rw [wrap_id (x := n + 1) (by omega) (by omega), wrap_id (by omega) (by omega), Int.toNat_natCast]
    exact hR
  | succ d ih =>
    intro j hj
    have hbj : bst (gKey shares all n many) j < shares.length := by
      rcases Nat.eq_zero_or_pos j with h | h
      · subst h; simp [bst]; omega
      · have := bst_lt (gKey shares all n many) j h; omega
    refine Ev.step (fun k => by rw [spec_GreedyTurns.l1]) (ev_pos (by omega) (ev_pos (by omega) (ev_pos (by omega) (ev_pos (by omega) (ev_pos (by omega) (ev_pos (by omega) (ev_pos (by omega) ?_)))))))
    rw [hG.key j (by omega), hG.key _ hbj, wrap_succ (by omega)]
    have hih := ih (j + 1) (by omega)
    rw [bst] at hih
    by_cases hk : gKey shares all n many j < gKey shares all n many (bst (gKey shares all n many) j)
    · rw [if_pos hk] at hih; exact ev_pos hk hih
    · rw [if_neg hk] at hih; exact ev_neg hk hih
theorem Greedy_spec_l0 (shares : List Int) (hs : isShares shares = true) : ∀ (d : Nat) (many out : List Int) (n : Int), n + d = tot shares → 0 ≤ n → out.length = n → GInv shares many n →
    Ev (fun k => spec_GreedyTurns.l0 k shares (tot shares) out many n) (greedyGo shares (tot shares) d many out n, 0) := by
  have ht := isShares_pos hs
  intro d
  induction d with
  | zero =>
    intro many out n hn h0 ho hi
    show Ev _ (out, (0 : Int))
    refine Ev.step (fun k => by rw [spec_GreedyTurns.l0]) ?_
    exact ev_neg (by omega) (ev_now _)
  | succ d ih =>
    intro many out n hn h0 ho hi
    have hpos := ((isShares_iff shares).1 hs).1
    have hb := bst_lt (gKey shares (tot shares) n many) shares.length (by omega)
    refine Ev.step (fun k => by rw [spec_GreedyTurns.l0]) (ev_pos (by omega) ?_)
    refine Greedy_spec_l1 shares many out (tot shares) n ⟨hs, rfl, hi, h0, by omega⟩ (by omega) _ ?_ shares.length 0 (by omega)
    exact ih _ _ (n + 1) (by omega) (by omega) (by rw [List.length_append, List.length_singleton]; omega) (hi.next hb)
theorem spec_Greedy_ev (l : List Int) (hl : l.length ≤ 1048576) : Ev (fun k => spec_GreedyTurns.f k l) (greedyR l) := by
  unfold spec_GreedyTurns.f greedyR
  refine ev_bind (l07Sum_ev l hl) ?_
  by_cases hs : isShares l = true
  · have ht := isShares_pos hs
    rw [if_pos hs, if_pos hs]
    refine ev_neg (by omega) (ev_pos (by omega) (ev_pos (by omega) ?_))
    rw [Int.toNat_natCast]
    exact Greedy_spec_l0 l hs (tot l).toNat _ [] 0 (by omega) (by omega) rfl (GInv.start l)
  · rw [if_neg hs, if_neg hs]
    exact ev_pos rfl (ev_now _)
end Go.Proofs.Ytfmjckkgnieccaa.Pure
end
section
namespace Go.Proofs.Ytfmjckkgnieccaa.Pure
open Go.RowKit Go.Proofs.Ytfmjckkgnieccaa.P Go.Proofs.YtfmjckkgnieccaaW.PrintWords Go.Proofs.YtfmjckkgnieccaaW.PrintLast Go.Proofs.YtfmjckkgnieccaaW.PrintMore
set_option linter.unusedVariables false
set_option linter.unusedSimpArgs false
theorem sumTo_mul (c : Int) (f : Nat → Int) : ∀ k, sumTo (fun i => c * f i) k = c * sumTo f k := by
  intro k
  induction k with
  | zero => simp [sumTo]
  | succ k ih => simp only [sumTo]; rw [ih, Int.mul_add]
theorem sumTo_sub (f g : Nat → Int) : ∀ k, sumTo (fun i => f i - g i) k = sumTo f k - sumTo g k := by
  intro k
  induction k with
  | zero => rfl
  | succ k ih => simp only [sumTo]; rw [ih]; omega
theorem sumTo_rd (l : List Int) : ∀ n, n ≤ l.length → sumTo (fun i => rd l (i : Int)) n = tot (l.take n) := by
  intro n
  induction n with
  | zero => intro _; simp [sumTo, tot]
  | succ n ih =>
    intro h
    rw [tot_take_succ l n (by omega)]
    simp only [sumTo]
    rw [ih (by omega), rd_nat (by omega)]
theorem sumTo_rd_all (l : List Int) : sumTo (fun i => rd l (i : Int)) l.length = tot l := by
  rw [sumTo_rd l l.length (Nat.le_refl _), List.take_of_length_le (Nat.le_refl _)]
/-- turns with the shares, whose differences are at most b -/
structure Fair (shares y : List Int) : Prop where
  len : (y.length : Int) = tot shares
  mem : ∀ x ∈ y, 0 ≤ x ∧ x < (shares.length : Int)
  cnt : ∀ i : Nat, i < shares.length → cnt (i : Int) y = rd shares (i : Int)
theorem tot_le_eq : ∀ (a b : List Int), a.length = b.length → (∀ i : Nat, i < a.length → rd a (i : Int) ≤ rd b (i : Int)) → tot b ≤ tot a → ∀ i : Nat, i < a.length → rd a (i : Int) = rd b (i : Int) := by
  intro a b hl h ht i hi
  refine Classical.byContradiction fun hne => ?_
  have h1 := sumTo_lt (f := fun i => rd a (i : Int)) (g := fun i => rd b (i : Int)) a.length (fun j hj => h j hj) ⟨i, hi, by have := h i hi; show rd a (i : Int) < rd b (i : Int); omega⟩
  rw [sumTo_rd_all, hl, sumTo_rd_all] at h1
  omega
theorem deadGo_trace (shares : List Int) (hs : isShares shares = true) (b : Int) (hb : 0 ≤ b) : ∀ (d : Nat) (given out : List Int) (n : Int), n + d = tot shares + 1 → 1 ≤ n → DInv shares given → tot given = n - 1 →
    (∀ i : Nat, i < shares.length → tot shares * rd given (i : Int) - (n - 1) * rd shares (i : Int) ≤ b) → (deadGo shares (tot shares) b d given out n).2 = true →
    ∃ w, (deadGo shares (tot shares) b d given out n).1 = out ++ w ∧ w.length = d ∧ (∀ x ∈ w, 0 ≤ x ∧ x < (shares.length : Int)) ∧ (∀ i : Nat, i < shares.length → rd given (i : Int) + cnt (i : Int) w = rd shares (i : Int)) ∧
      (∀ i : Nat, i < shares.length → ∀ m : Nat, m ≤ d → -b ≤ tot shares * (rd given (i : Int) + cnt (i : Int) (w.take m)) - (n - 1 + m) * rd shares (i : Int) ∧ tot shares * (rd given (i : Int) + cnt (i : Int) (w.take m)) - (n - 1 + m) * rd shares (i : Int) ≤ b) := by
  have ht := isShares_pos hs
  have hsh : ∀ i : Nat, i < shares.length → 1 ≤ rd shares (i : Int) := fun i h => by rw [rd_nat h]; exact (((isShares_iff shares).1 hs).2.1 _ (List.getElem_mem h)).1
  intro d
  induction d with
  | zero =>
    intro given out n hn h0 hi hg hU _
    have he : ∀ i : Nat, i < shares.length → rd given (i : Int) = rd shares (i : Int) := fun i h => tot_le_eq given shares hi.len (fun j hj => (hi.bnd j (by rw [← hi.len]; exact hj)).2) (by omega) i (by rw [hi.len]; exact h)
    refine ⟨[], by simp [deadGo], rfl, by simp, fun i h => by rw [he i h]; simp [cnt], fun i h m hm => ?_⟩
    obtain rfl : m = 0 := by omega
    rw [he i h, List.take_nil]
    simp only [cnt, Int.add_zero]
    rw [show n - 1 + ((0 : Nat) : Int) = tot shares by omega, Int.sub_self]
    omega
  | succ d ih =>
    intro given out n hn h0 hi hg hU
    rw [deadGo]
    have hr := dPick_range (dElig shares given (tot shares) b n) (dOwn shares given (tot shares) b) shares.length
    generalize dPick (dElig shares given (tot shares) b n) (dOwn shares given (tot shares) b) shares.length = p at hr ⊢
    by_cases c : p.1 < 0 ∨ p.2 < n
    · rw [if_pos c]; intro h; exact absurd h (by simp)
    · rw [if_neg c]
      rcases hr with hr | ⟨j, hj, hr, hr2, he⟩
      · omega
      · have hjb := hi.bnd j hj
        simp only [dElig, Bool.and_eq_true, decide_eq_true_iff] at he
        have hset : ∀ i : Nat, rd (given.set j (rd given (j : Int) + 1)) (i : Int) = if i = j then rd given (j : Int) + 1 else rd given (i : Int) := fun i => rd_set (by rw [hi.len]; exact hj)
        rw [hr, Int.toNat_natCast]
        intro hok
        obtain ⟨w, e1, e2, e3, e4, e5⟩ := ih (given.set j (rd given (j : Int) + 1)) (out ++ [(j : Int)]) (n + 1) (by omega) (by omega) (hi.next hj he.1) (by rw [tot_set _ _ (by rw [hi.len]; exact hj)]; omega) (fun i hlt => by
          rw [hset]
          by_cases e : i = j
          · subst e; rw [if_pos rfl, show n + 1 - 1 = n by omega]; exact he.2
          · rw [if_neg e, show (n + 1 - 1) * rd shares (i : Int) = (n - 1) * rd shares (i : Int) + rd shares (i : Int) by rw [show n + 1 - 1 = (n - 1) + 1 by omega, Int.add_mul, Int.one_mul]]
            have h1 := hU i hlt
            have h2 := hsh i hlt
            omega) hok
        have hrd : ∀ i : Nat, i < shares.length → ∀ x : Int, rd (given.set j (rd given (j : Int) + 1)) (i : Int) + x = rd given (i : Int) + ((if (j : Int) = (i : Int) then 1 else 0) + x) := by
          intro i hlt x
          rw [hset]
          by_cases e : i = j
          · subst e; rw [if_pos rfl, if_pos rfl]; omega
          · rw [if_neg e, if_neg (by omega)]; omega
        refine ⟨(j : Int) :: w, by rw [e1, List.append_assoc]; rfl, by rw [List.length_cons, e2], fun x hx => ?_, fun i hlt => ?_, fun i hlt m hm => ?_⟩
        · rcases List.mem_cons.1 hx with rfl | hx
          · omega
          · exact e3 x hx
        · have h1 := e4 i hlt
          rw [hrd i hlt] at h1
          exact h1
        · cases m with
          | zero =>
            rw [List.take_zero]
            simp only [cnt, Int.add_zero]
            rw [show n - 1 + ((0 : Nat) : Int) = n - 1 by omega]
            refine ⟨?_, hU i hlt⟩
            by_cases e : i = j
            · subst e
              have h1 : n ≤ dOwn shares given (tot shares) b i := by omega
              have h2 : n - 1 ≤ (b + tot shares * rd given (i : Int)) / rd shares (i : Int) := by
                unfold dOwn mn at h1; split at h1 <;> omega
              rw [Int.le_ediv_iff_mul_le (by have := hsh i hlt; omega)] at h2
              omega
            · have h1 := (e5 i hlt 0 (by omega)).1
              rw [List.take_zero, hrd i hlt, if_neg (by omega)] at h1
              simp only [cnt, Int.add_zero] at h1
              rw [show (n + 1 - 1 + ((0 : Nat) : Int)) * rd shares (i : Int) = (n - 1) * rd shares (i : Int) + rd shares (i : Int) by rw [show n + 1 - 1 + ((0 : Nat) : Int) = (n - 1) + 1 by omega, Int.add_mul, Int.one_mul]] at h1
              have h2 := hsh i hlt
              omega
          | succ m =>
            have h1 := e5 i hlt m (by omega)
            rw [hrd i hlt, show n + 1 - 1 + (m : Int) = n - 1 + ((m + 1 : Nat) : Int) by omega] at h1
            rw [List.take_succ_cons]
            exact h1
/-- deadline turns have the shares, and differences of at most the number -/
theorem dead_is_fair (shares : List Int) (hs : isShares shares = true) (b : Int) (hb : 0 ≤ b) (h : (dead shares b).2 = true) : Fair shares (dead shares b).1 ∧ ∀ i, i < shares.length → ∀ m, m ≤ (dead shares b).1.length → -b ≤ dif (dead shares b).1 m i ∧ dif (dead shares b).1 m i ≤ b := by
  have ht := isShares_pos hs
  have hz : ∀ i : Nat, i < shares.length → rd (List.replicate shares.length 0) (i : Int) = 0 := fun i h => by simp [rd, List.getElem?_replicate, h]
  obtain ⟨w, e1, e2, e3, e4, e5⟩ := deadGo_trace shares hs b hb (tot shares).toNat (List.replicate shares.length 0) [] 1 (by omega) (by omega) (DInv.start hs) (by rw [tot_zeros]; rfl) (fun i hi => by rw [hz i hi]; simp; omega) h
  rw [List.nil_append] at e1
  have e : (dead shares b).1 = w := e1
  rw [e]
  have hl : (w.length : Int) = tot shares := by omega
  have hc : ∀ i : Nat, i < shares.length → cnt (i : Int) w = rd shares (i : Int) := fun i hi => by have := e4 i hi; rw [hz i hi] at this; omega
  refine ⟨⟨hl, e3, hc⟩, fun i hi m hm => ?_⟩
  have h1 := e5 i hi m (by omega)
  rw [hz i hi, Int.zero_add, show (1 : Int) - 1 + (m : Int) = (m : Int) by omega] at h1
  unfold dif
  rw [hl, hc i hi]
  exact h1
theorem bst_min (key : Nat → Int) : ∀ n i : Nat, i < n → key (bst key n) ≤ key i := by
  intro n
  induction n with
  | zero => intro i hi; omega
  | succ n ih =>
    intro i hi
    rw [bst]
    split
    · next h =>
      by_cases e : i = n
      · subst e; exact Int.le_refl _
      · have := ih i (by omega); omega
    · next h =>
      by_cases e : i = n
      · subst e; omega
      · exact ih i (by omega)
theorem greedyGo_trace (shares : List Int) (hs : isShares shares = true) : ∀ (d : Nat) (given out : List Int) (n : Int), n + d = tot shares → 0 ≤ n → DInv shares given → tot given = n →
    ∃ w, greedyGo shares (tot shares) d given out n = out ++ w ∧ w.length = d ∧ (∀ x ∈ w, 0 ≤ x ∧ x < (shares.length : Int)) ∧ (∀ i : Nat, i < shares.length → rd given (i : Int) + cnt (i : Int) w = rd shares (i : Int)) := by
  have ht := isShares_pos hs
  have hpos := ((isShares_iff shares).1 hs).1
  intro d
  induction d with
  | zero =>
    intro given out n hn h0 hi hg
    have he : ∀ i : Nat, i < shares.length → rd given (i : Int) = rd shares (i : Int) := fun i h => tot_le_eq given shares hi.len (fun j hj => (hi.bnd j (by rw [← hi.len]; exact hj)).2) (by omega) i (by rw [hi.len]; exact h)
    exact ⟨[], by simp [greedyGo], rfl, by simp, fun i h => by rw [he i h]; simp [cnt]⟩
  | succ d ih =>
    intro given out n hn h0 hi hg
    have hsum : sumTo (gKey shares (tot shares) n given) shares.length = -(tot shares) := by
      have e : gKey shares (tot shares) n given = fun (i : Nat) => tot shares * rd given (i : Int) - (n + 1) * rd shares (i : Int) := rfl
      rw [e, sumTo_sub, sumTo_mul, sumTo_mul, sumTo_rd_all, ← hi.len, sumTo_rd_all, hg, Int.add_mul, Int.one_mul, Int.mul_comm]
      omega
    have hneg : ∃ i, i < shares.length ∧ gKey shares (tot shares) n given i < 0 := by
      refine Classical.byContradiction fun hno => ?_
      have h1 := sumTo_le (f := fun _ => 0) (g := gKey shares (tot shares) n given) shares.length fun i hlt => by
        show 0 ≤ gKey shares (tot shares) n given i
        exact Int.not_lt.1 fun h => hno ⟨i, hlt, h⟩
      rw [sumTo_zero, hsum] at h1
      omega
    obtain ⟨i0, hi0, hk0⟩ := hneg
    have hb1 := bst_min (gKey shares (tot shares) n given) shares.length i0 hi0
    have hj := bst_lt (gKey shares (tot shares) n given) shares.length (by omega)
    rw [greedyGo]
    generalize bst (gKey shares (tot shares) n given) shares.length = j at hb1 hj ⊢
    have hjb := hi.bnd j hj
    have hlt : rd given (j : Int) + 1 ≤ rd shares (j : Int) := by
      have h1 : tot shares * rd given (j : Int) - (n + 1) * rd shares (j : Int) < 0 := by
        have : gKey shares (tot shares) n given j < 0 := by omega
        exact this
      have h2 : (n + 1) * rd shares (j : Int) ≤ tot shares * rd shares (j : Int) := Int.mul_le_mul_of_nonneg_right (by omega) (by omega)
      have h3 := Int.lt_of_mul_lt_mul_left (a := tot shares) (b := rd given (j : Int)) (c := rd shares (j : Int)) (by omega) (by omega)
      omega
    have hset : ∀ i : Nat, rd (given.set j (rd given (j : Int) + 1)) (i : Int) = if i = j then rd given (j : Int) + 1 else rd given (i : Int) := fun i => rd_set (by rw [hi.len]; exact hj)
    obtain ⟨w, e1, e2, e3, e4⟩ := ih (given.set j (rd given (j : Int) + 1)) (out ++ [(j : Int)]) (n + 1) (by omega) (by omega) (hi.next hj hlt) (by rw [tot_set _ _ (by rw [hi.len]; exact hj)]; omega)
    refine ⟨(j : Int) :: w, by rw [e1, List.append_assoc]; rfl, by rw [List.length_cons, e2], fun x hx => ?_, fun i hil => ?_⟩
    · rcases List.mem_cons.1 hx with rfl | hx
      · omega
      · exact e3 x hx
    · have h1 := e4 i hil
      rw [hset] at h1
      simp only [cnt]
      by_cases e : i = j
      · subst e; rw [if_pos rfl] at h1 ⊢; omega
      · rw [if_neg e] at h1; rw [if_neg (by omega)]; omega
theorem greedy_is_fair (shares : List Int) (hs : isShares shares = true) : Fair shares (greedy shares) := by
  have ht := isShares_pos hs
  have hz : ∀ i : Nat, i < shares.length → rd (List.replicate shares.length 0) (i : Int) = 0 := fun i h => by simp [rd, List.getElem?_replicate, h]
  obtain ⟨w, e1, e2, e3, e4⟩ := greedyGo_trace shares hs (tot shares).toNat (List.replicate shares.length 0) [] 0 (by omega) (by omega) (DInv.start hs) (by rw [tot_zeros])
  rw [List.nil_append] at e1
  have e : greedy shares = w := e1
  rw [e]
  exact ⟨by omega, e3, fun i hi => by have := e4 i hi; rw [hz i hi] at this; omega⟩
end Go.Proofs.Ytfmjckkgnieccaa.Pure
end
section
namespace Go.Proofs.Ytfmjckkgnieccaa.Pure
open Go.RowKit Go.Proofs.Ytfmjckkgnieccaa.P Go.Proofs.YtfmjckkgnieccaaW.PrintWords Go.Proofs.YtfmjckkgnieccaaW.PrintLast Go.Proofs.YtfmjckkgnieccaaW.PrintMore
set_option linter.unusedVariables false
set_option linter.unusedSimpArgs false
theorem Least_spec_l0 (l : List Int) (hs : isShares l = true) : ∀ (d : Nat) (b : Int), b + d = 3600 → 0 ≤ b → Ev (fun k => spec_LeastDifference.l0 k l (tot l) b) (leastGo (dead l) d b) := by
  intro d
  induction d with
  | zero =>
    intro b hb h0
    obtain rfl : b = 3600 := by omega
    refine Ev.step (fun k => by rw [spec_LeastDifference.l0]) ?_
    exact ev_bind (l07Deadline_ev l hs 3600 (by omega)) (ev_pos (dead_ok l hs) (ev_now _))
  | succ d ih =>
    intro b hb h0
    refine Ev.step (fun k => by rw [spec_LeastDifference.l0]) ?_
    refine ev_bind (l07Deadline_ev l hs b (by omega)) ?_
    rw [leastGo]
    by_cases h : (dead l b).2 = true
    · rw [if_pos h]; exact ev_pos h (ev_now _)
    · rw [if_neg h]
      refine ev_neg h ?_
      rw [wrap_id (by omega) (by omega)]
      exact ih (b + 1) (by omega) (by omega)
theorem spec_Least_ev (l : List Int) (hl : l.length ≤ 1048576) : Ev (fun k => spec_LeastDifference.f k l) (leastR l) := by
  unfold spec_LeastDifference.f leastR
  refine ev_bind (l07Sum_ev l hl) ?_
  by_cases hs : isShares l = true
  · have ht := isShares_pos hs
    rw [if_pos hs, if_pos hs]
    exact ev_neg (by omega) (Least_spec_l0 l hs 3600 0 (by omega) (by omega))
  · rw [if_neg hs, if_neg hs]
    exact ev_pos rfl (ev_now _)
end Go.Proofs.Ytfmjckkgnieccaa.Pure
end
section
namespace Go.Proofs.Ytfmjckkgnieccaa.Pure
open Go.RowKit Go.Proofs.Ytfmjckkgnieccaa.P Go.Proofs.YtfmjckkgnieccaaW.PrintWords Go.Proofs.YtfmjckkgnieccaaW.PrintLast Go.Proofs.YtfmjckkgnieccaaW.PrintMore
set_option linter.unusedVariables false
set_option linter.unusedSimpArgs false
theorem leastGo_ok {l : List Int} (hs : isShares l = true) {c : Int} (h : leastGo (dead l) 3600 0 = ((dead l c).1, c, 0)) : (dead l c).2 = true := by
  have main : ∀ (d : Nat) (b : Int), b + d = 3600 → ∀ c, leastGo (dead l) d b = ((dead l c).1, c, 0) → (dead l c).2 = true := by
    intro d
    induction d with
    | zero =>
      intro b hb c h
      rw [leastGo] at h
      have : b = c := by simpa using congrArg (fun p => p.2.1) h
      rw [← this, show b = 3600 by omega]
      exact dead_ok l hs
    | succ d ih =>
      intro b hb c h
      rw [leastGo] at h
      by_cases e : (dead l b).2 = true
      · rw [if_pos e] at h
        have : b = c := by simpa using congrArg (fun p => p.2.1) h
        rw [← this]; exact e
      · rw [if_neg e] at h
        exact ih (b + 1) (by omega) c h
  exact main 3600 0 (by omega) c h
end Go.Proofs.Ytfmjckkgnieccaa.Pure
end
section
namespace Go.Proofs.Ytfmjckkgnieccaa.Pure
open Go.RowKit Go.Proofs.Ytfmjckkgnieccaa.P Go.Proofs.YtfmjckkgnieccaaW.PrintWords Go.Proofs.YtfmjckkgnieccaaW.PrintLast Go.Proofs.YtfmjckkgnieccaaW.PrintMore
set_option linter.unusedVariables false
set_option linter.unusedSimpArgs false
theorem mn_low (a b : Int) : mn a b ≤ a ∧ mn a b ≤ b ∧ (mn a b = a ∨ mn a b = b) := by unfold mn; split <;> omega
theorem tot_snoc (l : List Int) (x : Int) : tot (l ++ [x]) = tot l + x := by
  induction l with
  | nil => simp [tot]
  | cons y l ih => rw [List.cons_append, tot, tot, ih]; omega
theorem DrawShares_l0 {b : List Int} (hb : Bytes b) : ∀ (d : Nat) (l : List Int) (left i h : Int), d ≤ 100 → l.length + d ≤ 8 → 1 ≤ l.length → (∀ x ∈ l, 1 ≤ x ∧ x ≤ 60) → 0 ≤ left → tot l + left ≤ 60 → Ok b i →
    EvP (fun k => spec_l07DrawShares.l0 k l left (d : Int) b i h) (fun r => isShares r.1 = true ∧ Ok b r.2.1) := by
  intro d
  induction d with
  | zero =>
    intro l left i h _ hl h1 hx h0 ht hi
    have : isShares l = true := (isShares_iff l).2 ⟨by omega, hx, by omega⟩
    refine evp_step (fun k => by rw [spec_l07DrawShares.l0]) (evp_neg (by omega) ?_)
    refine evp_step (fun k => by rw [spec_l07DrawShares.j1]) ?_
    exact evp_neg (by simp) (evp_now ⟨this, hi⟩)
  | succ d ih =>
    intro l left i h hd hl h1 hx h0 ht hi
    refine evp_step (fun k => by rw [spec_l07DrawShares.l0]) (evp_pos (by omega) ?_)
    refine evp_step (fun k => by rw [spec_l07DrawShares.j1]) ?_
    by_cases c : left > 0
    · rw [decide_eq_true c]
      refine evp_pos rfl (evp_pick hb hi (by decide) fun p i2 h2 hp hi2 => evp_next hb hi2 fun v i3 h3 v0 v1 v2 hi3 => ?_)
      have hp2 : 2 ≤ p := by simp at hp; omega
      have hm := mn_low left p
      have hv : v < mn left p := v1 (show 1 ≤ mn left p by omega)
      have hv2 : v < left := by omega
      have hb1 := tot_bounds 1 60 l hx
      rw [wrap_id (x := 1 + v) (by omega) (by omega), wrap_id (x := left - (1 + v)) (by omega) (by omega), wrap_id (x := ((d + 1 : Nat) : Int) - 1) (by omega) (by omega), show ((d + 1 : Nat) : Int) - 1 = (d : Int) by omega]
      refine evp_pos (by omega) (ih (l ++ [1 + v]) (left - (1 + v)) i3 h3 (by omega) (by rw [List.length_append, List.length_singleton]; omega) (by rw [List.length_append, List.length_singleton]; omega) ?_ (by omega) (by rw [tot_snoc]; omega) hi3)
      intro x hx'
      rcases List.mem_append.1 hx' with e | e
      · exact hx x e
      · rw [List.mem_singleton.1 e]; omega
    · rw [decide_eq_false c]
      have : isShares l = true := (isShares_iff l).2 ⟨by omega, hx, by omega⟩
      exact evp_neg (by simp) (evp_now ⟨this, hi⟩)
theorem DrawShares_evp {b : List Int} (hb : Bytes b) {i : Int} (hi : Ok b i) (h a : Int) (ha : 5 ≤ a ∧ a ≤ 60) : EvP (fun k => spec_l07DrawShares.f k b i h a) (fun r => isShares r.1 = true ∧ Ok b r.2.1) := by
  unfold spec_l07DrawShares.f
  refine evp_next hb hi fun v i2 h2 v0 v1 v2 hi2 => evp_next hb hi2 fun u i3 h3 u0 u1 u2 hi3 => ?_
  have hv := v1 (by omega)
  have hu := u1 (by omega)
  obtain ⟨m, rfl⟩ : ∃ m : Nat, u = m := ⟨u.toNat, by omega⟩
  show EvP (fun k => spec_l07DrawShares.l0 k [wrap64 (1 + v)] (wrap64 (a - 5)) (m : Int) b i3 h3) _
  rw [wrap_id (x := 1 + v) (by omega) (by omega), wrap_id (x := a - 5) (by omega) (by omega)]
  refine DrawShares_l0 hb m [1 + v] (a - 5) i3 h3 (by omega) (by simp; omega) (by simp) ?_ (by omega) ?_ hi3
  · intro x hx; rw [List.mem_singleton.1 hx]; omega
  · simp only [tot]; omega
theorem BadTurns_evp {b : List Int} (hb : Bytes b) {i : Int} (hi : Ok b i) (h : Int) (l : List Int) (hl : 1 ≤ l.length ∧ l.length ≤ 1000) : EvP (fun k => spec_l01BadTurns.f k b i h l) (fun r => r.1.length ≤ 1000 ∧ Ok b r.2.1) := by
  have loop : ∀ (d : Nat) (x : List Int) (i h : Int), x.length ≤ 1000 → x.length + d ≥ 121 → Ok b i → EvP (fun k => spec_l01BadTurns.l0 k x b i h) (fun r => r.1.length ≤ 1000 ∧ Ok b r.2.1) := by
    intro d
    induction d with
    | zero =>
      intro x i h hx h9 hi
      exact evp_step (fun k => by rw [spec_l01BadTurns.l0]) (evp_neg (by omega) (evp_now ⟨hx, hi⟩))
    | succ d ih =>
      intro x i h hx h9 hi
      refine evp_step (fun k => by rw [spec_l01BadTurns.l0]) (evp_ite (fun c => evp_pos (by omega) ?_) (fun c => evp_now ⟨hx, hi⟩))
      exact ih _ i h (by rw [List.length_append, List.length_singleton]; omega) (by rw [List.length_append, List.length_singleton]; omega) hi
  unfold spec_l01BadTurns.f
  refine evp_fix (l01Own_f l (by omega)) (evp_next hb hi fun v i2 h2 v0 v1 v2 hi2 => evp_ite (fun _ => evp_now ⟨by simp, hi2⟩) (fun _ => evp_ite (fun _ => ?_) (fun _ => evp_ite (fun _ => loop 121 l i2 h2 hl.2 (by omega) hi2) (fun _ => evp_now ⟨hl.2, hi2⟩))))
  refine evp_next hb hi2 fun u i3 h3 u0 u1 u2 hi3 => evp_pick hb hi3 (by decide) fun t i4 h4 ht hi4 => evp_pos u0 (evp_pos (u1 (by omega)) (evp_now ⟨?_, hi4⟩))
  show (l.set _ _).length ≤ 1000
  rw [List.length_set]; omega
theorem L07Draw_j2 {b : List Int} (hb : Bytes b) {i : Int} (hi : Ok b i) (h : Int) (l : List Int) (hl : 1 ≤ l.length ∧ l.length ≤ 900) : EvP (fun k => spec_l07Draw.j2 k l b i h) (fun r => r.1.length ≤ 1000 ∧ Ok b r.2.1) := by
  have bad : ∀ (x : List Int) (i h : Int), Ok b i → 1 ≤ x.length ∧ x.length ≤ 1000 → EvP (fun k => (spec_l01BadTurns.f k b i h x).bind fun bt => some (bt.1, bt.2.1, bt.2.2)) (fun r => r.1.length ≤ 1000 ∧ Ok b r.2.1) := fun x i h hi hx =>
    evp_bind (BadTurns_evp hb hi h x hx) fun r hr => evp_now hr
  refine evp_step (fun k => by rw [spec_l07Draw.j2]) ?_
  refine evp_next hb hi fun v i2 h2 v0 v1 v2 hi2 => evp_ite (fun _ => evp_fix rfl (evp_pos ?_ (bad _ i2 h2 hi2 ?_))) (fun _ => evp_ite (fun _ => evp_fix rfl (evp_pos ?_ (bad _ i2 h2 hi2 ?_))) (fun _ => bad _ i2 h2 hi2 ⟨hl.1, by omega⟩))
  · show l.length + 1 < 17592186044416
    omega
  · rw [List.length_append, List.length_singleton]; omega
  · show l.length + 1 < 17592186044416
    omega
  · rw [List.length_append, List.length_singleton]; omega
theorem L07Draw_l1 {b : List Int} (hb : Bytes b) (sh : List Int) (i : Nat) (T : Nat) (hT : T ≤ 1000) {P : List Int × Int × Int → Prop} (hi : i < 1000)
    (K : ∀ l j h, l.length = T → Ok b j → EvP (fun k => spec_l07Draw.l0 k sh l (sh.length : Int) ((i + 1 : Nat) : Int) b j h) P) : ∀ (n : Nat) (l : List Int) (j h : Int), l.length + n = T → Ok b j →
    EvP (fun k => spec_l07Draw.l1 k sh l (i : Int) (n : Int) (sh.length : Int) (i : Int) b j h) P := by
  intro n
  induction n with
  | zero =>
    intro l j h hl hj
    refine evp_step (fun k => by rw [spec_l07Draw.l1]) (evp_neg (by omega) ?_)
    rw [wrap_succ (n := i) (by omega)]
    exact K l j h (by omega) hj
  | succ n ih =>
    intro l j h hl hj
    refine evp_step (fun k => by rw [spec_l07Draw.l1]) (evp_pos (by omega) ?_)
    rw [wrap_id (x := (l.length : Int) + 1) (by omega) (by omega)]
    refine evp_next hb hj fun v i2 h2 v0 v1 v2 hi2 => ?_
    have hv := v1 (by omega)
    refine evp_pos v0 (evp_pos (show v ≤ (l.length : Int) by omega) (evp_fix (l01Own_f _ (by rw [List.length_take]; omega)) (evp_fix rfl (evp_pos ?_ (evp_fix rfl (evp_fix rfl (evp_pos ?_ ?_)))))))
    · show (l.take v.toNat).length + 1 < 17592186044416
      rw [List.length_take]; omega
    · show (l.take v.toNat ++ [(i : Int)]).length + (l.drop v.toNat).length < 17592186044416
      rw [List.length_append, List.length_take, List.length_drop, List.length_singleton]; omega
    · rw [wrap_id (x := ((n + 1 : Nat) : Int) - 1) (by omega) (by omega), show ((n + 1 : Nat) : Int) - 1 = (n : Int) by omega]
      refine ih _ i2 h2 ?_ hi2
      show (l.take v.toNat ++ [(i : Int)] ++ l.drop v.toNat).length + n = T
      rw [List.length_append, List.length_append, List.length_take, List.length_drop, List.length_singleton]; omega
theorem L07Draw_l0 {b : List Int} (hb : Bytes b) (sh : List Int) (hs : isShares sh = true) : ∀ (d i : Nat) (l : List Int) (j h : Int), i + d = sh.length → (l.length : Int) = tot (sh.take i) → Ok b j →
    EvP (fun k => spec_l07Draw.l0 k sh l (sh.length : Int) (i : Int) b j h) (fun r => r.1.length ≤ 1000 ∧ Ok b r.2.1) := by
  have ht := isShares_pos hs
  obtain ⟨h8, hx, h60⟩ := (isShares_iff sh).1 hs
  intro d
  induction d with
  | zero =>
    intro i l j h hi hl hj
    refine evp_step (fun k => by rw [spec_l07Draw.l0]) (evp_neg (by omega) ?_)
    rw [List.take_of_length_le (by omega)] at hl
    exact L07Draw_j2 hb hj h l (by omega)
  | succ d ih =>
    intro i l j h hi hl hj
    have hlt : i < sh.length := by omega
    have hxi := hx _ (List.getElem_mem hlt)
    have hbt := tot_bounds 1 60 (sh.take i) (fun x h => hx x (List.mem_of_mem_take h))
    rw [List.length_take] at hbt
    have hr := rd_nat hlt
    refine evp_step (fun k => by rw [spec_l07Draw.l0]) (evp_pos (by omega) (evp_pos (by omega) (evp_pos (by omega) ?_)))
    obtain ⟨n, hn⟩ : ∃ n : Nat, sh[i] = n := ⟨sh[i].toNat, by omega⟩
    rw [hr, hn]
    refine L07Draw_l1 hb sh i (l.length + n) (by omega) (by omega) (fun l2 j2 h2 hl2 hj2 => ih (i + 1) l2 j2 h2 (by omega) ?_ hj2) n l j h rfl hj
    rw [tot_take_succ sh i hlt, hn]
    omega
theorem Doubled_small : ∀ u : Fin 4, spec_l07Doubled.f 10 (wrap64 (1 + (u.val : Int))) = some ((spec_l07Doubled.f 10 (wrap64 (1 + (u.val : Int)))).getD []) ∧ 1 ≤ ((spec_l07Doubled.f 10 (wrap64 (1 + (u.val : Int)))).getD []).length ∧ ((spec_l07Doubled.f 10 (wrap64 (1 + (u.val : Int)))).getD []).length ≤ 100 := by decide +kernel
theorem L07Draw_evp {b : List Int} (hb : Bytes b) {i : Int} (hi : Ok b i) (h a : Int) (ha : 5 ≤ a ∧ a ≤ 60) : EvP (fun k => spec_l07Draw.f k b i h a) (fun r => r.1.length ≤ 1000 ∧ Ok b r.2.1) := by
  unfold spec_l07Draw.f
  refine evp_bind (DrawShares_evp hb hi h a ha) ?_
  rintro ⟨l, i2, h2⟩ ⟨hs', hi2'⟩
  have hs : isShares l = true := hs'
  have hi2 : Ok b i2 := hi2'
  have ht := isShares_pos hs
  have h8 := ((isShares_iff l).1 hs).1
  refine evp_next hb hi2 fun v i3 h3 v0 v1 v2 hi3 => evp_ite (fun _ => evp_ev (spec_Greedy_ev l (by omega)) ?_) (fun _ => evp_ite (fun _ => evp_ev (spec_Least_ev l (by omega)) ?_) (fun _ => evp_ite (fun _ => ?_) (fun _ => ?_)))
  · have e : greedyR l = (greedy l, 0) := by rw [greedyR, if_pos hs]
    have F := (greedy_is_fair l hs).len
    rw [e]
    exact L07Draw_j2 hb hi3 h3 (greedy l) (by omega)
  · obtain ⟨c, h1, h4, h5⟩ := leastGo_from (dead l) 3600 0
    have e : leastR l = ((dead l c).1, c, 0) := by rw [leastR, if_pos hs, h1]
    have ok : (dead l c).2 = true := leastGo_ok hs h1
    have F := (dead_is_fair l hs c h4 ok).1.len
    rw [e]
    exact L07Draw_j2 hb hi3 h3 (dead l c).1 (by omega)
  · refine evp_next hb hi3 fun u i4 h4 u0 u1 u2 hi4 => ?_
    have hu := u1 (by omega)
    obtain ⟨y, hy, hy2⟩ : ∃ y, Ev (fun k => spec_l07Doubled.f k (wrap64 (1 + u))) y ∧ 1 ≤ y.length ∧ y.length ≤ 100 := by
      have key := Doubled_small ⟨u.toNat, by omega⟩
      have eu : ((u.toNat : Nat) : Int) = u := by omega
      simp only [eu] at key
      exact ⟨_, Ev.of (fun k => spec_l07Doubled.mono _ k) key.1, key.2⟩
    exact evp_ev hy (L07Draw_j2 hb hi4 h4 y (by omega))
  · exact L07Draw_l0 hb l hs l.length 0 [] i3 h3 (by omega) (by simp [tot]) hi3
end Go.Proofs.Ytfmjckkgnieccaa.Pure
end
section
namespace Go.Proofs.Ytfmjckkgnieccaa.Pure
open Go.RowKit Go.Proofs.Ytfmjckkgnieccaa.P Go.Proofs.YtfmjckkgnieccaaW.PrintWords Go.Proofs.YtfmjckkgnieccaaW.PrintLast Go.Proofs.YtfmjckkgnieccaaW.PrintMore
set_option linter.unusedVariables false
set_option linter.unusedSimpArgs false
/-- what both ExchangeSlots return -/
def exchR (l : List Int) (n m : Int) : List Int × Int :=
  if isTurns l 8 = true ∧ (0 ≤ n ∧ n < l.length) ∧ (0 ≤ m ∧ m < l.length) then (exch l n m, 0) else ([], 2)
theorem slot_iff (l : List Int) (n : Int) (hl : l.length ≤ 9223372036854775807) : decide (0 ≤ n ∧ n ≤ wrap64 ((l.length : Int) - 1)) = decide (0 ≤ n ∧ n < (l.length : Int)) := by
  rw [wrap_id (by omega) (by omega)]
  exact decide_eq_decide.2 (by omega)
theorem exchR_length (l : List Int) (n m : Int) : (exchR l n m).1.length ≤ l.length := by
  unfold exchR
  split
  · rw [exch_length]; exact Nat.le_refl _
  · simp
theorem spec_ExchangeSlots_ev (l : List Int) (n m : Int) (hl : l.length < 17592186044416) : Ev (fun k => spec_ExchangeSlots.f k l n m) (exchR l n m) := by
  unfold spec_ExchangeSlots.f
  refine ev_bind (l01Turns_ev l 8 (by omega)) ?_
  unfold exchR
  cases h1 : isTurns l 8 with
  | false => exact ev_neg (by simp) (ev_is (by simp))
  | true =>
    refine ev_pos rfl (ev_fix (l01In_f _ _ _) ?_)
    rw [slot_iff l n (by omega)]
    by_cases h2 : 0 ≤ n ∧ n < (l.length : Int)
    · rw [decide_eq_true h2]
      refine ev_pos rfl (ev_fix (l01In_f _ _ _) ?_)
      rw [slot_iff l m (by omega)]
      by_cases h3 : 0 ≤ m ∧ m < (l.length : Int)
      · rw [decide_eq_true h3]
        refine ev_pos rfl (ev_fix (l07Exchanged_f l n m hl h2 h3) (ev_is ?_))
        rw [if_pos ⟨rfl, h2, h3⟩]
      · rw [decide_eq_false h3]
        refine ev_neg (by simp) (ev_is ?_)
        rw [if_neg (fun h => h3 h.2.2)]
    · rw [decide_eq_false h2]
      refine ev_neg (by simp) (ev_is ?_)
      rw [if_neg (fun h => h2 h.2.1)]
theorem impl_ExchangeSlots_f (l : List Int) (n m : Int) (hl : l.length < 17592186044416) : impl_ExchangeSlots.f l n m = some (exchR l n m) := by
  unfold impl_ExchangeSlots.f exchR
  rw [areTurns_f, Option.bind_some]
  cases h1 : isTurns l 8 with
  | false => simp
  | true =>
    rw [if_pos rfl]
    simp only [impl_length_int64.f, Option.bind_some]
    rw [within_f, Option.bind_some, slot_iff l n (by omega)]
    by_cases h2 : 0 ≤ n ∧ n < (l.length : Int)
    · rw [decide_eq_true h2, if_pos rfl, within_f, Option.bind_some, slot_iff l m (by omega)]
      by_cases h3 : 0 ≤ m ∧ m < (l.length : Int)
      · rw [decide_eq_true h3, if_pos rfl, exchanged_f l n m hl h2 h3, Option.bind_some, if_pos ⟨trivial, h2, h3⟩]
      · rw [decide_eq_false h3, if_neg (by simp), if_neg (fun h => h3 h.2.2)]
    · rw [decide_eq_false h2, if_neg (by simp), if_neg (fun h => h2 h.2.1)]
end Go.Proofs.Ytfmjckkgnieccaa.Pure
end
section
namespace Go.Proofs.Ytfmjckkgnieccaa.Pure
open Go.RowKit Go.Proofs.Ytfmjckkgnieccaa.P Go.Proofs.YtfmjckkgnieccaaW.PrintWords Go.Proofs.YtfmjckkgnieccaaW.PrintLast Go.Proofs.YtfmjckkgnieccaaW.PrintMore
set_option linter.unusedVariables false
set_option linter.unusedSimpArgs false
theorem Shares_l2 (l s : List Int) (hl : l.length ≤ 1048576) (hs : s.length ≤ 1048576) : ∀ d n : Nat, n + d = s.length → (∀ x ∈ s.take n, x ≠ 0) →
    Ev (fun k => spec_l07Shares.l2 k l s (s.length : Int) (n : Int)) (if s.contains 0 = true then ([], false) else (s, decide ((l.length : Int) ≤ 60))) := by
  intro d
  induction d with
  | zero =>
    intro n hn ha
    rw [List.take_of_length_le (by omega)] at ha
    rw [if_neg (fun h => ha 0 (List.contains_iff_mem.1 h) rfl)]
    exact Ev.step (fun k => by rw [spec_l07Shares.l2]) (ev_neg (by omega) (ev_now _))
  | succ d ih =>
    intro n hn ha
    have hlt : n < s.length := by omega
    refine Ev.step (fun k => by rw [spec_l07Shares.l2]) (ev_pos (by omega) (ev_pos (by omega) (ev_pos (by omega) ?_)))
    rw [rd_nat hlt]
    by_cases c : s[n] = 0
    · rw [if_pos (List.contains_iff_mem.2 (c ▸ List.getElem_mem hlt))]
      exact ev_pos c (ev_now _)
    · refine ev_neg c ?_
      rw [wrap_succ (by omega)]
      refine ih (n + 1) (by omega) fun x hx => ?_
      rw [List.take_succ_eq_append_getElem hlt] at hx
      rcases List.mem_append.1 hx with hx | hx
      · exact ha x hx
      · rw [List.mem_singleton.1 hx]; exact c
theorem Shares_l1 (l : List Int) (hl : l.length ≤ 1048576) (hm : ∀ x ∈ l, 0 ≤ x ∧ x ≤ 7) (R : List Int × Bool) (hR : Ev (fun k => spec_l07Shares.l2 k l (sharesL l) ((sharesL l).length : Int) 0) R) : ∀ d n : Nat, n + d = l.length →
    Ev (fun k => spec_l07Shares.l1 k l (tab (fun i => cnt (i : Int) (l.take n)) (great l + 1).toNat) (n : Int)) R := by
  have hg := great_nonneg l
  intro d
  induction d with
  | zero =>
    intro n hn
    rw [List.take_of_length_le (by omega)]
    refine Ev.step (fun k => by rw [spec_l07Shares.l1]) ?_
    exact ev_neg (by omega) hR
  | succ d ih =>
    intro n hn
    have hlt : n < l.length := by omega
    have hx := hm _ (List.getElem_mem hlt)
    have hx2 := great_pos (List.getElem_mem hlt)
    refine Ev.step (fun k => by rw [spec_l07Shares.l1]) (ev_pos (by omega) (ev_pos (by omega) ?_))
    rw [rd_nat hlt]
    refine ev_pos (by omega) (ev_pos (by rw [tab_length]; omega) ?_)
    obtain ⟨b, hb⟩ : ∃ b : Nat, l[n] = b := ⟨l[n].toNat, by omega⟩
    have hcb := cnt_bounds (b : Int) (l.take n)
    rw [List.length_take] at hcb
    rw [hb, Int.toNat_natCast, rd_tab (by omega), wrap_id (by omega) (by omega), wrap_succ (by omega), tab_set]
    have ih := ih (n + 1) (by omega)
    rw [tab_congr (g := fun i => if i = b then cnt (b : Int) (l.take n) + 1 else cnt (i : Int) (l.take n)) (fun i hi => by
      rw [cnt_take_succ _ l n hlt, hb]
      by_cases e : i = b
      · subst e; rw [if_pos rfl, if_pos rfl]
      · rw [if_neg (by omega), if_neg e, Int.add_zero])] at ih
    exact ih
theorem Shares_l0 (l : List Int) (hl : l.length ≤ 1048576) (h7 : ∀ x ∈ l, x ≤ 7) : ∀ d n : Nat, n + d = l.length → (∀ x ∈ l.take n, 0 ≤ x) →
    Ev (fun k => spec_l07Shares.l0 k l (great (l.take n)) (n : Int)) (if (∀ x ∈ l, 0 ≤ x) then (if (sharesL l).contains 0 = true then ([], false) else (sharesL l, decide ((l.length : Int) ≤ 60))) else ([], false)) := by
  have hg := great_nonneg l
  have hg7 := great_le (l := l) (b := 7) (by omega) h7
  intro d
  induction d with
  | zero =>
    intro n hn ha
    rw [List.take_of_length_le (by omega)] at ha ⊢
    rw [if_pos ha]
    refine Ev.step (fun k => by rw [spec_l07Shares.l0]) (ev_neg (by omega) ?_)
    rw [wrap_id (by omega) (by omega)]
    refine ev_pos (by omega) (ev_pos (by omega) ?_)
    have hlen : (sharesL l).length ≤ 1048576 := by rw [sharesL, tab_length]; omega
    have h1 := Shares_l1 l hl (fun x hx => ⟨ha x hx, h7 x hx⟩) _ (Shares_l2 l (sharesL l) hl hlen (sharesL l).length 0 (by omega) (by simp)) l.length 0 (by omega)
    rw [show tab (fun i => cnt (i : Int) (l.take 0)) (great l + 1).toNat = List.replicate (great l + 1).toNat 0 by
      rw [← tab_zero]; exact tab_congr fun i _ => by simp [cnt]] at h1
    exact h1
  | succ d ih =>
    intro n hn ha
    have hlt : n < l.length := by omega
    refine Ev.step (fun k => by rw [spec_l07Shares.l0]) (ev_pos (by omega) (ev_pos (by omega) ?_))
    rw [rd_nat hlt]
    by_cases c : l[n] < 0
    · rw [if_neg (fun h => by have := h _ (List.getElem_mem hlt); omega)]
      exact ev_pos c (ev_now _)
    · refine ev_neg c ?_
      rw [wrap_succ (by omega), ← great_take_succ l n hlt]
      refine ih (n + 1) (by omega) fun x hx => ?_
      rw [List.take_succ_eq_append_getElem hlt] at hx
      rcases List.mem_append.1 hx with hx | hx
      · exact ha x hx
      · rw [List.mem_singleton.1 hx]; omega
theorem l07Given_ev (l : List Int) (hl : l.length ≤ 1048576) : Ev (fun k => spec_l07Given.f k l) (if levelR l = 0 then sharesL l else [], levelR l) := by
  unfold spec_l07Given.f
  refine ev_bind (l01Turns_ev l 8 (by omega)) ?_
  cases ht : isTurns l 8 with
  | false => exact ev_neg (by simp) (ev_is (by simp [levelR, ht]))
  | true =>
    have h7 : ∀ x ∈ l, x ≤ 7 := fun x hx => (isTurns8_mem ht hx).2
    refine ev_pos rfl (ev_bind (show Ev (fun k => spec_l07Shares.f k l) _ from Shares_l0 l hl h7 l.length 0 (by omega) (by simp)) ?_)
    by_cases hc : l.contains (-1) = true
    · have hr : levelR l = 5 := by unfold levelR; rw [if_pos ht, if_pos hc]
      have e : ¬ (∀ x ∈ l, 0 ≤ x) := fun h => by have := h _ (List.contains_iff_mem.1 hc); omega
      refine ev_neg (by rw [if_neg e]; simp) (ev_is (by rw [hr]; rfl))
    · have hc2 := Bool.eq_false_iff.2 hc
      have e : ∀ x ∈ l, 0 ≤ x := fun x hx => by
        have := isTurns8_mem ht hx
        have : x ≠ -1 := fun e => contains_false hc2 (e ▸ hx)
        omega
      by_cases hz : (sharesL l).contains 0 = true
      · have hr : levelR l = 5 := by unfold levelR; rw [if_pos ht, if_neg hc, if_pos hz]
        exact ev_neg (by rw [if_pos e, if_pos hz]; simp) (ev_is (by rw [hr]; rfl))
      · by_cases h60 : (l.length : Int) ≤ 60
        · have hr : levelR l = 0 := by unfold levelR; rw [if_pos ht, if_neg hc, if_neg hz, if_neg (by omega)]
          exact ev_pos (by rw [if_pos e, if_neg hz]; exact decide_eq_true h60) (ev_is (by rw [hr, if_pos e, if_neg hz]; rfl))
        · have hr : levelR l = 5 := by unfold levelR; rw [if_pos ht, if_neg hc, if_neg hz, if_pos (by omega)]
          exact ev_neg (by rw [if_pos e, if_neg hz]; simp only [decide_eq_false h60]; simp) (ev_is (by rw [hr]; rfl))
end Go.Proofs.Ytfmjckkgnieccaa.Pure
end
section
namespace Go.Proofs.Ytfmjckkgnieccaa.Pure
open Go.RowKit Go.Proofs.Ytfmjckkgnieccaa.P Go.Proofs.YtfmjckkgnieccaaW.PrintWords Go.Proofs.YtfmjckkgnieccaaW.PrintLast Go.Proofs.YtfmjckkgnieccaaW.PrintMore
set_option linter.unusedVariables false
set_option linter.unusedSimpArgs false
def bestR (l : List Int) : Int × Int × Int := if levelR l = 0 then (match (best l).2 with | none => (0, 0, 4) | some p => ((p.1 : Int), (p.2 : Int), 0)) else (0, 0, levelR l)
theorem BestExchange_spec (l : List Int) (hl : l.length ≤ 1048576) : Ev (fun k => spec_BestExchange.f k l) (bestR l) := by
  unfold spec_BestExchange.f bestR
  refine ev_bind (l07Given_ev l hl) ?_
  by_cases h : levelR l = 0
  · rw [if_pos h, if_pos h]
    refine ev_pos h (ev_bind (l07Best_ev l (levelR_zero h)) ?_)
    cases (best l).2 with
    | none => exact ev_neg (by simp) (ev_now _)
    | some p => exact ev_pos rfl (ev_now _)
  · rw [if_neg h, if_neg h]
    exact ev_neg h (ev_now _)
theorem BestExchange_impl (l : List Int) (hl : l.length ≤ 1048576) : Ev (fun k => impl_BestExchange.f k l) (bestR l) := by
  unfold impl_BestExchange.f bestR
  refine ev_bind (levelCode_ev l hl) ?_
  by_cases h : levelR l = 0
  · rw [if_pos h]
    refine ev_pos h (ev_bind (bestExchange_ev l (levelR_zero h)) ?_)
    cases (best l).2 with
    | none => exact ev_neg (by simp) (ev_now _)
    | some p => exact ev_pos rfl (ev_now _)
  · rw [if_neg h]
    exact ev_neg h (ev_now _)
end Go.Proofs.Ytfmjckkgnieccaa.Pure
end
section
namespace Go.Proofs.Ytfmjckkgnieccaa.Pure
open Go.RowKit Go.Proofs.Ytfmjckkgnieccaa.P Go.Proofs.YtfmjckkgnieccaaW.PrintWords Go.Proofs.YtfmjckkgnieccaaW.PrintLast Go.Proofs.YtfmjckkgnieccaaW.PrintMore
set_option linter.unusedVariables false
set_option linter.unusedSimpArgs false
def topT (l : List Int) : Int := l.foldl mx (-1)
theorem topT_great {l : List Int} (h1 : 1 ≤ l.length) (hm : ∀ x ∈ l, 0 ≤ x) : topT l = great l := by
  cases l with
  | nil => simp at h1
  | cons y l =>
    have hy := hm y List.mem_cons_self
    simp only [topT, great, List.foldl_cons]
    rw [show mx (-1) y = y by unfold mx; split <;> omega, show mx 0 y = y by unfold mx; split <;> omega]
theorem MaxT_ev (l : List Int) (hl : l.length ≤ 1048576) (h0 : 1 ≤ l.length) (hp : ∀ x ∈ l, -1 ≤ x) : Ev (fun k => slices_Max_Sint64_int64.f k l) (topT l) := by
  unfold slices_Max_Sint64_int64.f
  refine ev_neg (by omega) (ev_pos (by omega) ?_)
  cases l with
  | nil => simp at h0
  | cons y l =>
    have hy := hp y List.mem_cons_self
    have h1 := Max_l0 (y :: l) hl y l.length 1 (by simp only [List.length_cons]; omega)
    have e0 : topT (y :: l) = (y :: l).foldl mx y := by
      simp only [topT, List.foldl_cons]
      rw [show mx (-1) y = y by unfold mx; split <;> omega, mx_self]
    have e1 : ((y :: l).take 1).foldl mx y = y := by simp [mx_self]
    rw [e1, ← e0] at h1
    exact h1
end Go.Proofs.Ytfmjckkgnieccaa.Pure
end
section
namespace Go.Proofs.Ytfmjckkgnieccaa.Pure
open Go.RowKit Go.Proofs.Ytfmjckkgnieccaa.P Go.Proofs.YtfmjckkgnieccaaW.PrintWords Go.Proofs.YtfmjckkgnieccaaW.PrintLast Go.Proofs.YtfmjckkgnieccaaW.PrintMore
set_option linter.unusedVariables false
set_option linter.unusedSimpArgs false
theorem mx_mxD (a x : Int) : mx (mx a x) (wrap64 (-x)) = mxD a x := by
  unfold mxD mx
  repeat' split
  all_goals omega
theorem l07Greatest_l1 (l : List Int) (L : Level l) (n : Nat) (hn : n ≤ l.length) (R : Int) : ∀ d i : Nat, i + d = (great l + 1).toNat → ∀ a : Int,
    Ev (fun k => spec_l07Greatest.l0 k (rowsD l (great l + 1).toNat (l.length + 1)) (foldI mxD l n d i a) ((l.length + 1 : Nat) : Int) ((n + 1 : Nat) : Int)) R →
    Ev (fun k => spec_l07Greatest.l1 k (rowsD l (great l + 1).toNat (l.length + 1)) a (n : Int) ((l.length + 1 : Nat) : Int) (n : Int) (((great l + 1).toNat : Nat) : Int) (i : Int)) R := by
  have ht := L.top
  have hl := L.len
  intro d
  induction d with
  | zero =>
    intro i hi a hR
    refine Ev.step (fun k => by rw [spec_l07Greatest.l1]) (ev_neg (by omega) ?_)
    rw [wrap_succ (by omega)]
    exact hR
  | succ d ih =>
    intro i hi a hR
    refine Ev.step (fun k => by rw [spec_l07Greatest.l1]) (ev_pos (by omega) (ev_pos (by omega) (ev_pos (by rw [rowsD_length]; omega) (ev_pos (by omega) (ev_pos (by rw [rowsD_rd _ _ _ _ (by omega), rowD_length]; omega) ?_)))))
    rw [rowsD_rd _ _ _ _ (by omega), show rd (rowD l (great l + 1).toNat n) (i : Int) = dif l n i from rd_tab (by omega), wrap_succ (by omega), mx_mxD]
    exact ih (i + 1) (by omega) _ hR
theorem l07Greatest_l0 (l : List Int) (L : Level l) : ∀ d n : Nat, n + d = l.length + 1 → ∀ a : Int,
    Ev (fun k => spec_l07Greatest.l0 k (rowsD l (great l + 1).toNat (l.length + 1)) a ((l.length + 1 : Nat) : Int) (n : Int)) (foldN mxD l (great l + 1).toNat d n a) := by
  have ht := L.top
  have hl := L.len
  intro d
  induction d with
  | zero =>
    intro n hn a
    refine Ev.step (fun k => by rw [spec_l07Greatest.l0]) ?_
    exact ev_neg (by omega) (ev_now _)
  | succ d ih =>
    intro n hn a
    refine Ev.step (fun k => by rw [spec_l07Greatest.l0]) (ev_pos (by omega) (ev_pos (by omega) (ev_pos (by rw [rowsD_length]; omega) ?_)))
    rw [rowsD_rd _ _ _ _ (by omega), rowD_length]
    exact l07Greatest_l1 l L n (by omega) _ (great l + 1).toNat 0 (by omega) a (ih (n + 1) (by omega) _)
theorem l07Greatest_ev (l : List Int) (L : Level l) : Ev (fun k => spec_l07Greatest.f k l (sharesL l)) (foldD mxD l) := by
  unfold spec_l07Greatest.f
  refine ev_bind (l07Differences_ev l L) ?_
  rw [rowsD_length]
  exact l07Greatest_l0 l L (l.length + 1) 0 (by omega) 0
end Go.Proofs.Ytfmjckkgnieccaa.Pure
end
section
namespace Go.Proofs.Ytfmjckkgnieccaa.Pure
open Go.RowKit Go.Proofs.Ytfmjckkgnieccaa.P Go.Proofs.YtfmjckkgnieccaaW.PrintWords Go.Proofs.YtfmjckkgnieccaaW.PrintLast Go.Proofs.YtfmjckkgnieccaaW.PrintMore
set_option linter.unusedVariables false
set_option linter.unusedSimpArgs false
theorem GreatestDifference_spec (l : List Int) (hl : l.length ≤ 1048576) : Ev (fun k => spec_GreatestDifference.f k l) (if levelR l = 0 then (foldD mxD l, 0) else (0, levelR l)) := by
  unfold spec_GreatestDifference.f
  refine ev_bind (l07Given_ev l hl) ?_
  by_cases h : levelR l = 0
  · rw [if_pos h, if_pos h]
    exact ev_pos h (ev_bind (l07Greatest_ev l (levelR_zero h)) (ev_now _))
  · rw [if_neg h, if_neg h]
    exact ev_neg h (ev_now _)
theorem GreatestDifference_impl (l : List Int) (hl : l.length ≤ 1048576) : Ev (fun k => impl_GreatestDifference.f k l) (if levelR l = 0 then (foldD mxD l, 0) else (0, levelR l)) := by
  unfold impl_GreatestDifference.f
  refine ev_bind (levelCode_ev l hl) ?_
  by_cases h : levelR l = 0
  · have L := levelR_zero h
    rw [if_pos h]
    refine ev_pos h ?_
    exact ev_bind (sharesOf_ev l hl L.len.1 L.mem) (ev_bind (difs_ev mxD l L) (ev_now _))
  · rw [if_neg h]
    exact ev_neg h (ev_now _)
end Go.Proofs.Ytfmjckkgnieccaa.Pure
end
section
namespace Go.Proofs.Ytfmjckkgnieccaa.Pure
open Go.RowKit Go.Proofs.Ytfmjckkgnieccaa.P Go.Proofs.YtfmjckkgnieccaaW.PrintWords Go.Proofs.YtfmjckkgnieccaaW.PrintLast Go.Proofs.YtfmjckkgnieccaaW.PrintMore
set_option linter.unusedVariables false
set_option linter.unusedSimpArgs false
theorem waitsOf_len (l : List Int) (x : Int) : (waitsOf l x).length ≤ l.length := by rw [waitsOf_length]; exact posOf_length x l 0
theorem greatest_l0 (l : List Int) (hl : l.length ≤ 1048576) : ∀ d n : Nat, n + d = l.length →
    Ev (fun k => impl_greatest.l0 k (great (l.take n)) l (l.length : Int) (n : Int)) (great l) := by
  intro d
  induction d with
  | zero =>
    intro n hn
    rw [List.take_of_length_le (by omega)]
    exact Ev.step (fun k => by rw [impl_greatest.l0]) (ev_neg (by omega) (ev_now _))
  | succ d ih =>
    intro n hn
    have hlt : n < l.length := by omega
    refine Ev.step (fun k => by rw [impl_greatest.l0]) (ev_pos (by omega) (ev_pos (by omega) (ev_pos (by omega) ?_)))
    rw [rd_nat hlt, wrap_succ (by omega), ← great_take_succ l n hlt]
    exact ih (n + 1) (by omega)
theorem greatest_ev (l : List Int) (hl : l.length ≤ 1048576) : Ev (fun k => impl_greatest.f k l) (great l) := by
  unfold impl_greatest.f
  exact greatest_l0 l hl l.length 0 (by omega)
end Go.Proofs.Ytfmjckkgnieccaa.Pure
end
section
namespace Go.Proofs.Ytfmjckkgnieccaa.Pure
open Go.RowKit Go.Proofs.Ytfmjckkgnieccaa.P Go.Proofs.YtfmjckkgnieccaaW.PrintWords Go.Proofs.YtfmjckkgnieccaaW.PrintLast Go.Proofs.YtfmjckkgnieccaaW.PrintMore
set_option linter.unusedVariables false
set_option linter.unusedSimpArgs false
theorem posOf_rd {x : Int} {l : List Int} {i : Nat} (h : i < (posOf x 0 l).length) : 0 ≤ rd (posOf x 0 l) i ∧ rd (posOf x 0 l) i < l.length := by
  rw [rd_nat h]
  have := posOf_range x l 0 _ (List.getElem_mem h)
  omega
theorem l01Waits_l0 (l : List Int) (x : Int) (hl : l.length ≤ 1048576) : ∀ d n : Nat, n + d = l.length →
    Ev (fun k => spec_l01Waits.l0 k l x (diffs (posOf x 0 (l.take n))) ((posOf x 0 (l.take n)).headD (-1)) ((posOf x 0 (l.take n)).getLastD (-1)) (n : Int)) (waitsOf l x) := by
  intro d
  induction d with
  | zero =>
    intro n hn
    rw [List.take_of_length_le (by omega)]
    refine Ev.step (fun k => by rw [spec_l01Waits.l0]) (ev_neg (by omega) ?_)
    have hlen := posOf_length x l 0
    by_cases hp : posOf x 0 l = []
    · rw [hp]
      refine ev_neg (by simp) (ev_is ?_)
      simp [waitsOf, hp, diffs]
    · have h1 := posOf_range x l 0 _ (headD_mem hp (-1))
      have h2 := posOf_range x l 0 _ (getLastD_mem hp (-1))
      refine ev_pos (by omega) (ev_pos (by rw [diffs_length]; omega) (ev_is ?_))
      rw [wrap_id (x := (l.length : Int) - _) (by omega) (by omega), wrap_id (by omega) (by omega), waitsOf, if_neg hp]
  | succ d ih =>
    intro n hn
    have hlt : n < l.length := by omega
    refine Ev.step (fun k => by rw [spec_l01Waits.l0]) (ev_pos (by omega) (ev_pos (by omega) ?_))
    rw [rd_nat hlt, wrap_succ (by omega)]
    have ih := ih (n + 1) (by omega)
    rw [posOf_take_succ x l n hlt] at ih
    have hlen := posOf_length x (l.take n) 0
    rw [List.length_take] at hlen
    by_cases hx : l[n] = x
    · rw [if_pos hx] at ih
      refine ev_pos hx ?_
      by_cases hp : posOf x 0 (l.take n) = []
      · rw [hp] at ih ⊢
        exact ev_pos (by simp) (by simpa [diffs] using ih)
      · have h1 := posOf_range x (l.take n) 0 _ (headD_mem hp (-1))
        have h2 := posOf_range x (l.take n) 0 _ (getLastD_mem hp (-1))
        rw [List.length_take] at h1 h2
        refine ev_neg (by omega) (ev_pos (by rw [diffs_length]; omega) ?_)
        rw [wrap_id (by omega) (by omega)]
        rw [diffs_snoc _ _ (-1) hp] at ih
        have e1 : (posOf x 0 (l.take n) ++ [(n : Int)]).headD (-1) = (posOf x 0 (l.take n)).headD (-1) := by
          cases h : posOf x 0 (l.take n) with
          | nil => exact absurd h hp
          | cons => rfl
        have e2 : (posOf x 0 (l.take n) ++ [(n : Int)]).getLastD (-1) = (n : Int) := by simp
        rw [e1, e2] at ih
        exact ih
    · rw [if_neg hx, List.append_nil] at ih
      exact ev_neg hx ih
theorem l01Waits_ev (l : List Int) (x : Int) (hl : l.length ≤ 1048576) : Ev (fun k => spec_l01Waits.f k l x) (waitsOf l x) := by
  unfold spec_l01Waits.f
  simpa [posOf, diffs] using l01Waits_l0 l x hl l.length 0 (by omega)
theorem Waits_impl_l1 (l : List Int) (x : Int) (hl : l.length ≤ 1048576) : ∀ d n : Nat, n + d = (posOf x 0 l).length →
    Ev (fun k => impl_waits.l1 k l (posOf x 0 l) ((waitsOf l x).take n) (posOf x 0 l) ((posOf x 0 l).length : Int) (n : Int)) (waitsOf l x) := by
  intro d
  induction d with
  | zero =>
    intro n hn
    rw [List.take_of_length_le (by rw [waitsOf_length]; omega)]
    exact Ev.step (fun k => by rw [impl_waits.l1]) (ev_neg (by omega) (ev_now _))
  | succ d ih =>
    intro n hn
    have hlen := posOf_length x l 0
    have hlt : n < (posOf x 0 l).length := by omega
    have hp : posOf x 0 l ≠ [] := fun h => by rw [h] at hlt; simp at hlt
    have hb := posOf_rd hlt
    have ht : ((waitsOf l x).take n).length < 17592186044416 := by rw [List.length_take, waitsOf_length]; omega
    refine Ev.step (fun k => by rw [impl_waits.l1]) (ev_pos (by omega) (ev_pos (by omega) (ev_pos (by omega) ?_)))
    rw [wrap_succ (by omega)]
    have hlt2 : n < (waitsOf l x).length := by rw [waitsOf_length]; exact hlt
    have ih := ih (n + 1) (by omega)
    rw [List.take_succ_eq_append_getElem hlt2] at ih
    by_cases h1 : n + 1 < (posOf x 0 l).length
    · have hb1 := posOf_rd h1
      refine ev_pos (by omega) (ev_pos (by omega) (ev_pos ht ?_))
      rw [wrap_id (by omega) (by omega)]
      have e : (waitsOf l x)[n] = rd (posOf x 0 l) ((n + 1 : Nat) : Int) - rd (posOf x 0 l) (n : Int) := by
        have h2 : (waitsOf l x)[n]? = some (rd (posOf x 0 l) ((n + 1 : Nat) : Int) - rd (posOf x 0 l) (n : Int)) := by
          rw [waitsOf, if_neg hp, List.getElem?_append_left (by rw [diffs_length]; omega), diffs_get _ _ h1]
          simp only [rd, Int.toNat_natCast]
        rw [List.getElem?_eq_getElem hlt2] at h2
        exact Option.some.inj h2
      rw [e] at ih
      exact ih
    · have hb0 := posOf_rd (x := x) (l := l) (i := 0) (by omega)
      refine ev_neg (by omega) (ev_pos (by omega) (ev_fix (show impl_length_int64.f l = some (l.length : Int) from rfl) (ev_pos ht ?_)))
      have hb0 : 0 ≤ rd (posOf x 0 l) 0 ∧ rd (posOf x 0 l) 0 < l.length := hb0
      rw [wrap_id (x := rd (posOf x 0 l) 0 + _) (by omega) (by omega), wrap_id (by omega) (by omega)]
      have e : (waitsOf l x)[n] = rd (posOf x 0 l) 0 + (l.length : Int) - rd (posOf x 0 l) (n : Int) := by
        have h2 : (waitsOf l x)[n]? = some (rd (posOf x 0 l) 0 + (l.length : Int) - rd (posOf x 0 l) (n : Int)) := by
          have hn1 : n = (diffs (posOf x 0 l)).length := by rw [diffs_length]; omega
          rw [waitsOf, if_neg hp, List.getElem?_append_right (by omega), show n - (diffs (posOf x 0 l)).length = 0 by omega, List.getElem?_cons_zero]
          congr 1
          have e1 : (posOf x 0 l).headD (-1) = rd (posOf x 0 l) 0 := by
            cases h : posOf x 0 l with
            | nil => exact absurd h hp
            | cons => rfl
          have e2 : (posOf x 0 l).getLastD (-1) = rd (posOf x 0 l) (n : Int) := by
            rw [rd_nat hlt, List.getLastD_eq_getLast?, List.getLast?_eq_getElem?, show (posOf x 0 l).length - 1 = n by omega, List.getElem?_eq_getElem hlt]
            rfl
          rw [e1, e2]
          omega
        rw [List.getElem?_eq_getElem hlt2] at h2
        exact Option.some.inj h2
      rw [e] at ih
      exact ih
theorem Waits_impl_l0 (l : List Int) (x : Int) (hl : l.length ≤ 1048576) : ∀ d n : Nat, n + d = l.length →
    Ev (fun k => impl_waits.l0 k l x (posOf x 0 (l.take n)) l (l.length : Int) (n : Int)) (waitsOf l x) := by
  intro d
  induction d with
  | zero =>
    intro n hn
    rw [List.take_of_length_le (by omega)]
    refine Ev.step (fun k => by rw [impl_waits.l0]) (ev_neg (by omega) ?_)
    exact Waits_impl_l1 l x hl (posOf x 0 l).length 0 (by omega)
  | succ d ih =>
    intro n hn
    have hlt : n < l.length := by omega
    refine Ev.step (fun k => by rw [impl_waits.l0]) (ev_pos (by omega) (ev_pos (by omega) (ev_pos (by omega) ?_)))
    rw [rd_nat hlt, wrap_succ (by omega)]
    have ih := ih (n + 1) (by omega)
    rw [posOf_take_succ x l n hlt] at ih
    have hlen := posOf_length x (l.take n) 0
    rw [List.length_take] at hlen
    by_cases hx : l[n] = x
    · rw [if_pos hx] at ih
      exact ev_pos hx (ev_pos (by omega) ih)
    · rw [if_neg hx, List.append_nil] at ih
      exact ev_neg hx ih
theorem waits_ev (l : List Int) (x : Int) (hl : l.length ≤ 1048576) : Ev (fun k => impl_waits.f k l x) (waitsOf l x) := by
  unfold impl_waits.f
  simpa [posOf] using Waits_impl_l0 l x hl l.length 0 (by omega)
end Go.Proofs.Ytfmjckkgnieccaa.Pure
end
section
namespace Go.Proofs.Ytfmjckkgnieccaa.Pure
open Go.RowKit Go.Proofs.Ytfmjckkgnieccaa.P Go.Proofs.YtfmjckkgnieccaaW.PrintWords Go.Proofs.YtfmjckkgnieccaaW.PrintLast Go.Proofs.YtfmjckkgnieccaaW.PrintMore
set_option linter.unusedVariables false
set_option linter.unusedSimpArgs false
theorem posOf_cnt (x : Int) (l : List Int) : ∀ o, ((posOf x o l).length : Int) = cnt x l := by
  induction l with
  | nil => intro o; rfl
  | cons y l ih =>
    intro o
    have h := ih (o + 1)
    by_cases e : y = x
    · simp only [posOf, cnt]
      rw [if_pos e, if_pos e, List.length_cons]
      omega
    · simp only [posOf, cnt]
      rw [if_neg e, if_neg e]
      omega
theorem mn_self (a : Int) : mn a a = a := by unfold mn; split <;> rfl
def lowW (w : List Int) : Int := w.foldl mn (rd w 0)
def highW (w : List Int) : Int := w.foldl mx (rd w 0)
theorem Min_l0 (l : List Int) (hl : l.length ≤ 1048576) (a : Int) : ∀ d n : Nat, n + d = l.length →
    Ev (fun k => slices_Min_Sint64_int64.l0 k l ((l.take n).foldl mn a) (n : Int)) (l.foldl mn a) := by
  intro d
  induction d with
  | zero =>
    intro n hn
    rw [List.take_of_length_le (by omega)]
    refine Ev.step (fun k => by rw [slices_Min_Sint64_int64.l0]) ?_
    exact ev_neg (by omega) (ev_now _)
  | succ d ih =>
    intro n hn
    have hlt : n < l.length := by omega
    refine Ev.step (fun k => by rw [slices_Min_Sint64_int64.l0]) (ev_pos (by omega) (ev_pos (by omega) ?_))
    rw [rd_nat hlt, wrap_succ (by omega)]
    have ih := ih (n + 1) (by omega)
    rw [List.take_succ_eq_append_getElem hlt, List.foldl_append] at ih
    exact ih
theorem MinW_ev (w : List Int) (hl : w.length ≤ 1048576) (h0 : 1 ≤ w.length) : Ev (fun k => slices_Min_Sint64_int64.f k w) (lowW w) := by
  unfold slices_Min_Sint64_int64.f
  refine ev_neg (by omega) (ev_pos (by omega) ?_)
  cases w with
  | nil => simp at h0
  | cons y l =>
    have h1 := Min_l0 (y :: l) hl y l.length 1 (by simp only [List.length_cons]; omega)
    have e1 : ((y :: l).take 1).foldl mn y = y := by simp [mn_self]
    rw [e1] at h1
    exact h1
theorem MaxW_ev (w : List Int) (hl : w.length ≤ 1048576) (h0 : 1 ≤ w.length) : Ev (fun k => slices_Max_Sint64_int64.f k w) (highW w) := by
  unfold slices_Max_Sint64_int64.f
  refine ev_neg (by omega) (ev_pos (by omega) ?_)
  cases w with
  | nil => simp at h0
  | cons y l =>
    have h1 := Max_l0 (y :: l) hl y l.length 1 (by simp only [List.length_cons]; omega)
    have e1 : ((y :: l).take 1).foldl mx y = y := by simp [mx_self]
    rw [e1] at h1
    exact h1
def spreadsL (l : List Int) (m : Nat) : List (List Int) := (List.range' 0 m).map fun (i : Nat) => [lowW (waitsOf l (i : Int)), highW (waitsOf l (i : Int))]
theorem spreadsL_length (l : List Int) (m : Nat) : (spreadsL l m).length = m := by simp [spreadsL]
theorem spreadsL_succ (l : List Int) (m : Nat) : spreadsL l (m + 1) = spreadsL l m ++ [[lowW (waitsOf l (m : Int)), highW (waitsOf l (m : Int))]] := by simp [spreadsL, List.range'_1_concat]
theorem waits_pos (l : List Int) (L : Level l) (i : Nat) (hi : (i : Int) ≤ great l) : 1 ≤ (waitsOf l (i : Int)).length := by
  rw [waitsOf_length]
  have h1 := posOf_cnt (i : Int) l 0
  have h2 := L.pos i hi
  omega
theorem Spreads_l1 (l : List Int) (w : List Int) (hw : w.length ≤ 1048576) (acc : List (List Int)) (ha : acc.length ≤ 1000) (M i : Nat) (hi : i ≤ 1000) (a : Int) (R : List (List Int) × Int)
    (hR : Ev (fun k => spec_SpreadsOf.l0 k l (acc ++ [[w.foldl mn a, w.foldl mx a]]) (M : Int) ((i + 1 : Nat) : Int)) R) : ∀ d n : Nat, n + d = w.length →
    Ev (fun k => spec_SpreadsOf.l1 k l acc w ((w.take n).foldl mn a) ((w.take n).foldl mx a) (M : Int) (i : Int) (w.length : Int) (n : Int)) R := by
  intro d
  induction d with
  | zero =>
    intro n hn
    rw [List.take_of_length_le (by omega)]
    refine Ev.step (fun k => by rw [spec_SpreadsOf.l1]) ?_
    rw [wrap_succ (n := i) (by omega)]
    exact ev_neg (by omega) (ev_pos (by omega) hR)
  | succ d ih =>
    intro n hn
    have hlt : n < w.length := by omega
    refine Ev.step (fun k => by rw [spec_SpreadsOf.l1]) (ev_pos (by omega) (ev_pos (by omega) (ev_pos (by omega) ?_)))
    rw [rd_nat hlt, wrap_succ (n := n) (by omega)]
    have ih := ih (n + 1) (by omega)
    rw [List.take_succ_eq_append_getElem hlt, List.foldl_append, List.foldl_append] at ih
    exact ih
theorem Spreads_l0 (l : List Int) (L : Level l) : ∀ d n : Nat, n + d = (great l + 1).toNat →
    Ev (fun k => spec_SpreadsOf.l0 k l (spreadsL l n) (((great l + 1).toNat : Nat) : Int) (n : Int)) (spreadsL l (great l + 1).toNat, 0) := by
  have ht := L.top
  have hl := L.len
  intro d
  induction d with
  | zero =>
    intro n hn
    obtain rfl : n = (great l + 1).toNat := by omega
    refine Ev.step (fun k => by rw [spec_SpreadsOf.l0]) ?_
    exact ev_neg (by omega) (ev_now _)
  | succ d ih =>
    intro n hn
    have hw := waits_pos l L n (by omega)
    have hw2 := waitsOf_len l (n : Int)
    have ih := ih (n + 1) (by omega)
    rw [spreadsL_succ] at ih
    refine Ev.step (fun k => by rw [spec_SpreadsOf.l0]) ?_
    exact ev_pos (by omega) (ev_bind (l01Waits_ev l n (by omega)) (ev_pos (by omega) (Spreads_l1 l (waitsOf l (n : Int)) (by omega) (spreadsL l n) (by rw [spreadsL_length]; omega) _ n (by omega) (rd (waitsOf l (n : Int)) 0) _ ih (waitsOf l (n : Int)).length 0 (by omega))))
theorem impl_Spreads_l0 (l : List Int) (L : Level l) : ∀ d n : Nat, n + d = (great l + 1).toNat →
    Ev (fun k => impl_SpreadsOf.l0 k l (spreadsL l n) (((great l + 1).toNat : Nat) : Int) (n : Int)) (spreadsL l (great l + 1).toNat, 0) := by
  have ht := L.top
  have hl := L.len
  intro d
  induction d with
  | zero =>
    intro n hn
    obtain rfl : n = (great l + 1).toNat := by omega
    refine Ev.step (fun k => by rw [impl_SpreadsOf.l0]) ?_
    exact ev_neg (by omega) (ev_now _)
  | succ d ih =>
    intro n hn
    have hw := waits_pos l L n (by omega)
    have hw2 := waitsOf_len l (n : Int)
    have ih := ih (n + 1) (by omega)
    rw [spreadsL_succ] at ih
    refine Ev.step (fun k => by rw [impl_SpreadsOf.l0]) ?_
    rw [wrap_succ (n := n) (by omega)]
    exact ev_pos (by omega) (ev_bind (waits_ev l n (by omega)) (ev_bind (MinW_ev _ (by omega) hw) (ev_bind (MaxW_ev _ (by omega) hw) (ev_pos (by rw [spreadsL_length]; omega) ih))))
end Go.Proofs.Ytfmjckkgnieccaa.Pure
end
section
namespace Go.Proofs.Ytfmjckkgnieccaa.Pure
open Go.RowKit Go.Proofs.Ytfmjckkgnieccaa.P Go.Proofs.YtfmjckkgnieccaaW.PrintWords Go.Proofs.YtfmjckkgnieccaaW.PrintLast Go.Proofs.YtfmjckkgnieccaaW.PrintMore
set_option linter.unusedVariables false
set_option linter.unusedSimpArgs false
def spreadR (l : List Int) : List (List Int) × Int := if levelR l = 0 then (spreadsL l (great l + 1).toNat, 0) else ([], levelR l)
theorem spreadR_small (l : List Int) : (spreadR l).1.length ≤ 1000 ∧ ∀ x ∈ (spreadR l).1, x.length ≤ 1000 := by
  unfold spreadR
  split
  · next h =>
    have L := levelR_zero h
    have ht := L.top
    refine ⟨by show (spreadsL l (great l + 1).toNat).length ≤ 1000; rw [spreadsL_length]; omega, fun x hx => ?_⟩
    obtain ⟨i, _, rfl⟩ := List.mem_map.1 hx
    simp
  · simp
theorem SpreadsOf_spec (l : List Int) (hl : l.length ≤ 1048576) : Ev (fun q => spec_SpreadsOf.f q l) (spreadR l) := by
  unfold spec_SpreadsOf.f spreadR
  refine ev_bind (l07Given_ev l hl) ?_
  by_cases h : levelR l = 0
  · have hs : (sharesL l).length = (great l + 1).toNat := tab_length _ _
    rw [if_pos h, if_pos h]
    refine ev_pos h ?_
    rw [hs]
    exact Spreads_l0 l (levelR_zero h) (great l + 1).toNat 0 (by omega)
  · rw [if_neg h, if_neg h]
    exact ev_neg h (ev_now _)
theorem SpreadsOf_impl (l : List Int) (hl : l.length ≤ 1048576) : Ev (fun q => impl_SpreadsOf.f q l) (spreadR l) := by
  unfold impl_SpreadsOf.f spreadR
  refine ev_bind (levelCode_ev l hl) ?_
  by_cases h : levelR l = 0
  · have L := levelR_zero h
    have ht := L.top
    rw [if_pos h]
    refine ev_pos h (ev_bind (Max_ev l hl L.len.1 (fun x hx => (L.mem x hx).1)) ?_)
    rw [wrap_id (by omega) (by omega), show great l + 1 = (((great l + 1).toNat : Nat) : Int) by omega]
    exact impl_Spreads_l0 l L (great l + 1).toNat 0 (by omega)
  · rw [if_neg h]
    exact ev_neg h (ev_now _)
end Go.Proofs.Ytfmjckkgnieccaa.Pure
end
section
namespace Go.Proofs.Ytfmjckkgnieccaa.Pure
open Go.RowKit Go.Proofs.Ytfmjckkgnieccaa.P Go.Proofs.YtfmjckkgnieccaaW.PrintWords Go.Proofs.YtfmjckkgnieccaaW.PrintLast Go.Proofs.YtfmjckkgnieccaaW.PrintMore
set_option linter.unusedVariables false
set_option linter.unusedSimpArgs false
theorem SquaresOf_spec (l : List Int) (hl : l.length ≤ 1048576) : Ev (fun k => spec_SquaresOf.f k l) (if levelR l = 0 then (foldD sqD l, 0) else (0, levelR l)) := by
  unfold spec_SquaresOf.f
  refine ev_bind (l07Given_ev l hl) ?_
  by_cases h : levelR l = 0
  · rw [if_pos h, if_pos h]
    exact ev_pos h (ev_bind (l07Squares_ev l (levelR_zero h)) (ev_now _))
  · rw [if_neg h, if_neg h]
    exact ev_neg h (ev_now _)
theorem SquaresOf_impl (l : List Int) (hl : l.length ≤ 1048576) : Ev (fun k => impl_SquaresOf.f k l) (if levelR l = 0 then (foldD sqD l, 0) else (0, levelR l)) := by
  unfold impl_SquaresOf.f
  refine ev_bind (levelCode_ev l hl) ?_
  by_cases h : levelR l = 0
  · have L := levelR_zero h
    rw [if_pos h]
    refine ev_pos h ?_
    exact ev_bind (squares_ev l L) (ev_now _)
  · rw [if_neg h]
    exact ev_neg h (ev_now _)
end Go.Proofs.Ytfmjckkgnieccaa.Pure
end
section
namespace Go.Proofs.Ytfmjckkgnieccaa.Pure
open Go.RowKit Go.Proofs.Ytfmjckkgnieccaa.P Go.Proofs.YtfmjckkgnieccaaW.PrintWords Go.Proofs.YtfmjckkgnieccaaW.PrintLast Go.Proofs.YtfmjckkgnieccaaW.PrintMore
set_option linter.unusedVariables false
set_option linter.unusedSimpArgs false
theorem sq_bounds {d : Int} (h : -3600 ≤ d ∧ d ≤ 3600) : 0 ≤ d * d ∧ d * d ≤ 12960000 := by
  by_cases c : 0 ≤ d
  · exact ⟨Int.mul_nonneg c c, by have := Int.mul_le_mul h.2 h.2 c (by omega); omega⟩
  · have e : d * d = (-d) * (-d) := (Int.neg_mul_neg d d).symm
    rw [e]
    exact ⟨Int.mul_nonneg (by omega) (by omega), by have := Int.mul_le_mul (show -d ≤ 3600 by omega) (show -d ≤ 3600 by omega) (by omega) (by omega); omega⟩
theorem foldI_sq (l : List Int) (hl : l.length ≤ 60) (n : Nat) (hn : n ≤ l.length) : ∀ (d i : Nat) (a : Int), 0 ≤ a → a + 12960000 * (d : Int) ≤ 1000000000000 → 0 ≤ foldI sqD l n d i a ∧ foldI sqD l n d i a ≤ a + 12960000 * (d : Int) := by
  intro d
  induction d with
  | zero => intro i a ha _; exact ⟨ha, by show a ≤ a + 12960000 * ((0 : Nat) : Int); omega⟩
  | succ d ih =>
    intro i a ha hd
    have hb := sq_bounds (dif_bounds l hl n i hn)
    have e : sqD a (dif l n i) = a + dif l n i * dif l n i := by
      unfold sqD
      rw [wrap_id (x := dif l n i * dif l n i) (by omega) (by omega), wrap_id (by omega) (by omega)]
    rw [foldI, e]
    have h := ih (i + 1) (a + dif l n i * dif l n i) (by omega) (by omega)
    omega
theorem foldN_sq (l : List Int) (hl : l.length ≤ 60) (m : Nat) (hm : m ≤ 8) : ∀ (d n : Nat) (a : Int), n + d = l.length + 1 → 0 ≤ a → a + 103680000 * (d : Int) ≤ 1000000000000 → 0 ≤ foldN sqD l m d n a := by
  intro d
  induction d with
  | zero => intro n a _ ha _; exact ha
  | succ d ih =>
    intro n a hn ha hd
    have h := foldI_sq l hl n (by omega) m 0 a ha (by omega)
    rw [foldN]
    exact ih (n + 1) _ (by omega) h.1 (by omega)
theorem foldD_nonneg (l : List Int) (L : Level l) : 0 ≤ foldD sqD l := by
  have ht := L.top
  have hl := L.len
  exact foldN_sq l hl.2 _ (by omega) _ _ _ (by omega) (by omega) (by omega)
def smoothF : Nat → List Int → List Int
  | 0, l => l
  | f + 1, l => match (best l).2 with
    | none => l
    | some p => smoothF f (exch l p.1 p.2)
def smooth (l : List Int) : List Int := smoothF ((foldD sqD l).toNat + 1) l
theorem best_some (l : List Int) (L : Level l) (p : Nat × Nat) (h : (best l).2 = some p) : (p.1 < l.length ∧ p.2 < l.length) ∧ Level (exch l p.1 p.2) ∧ SameT l (exch l p.1 p.2) ∧ foldD sqD (exch l p.1 p.2) < foldD sqD l := by
  have g := best_good l
  unfold Good at g
  rw [h] at g
  obtain ⟨h1, h2, h3, h4⟩ := g
  have S := exch_same l p.1 p.2 h1 h2
  exact ⟨⟨h1, h2⟩, S.level L, S, by omega⟩
theorem impl_smooth_l0 : ∀ (f : Nat) (l : List Int), Level l → (foldD sqD l).toNat < f →
    Ev (fun k => impl_SmoothTurns.l0 k l (oa (best l).2 0) (ob (best l).2 0) (best l).2.isSome) (smoothF f l, 0) := by
  intro f
  induction f with
  | zero => intro l _ h; omega
  | succ f ih =>
    intro l L h
    refine Ev.step (fun k => by rw [impl_SmoothTurns.l0]) ?_
    rw [smoothF]
    cases hb : (best l).2 with
    | none => exact ev_neg (by simp) (ev_now _)
    | some p =>
      obtain ⟨⟨h1, h2⟩, L', S, h3⟩ := best_some l L p hb
      have h0 := foldD_nonneg _ L'
      have hl := L.len
      exact ev_pos rfl (ev_fix (exchanged_f l p.1 p.2 (by omega) (by omega) (by omega)) (ev_bind (bestExchange_ev _ L') (ih _ L' (by omega))))
theorem spec_smooth_l0 (s : List Int) : ∀ (f : Nat) (l : List Int), Level l → sharesL l = s → (foldD sqD l).toNat < f →
    Ev (fun k => spec_SmoothTurns.l0 k s l) (smoothF f l, 0) := by
  intro f
  induction f with
  | zero => intro l _ _ h; omega
  | succ f ih =>
    intro l L hs h
    have hB := l07Best_ev l L
    rw [hs] at hB
    refine Ev.step (fun k => by rw [spec_SmoothTurns.l0]) ?_
    refine ev_bind hB ?_
    rw [smoothF]
    cases hb : (best l).2 with
    | none => exact ev_neg (by simp) (ev_now _)
    | some p =>
      obtain ⟨⟨h1, h2⟩, L', S, h3⟩ := best_some l L p hb
      have h0 := foldD_nonneg _ L'
      have hl := L.len
      exact ev_pos rfl (ev_fix (l07Exchanged_f l p.1 p.2 (by omega) (by omega) (by omega)) (ih _ L' (S.shares.trans hs) (by omega)))
theorem smoothF_length : ∀ (f : Nat) (l : List Int), (smoothF f l).length = l.length := by
  intro f
  induction f with
  | zero => intro l; rfl
  | succ f ih =>
    intro l
    rw [smoothF]
    split
    · rfl
    · rw [ih, exch_length]
def smoothR (l : List Int) : List Int × Int := if levelR l = 0 then (smooth l, 0) else ([], levelR l)
theorem smoothR_length (l : List Int) : (smoothR l).1.length ≤ l.length := by
  unfold smoothR
  split
  · exact Nat.le_of_eq (smoothF_length _ _)
  · exact Nat.zero_le _
theorem SmoothTurns_spec (l : List Int) (hl : l.length ≤ 1048576) : Ev (fun k => spec_SmoothTurns.f k l) (smoothR l) := by
  unfold spec_SmoothTurns.f smoothR
  refine ev_bind (l07Given_ev l hl) ?_
  by_cases h : levelR l = 0
  · rw [if_pos h, if_pos h]
    exact ev_pos h (ev_fix (l01Own_f l (by omega)) (spec_smooth_l0 _ _ l (levelR_zero h) rfl (by omega)))
  · rw [if_neg h, if_neg h]
    exact ev_neg h (ev_now _)
theorem SmoothTurns_impl (l : List Int) (hl : l.length ≤ 1048576) : Ev (fun k => impl_SmoothTurns.f k l) (smoothR l) := by
  unfold impl_SmoothTurns.f smoothR
  refine ev_bind (levelCode_ev l hl) ?_
  by_cases h : levelR l = 0
  · rw [if_pos h]
    exact ev_pos h (ev_fix (Clone_f l (by omega)) (ev_bind (bestExchange_ev l (levelR_zero h)) (impl_smooth_l0 _ l (levelR_zero h) (by omega))))
  · rw [if_neg h]
    exact ev_neg h (ev_now _)
end Go.Proofs.Ytfmjckkgnieccaa.Pure
end
section
namespace Go.Proofs.Ytfmjckkgnieccaa.Pure
open Go.RowKit Go.Proofs.Ytfmjckkgnieccaa.P Go.Proofs.YtfmjckkgnieccaaW.PrintWords Go.Proofs.YtfmjckkgnieccaaW.PrintLast Go.Proofs.YtfmjckkgnieccaaW.PrintMore
set_option linter.unusedVariables false
set_option linter.unusedSimpArgs false
theorem smoothF_end : ∀ (f : Nat) (l : List Int), Level l → (foldD sqD l).toNat < f → Level (smoothF f l) ∧ (best (smoothF f l)).2 = none ∧ foldD sqD (smoothF f l) ≤ foldD sqD l := by
  intro f
  induction f with
  | zero => intro l _ h; omega
  | succ f ih =>
    intro l L h
    cases hb : (best l).2 with
    | none =>
      have e : smoothF (f + 1) l = l := by rw [smoothF, hb]
      rw [e]
      exact ⟨L, hb, Int.le_refl _⟩
    | some p =>
      obtain ⟨_, L2, _, h2⟩ := best_some l L p hb
      have h0 := foldD_nonneg _ L2
      have e : smoothF (f + 1) l = smoothF f (exch l p.1 p.2) := by rw [smoothF, hb]
      rw [e]
      obtain ⟨r1, r2, r3⟩ := ih (exch l p.1 p.2) L2 (by omega)
      exact ⟨r1, r2, by omega⟩
theorem smooth_end (l : List Int) (L : Level l) : Level (smooth l) ∧ (best (smooth l)).2 = none ∧ foldD sqD (smooth l) ≤ foldD sqD l := smoothF_end _ l L (by omega)
theorem smooth_none (l : List Int) (h : (best l).2 = none) : smooth l = l := by
  unfold smooth
  rw [smoothF, h]
theorem smooth_some (l : List Int) (L : Level l) (p : Nat × Nat) (h : (best l).2 = some p) : foldD sqD (smooth l) ≤ foldD sqD (exch l p.1 p.2) := by
  obtain ⟨_, L2, _, h2⟩ := best_some l L p h
  have h0 := foldD_nonneg _ L2
  have e : smooth l = smoothF (foldD sqD l).toNat (exch l p.1 p.2) := by unfold smooth; rw [smoothF, h]
  rw [e]
  exact (smoothF_end _ _ L2 (by omega)).2.2
theorem Level.zero {l : List Int} (L : Level l) : levelR l = 0 := by
  have hm : (-1 : Int) ∉ l := fun h => by have := L.mem _ h; omega
  have hs : (0 : Int) ∉ sharesL l := fun h => by
    unfold sharesL tab at h
    obtain ⟨i, hi, e⟩ := List.mem_map.1 h
    rw [List.mem_range'_1] at hi
    have := L.pos i (by have := L.top; omega)
    omega
  unfold levelR
  rw [if_pos L.turns, if_neg (by rw [List.contains_iff_mem]; exact hm), if_neg (by rw [List.contains_iff_mem]; exact hs), if_neg (by have := L.len; omega)]
theorem exch_back (l : List Int) (n m : Int) (hn : 0 ≤ n ∧ n < l.length) (hm : 0 ≤ m ∧ m < l.length) : exch (exch l n m) m n = l := by
  obtain ⟨a, rfl⟩ : ∃ a : Nat, n = a := ⟨n.toNat, by omega⟩
  obtain ⟨b, rfl⟩ : ∃ b : Nat, m = b := ⟨m.toNat, by omega⟩
  unfold exch
  rw [Int.toNat_natCast, Int.toNat_natCast]
  have r : ∀ i : Nat, rd ((l.set a (rd l (b : Int))).set b (rd l (a : Int))) (i : Int) = if i = b then rd l (a : Int) else if i = a then rd l (b : Int) else rd l (i : Int) := fun i => by
    rw [rd_set (by rw [List.length_set]; omega), rd_set (by omega)]
  rw [r a, r b, if_pos rfl]
  apply List.ext_getElem (by simp)
  intro i h1 h2
  have hi : i < l.length := by simpa using h1
  rw [List.getElem_set, List.getElem_set, List.getElem_set, List.getElem_set]
  have e := rd_nat hi
  by_cases ea : a = i
  · subst ea
    rw [if_pos rfl]
    rw [if_pos rfl]
    exact e
  · rw [if_neg ea]
    by_cases eb : b = i
    · subst eb
      rw [if_pos rfl]
      rw [if_neg ea]
      exact e
    · rw [if_neg eb, if_neg eb, if_neg ea]
theorem mn_foldl (w : List Int) : ∀ a, w.foldl mn a ≤ a := by
  induction w with
  | nil => intro a; exact Int.le_refl _
  | cons x w ih => intro a; have := ih (mn a x); have h2 : mn a x ≤ a := (by unfold mn; split <;> omega); simp only [List.foldl_cons]; omega
theorem low_high (w : List Int) : lowW w ≤ highW w := by
  have h1 := mn_foldl w (rd w 0)
  have h2 := (le_foldl_mx w (rd w 0)).1
  unfold lowW highW
  omega
theorem high_great (w : List Int) (h0 : 1 ≤ w.length) (h : 0 ≤ rd w 0) : highW w = great w := by
  cases w with
  | nil => simp at h0
  | cons x w =>
    have hx : 0 ≤ x := by simpa [rd] using h
    have e : rd (x :: w) 0 = x := by simp [rd]
    unfold highW great
    rw [e, List.foldl_cons, List.foldl_cons, mx_self]
    have : mx 0 x = x := by unfold mx; split <;> omega
    rw [this]
end Go.Proofs.Ytfmjckkgnieccaa.Pure
end
section
namespace Go.Proofs.Ytfmjckkgnieccaa.Pure
open Go.RowKit Go.Proofs.Ytfmjckkgnieccaa.P Go.Proofs.YtfmjckkgnieccaaW.PrintWords Go.Proofs.YtfmjckkgnieccaaW.PrintLast Go.Proofs.YtfmjckkgnieccaaW.PrintMore
set_option linter.unusedVariables false
set_option linter.unusedSimpArgs false
/-- the greatest waits -/
theorem topT_bounds {l : List Int} {b : Int} (hb : -1 ≤ b) (h : ∀ x ∈ l, x ≤ b) : -1 ≤ topT l ∧ topT l ≤ b ∧ ∀ x ∈ l, x ≤ topT l := by
  have h1 := le_foldl_mx l (-1)
  refine ⟨h1.1, ?_, h1.2⟩
  have : ∀ (l : List Int) (a : Int), a ≤ b → (∀ x ∈ l, x ≤ b) → l.foldl mx a ≤ b := by
    intro l
    induction l with
    | nil => intro a ha _; exact ha
    | cons y l ih =>
      intro a ha hl
      have hy := hl y List.mem_cons_self
      exact ih _ (by unfold mx; split <;> omega) (fun x hx => hl x (List.mem_cons_of_mem _ hx))
  exact this l (-1) hb h
def gwR (l : List Int) : List Int × Int := if isTurns l 8 = true then (tab (fun i => great (waitsOf l (i : Int))) (topT l + 1).toNat, 0) else ([], 2)
theorem tab_small (f : Nat → Int) (M : Nat) (hM : M ≤ 8) (n : Nat) (hn : n ≤ M) : (tab f n).length < 17592186044416 := by rw [tab_length]; omega
theorem gw_l0 (l : List Int) (hl : l.length ≤ 120) (M : Nat) (hM : M ≤ 8) : ∀ d n : Nat, n + d = M →
    Ev (fun k => impl_GreatestWaits.l0 k l (tab (fun i => great (waitsOf l (i : Int))) n) (M : Int) (n : Int)) (tab (fun i => great (waitsOf l (i : Int))) M, 0) := by
  intro d
  induction d with
  | zero =>
    intro n hn
    obtain rfl : n = M := by omega
    exact Ev.step (fun k => by rw [impl_GreatestWaits.l0]) (ev_neg (by omega) (ev_now _))
  | succ d ih =>
    intro n hn
    have ih := ih (n + 1) (by omega)
    rw [tab_succ] at ih
    have hw := waitsOf_len l (n : Int)
    refine Ev.step (fun k => by rw [impl_GreatestWaits.l0]) (ev_pos (by omega) (ev_bind (waits_ev l n (by omega)) (ev_bind (greatest_ev (waitsOf l (n : Int)) (by omega)) (ev_pos (tab_small _ M hM n (by omega)) ?_))))
    rw [wrap_succ (n := n) (by omega)]
    exact ih
theorem GreatestWaits_impl (l : List Int) : Ev (fun k => impl_GreatestWaits.f k l) (gwR l) := by
  unfold impl_GreatestWaits.f gwR
  refine ev_fix (areTurns_f l 8) ?_
  cases ht : isTurns l 8 with
  | false => exact ev_neg (by simp) (ev_now _)
  | true =>
    have hl := isTurns_len ht
    obtain ⟨t1, t2, _⟩ := topT_bounds (l := l) (b := 7) (by omega) (fun x hx => (isTurns8_mem ht hx).2)
    rw [if_pos rfl]
    refine ev_pos rfl (ev_bind (MaxT_ev l (by omega) hl.1 (fun x hx => (isTurns8_mem ht hx).1)) ?_)
    rw [wrap_id (x := topT l + 1) (by omega) (by omega)]
    have h := gw_l0 l hl.2 (topT l + 1).toNat (by omega) (topT l + 1).toNat 0 (by omega)
    rw [show (((topT l + 1).toNat : Nat) : Int) = topT l + 1 by omega] at h
    exact h
end Go.Proofs.Ytfmjckkgnieccaa.Pure
end
section
namespace Go.Proofs.Ytfmjckkgnieccaa.Pure
open Go.RowKit Go.Proofs.Ytfmjckkgnieccaa.P Go.Proofs.YtfmjckkgnieccaaW.PrintWords Go.Proofs.YtfmjckkgnieccaaW.PrintLast Go.Proofs.YtfmjckkgnieccaaW.PrintMore
set_option linter.unusedVariables false
set_option linter.unusedSimpArgs false
theorem posOf_two (x : Int) (l : List Int) : ∀ (o a b : Int) (t : List Int), posOf x o l = a :: b :: t → a < b := by
  induction l with
  | nil => intro o a b t h; simp [posOf] at h
  | cons y l ih =>
    intro o a b t h
    rw [posOf] at h
    split at h
    · have h1 := (List.cons.inj h).1
      have h2 := (List.cons.inj h).2
      have := posOf_range x l (o + 1) b (by rw [h2]; exact List.mem_cons_self)
      omega
    · exact ih _ _ _ _ h
theorem first_wait (l : List Int) (x : Int) : 0 ≤ rd (waitsOf l x) 0 := by
  cases h : posOf x 0 l with
  | nil => simp [waitsOf, h, rd]
  | cons a t =>
    cases t with
    | nil =>
      have e : waitsOf l x = [(l.length : Int) - a + a] := by simp [waitsOf, h, diffs]
      rw [e]
      show 0 ≤ (l.length : Int) - a + a
      omega
    | cons b t =>
      have e : rd (waitsOf l x) 0 = b - a := by simp [waitsOf, h, diffs, rd]
      have := posOf_two x l 0 a b t h
      rw [e]
      omega
theorem rows5_ev (l : List (List Int)) (hl : l.length ≤ 1048576) (hx : ∀ x ∈ l, x.length ≤ 1048576) : Ev (fun k => laws_rows5.f k l l) true := by
  have main : ∀ d n : Nat, n + d = l.length → Ev (fun k => laws_rows5.l0 k l l (n : Int)) true := by
    intro d
    induction d with
    | zero =>
      intro n hn
      refine Ev.step (fun k => by rw [laws_rows5.l0]) ?_
      exact ev_neg (by omega) (ev_now true)
    | succ d ih =>
      intro n hn
      have hlt : n < l.length := by omega
      have e : rd_L2 l (n : Int) = l[n] := by simp [rd_L2, hlt]
      refine Ev.step (fun k => by rw [laws_rows5.l0]) ?_
      rw [e, wrap_succ (by omega)]
      exact ev_pos (by omega) (ev_pos (by omega) (ev_pos (by omega) (ev_bind (likeInts_ev l[n] (by have := hx _ (List.getElem_mem hlt); omega)) (ev_pos rfl (ih (n + 1) (by omega))))))
  unfold laws_rows5.f
  exact ev_pos rfl (main l.length 0 (by omega))
theorem DrawSmoothTurns_evp {b : List Int} (hb : Bytes b) : EvP (fun k => spec_DrawSmoothTurns.f k b) (fun r => r.length ≤ 1000) := by
  unfold spec_DrawSmoothTurns.f
  refine evp_from hb fun h => evp_pick hb (ok_start b) (by decide) fun p i2 h2 hp hi2 => evp_bind (L07Draw_evp hb hi2 h2 p (by simp at hp; omega)) fun r hr => evp_now hr.1
theorem L07Any_evp {b : List Int} (hb : Bytes b) : EvP (fun k => spec_l07Any.f k b) (fun r => r.length ≤ 1000) := by
  unfold spec_l07Any.f
  refine evp_from hb fun h => evp_pick hb (ok_start b) (by decide) fun p i2 h2 hp hi2 => evp_bind (L07Draw_evp hb hi2 h2 p (by simp at hp; omega)) fun r hr => evp_now hr.1
theorem DrawSpreadsOf_evp {b : List Int} (hb : Bytes b) : EvP (fun k => spec_DrawSpreadsOf.f k b) (fun r => r.length ≤ 1000) := by
  unfold spec_DrawSpreadsOf.f
  exact evp_bind (L07Any_evp hb) fun r hr => evp_now hr
theorem DrawSquaresOf_evp {b : List Int} (hb : Bytes b) : EvP (fun k => spec_DrawSquaresOf.f k b) (fun r => r.length ≤ 1000) := by
  unfold spec_DrawSquaresOf.f
  exact evp_bind (L07Any_evp hb) fun r hr => evp_now hr
theorem DrawExchangeSlots_evp {b : List Int} (hb : Bytes b) : EvP (fun k => spec_DrawExchangeSlots.f k b) (fun r => r.1.length ≤ 1000) := by
  unfold spec_DrawExchangeSlots.f
  refine evp_from hb fun h => evp_pick hb (ok_start b) (by decide) fun p i2 h2 hp hi2 => evp_bind (L07Draw_evp hb hi2 h2 p (by simp at hp; omega)) ?_
  rintro ⟨l, i3, h3⟩ ⟨hl, hi3⟩
  exact evp_near hb hi3 fun v i4 h4 hi4 _ => evp_near hb hi4 fun t i6 h6 hi6 _ => evp_now hl
theorem Exch_end {b : List Int} (hb : Bytes b) : Ev (fun k => (spec_DrawSquaresOf.f k b).bind fun t => (impl_SquaresOf.f k t).bind fun x => (spec_SquaresOf.f k t).bind fun y => if x.2 = y.2 then some (x.1 == y.1) else some false) true := by
  refine evp_true ?_
  refine evp_bind (DrawSquaresOf_evp hb) fun l hl => evp_ev (SquaresOf_impl l (by omega)) (evp_ev (SquaresOf_spec l (by omega)) ?_)
  exact evp_pos rfl (evp_now (by simp))
theorem Exch_l0 {b : List Int} (hb : Bytes b) (l : List Int) (L : Level l) : ∀ d n : Nat, n + d = (great l + 1).toNat →
    Ev (fun k => laws_FnExchanges.l0 k b (spreadsL l (great l + 1).toNat) (tab (fun i => great (waitsOf l (i : Int))) (great l + 1).toNat) (((great l + 1).toNat : Nat) : Int) (n : Int)) true := by
  have ht := L.top
  intro d
  induction d with
  | zero =>
    intro n hn
    refine Ev.step (fun k => by rw [laws_FnExchanges.l0]) ?_
    exact ev_neg (by omega) (Exch_end hb)
  | succ d ih =>
    intro n hn
    have hw := waits_pos l L n (by omega)
    have hlt : n < (spreadsL l (great l + 1).toNat).length := by rw [spreadsL_length]; omega
    have hlt2 : n < (tab (fun i => great (waitsOf l (i : Int))) (great l + 1).toNat).length := by rw [tab_length]; omega
    have e : rd_L2 (spreadsL l (great l + 1).toNat) (n : Int) = [lowW (waitsOf l (n : Int)), highW (waitsOf l (n : Int))] := by
      have : rd_L2 (spreadsL l (great l + 1).toNat) (n : Int) = (spreadsL l (great l + 1).toNat)[n] := by simp [rd_L2, hlt]
      rw [this]
      simp [spreadsL]
    have e2 : rd (tab (fun i => great (waitsOf l (i : Int))) (great l + 1).toNat) (n : Int) = great (waitsOf l (n : Int)) := by
      rw [rd_nat hlt2, tab_get]
    have h1 := high_great (waitsOf l (n : Int)) hw (first_wait l n)
    have h2 := low_high (waitsOf l (n : Int))
    have g1 : rd [lowW (waitsOf l (n : Int)), highW (waitsOf l (n : Int))] 1 = highW (waitsOf l (n : Int)) := rfl
    have g0 : rd [lowW (waitsOf l (n : Int)), highW (waitsOf l (n : Int))] 0 = lowW (waitsOf l (n : Int)) := rfl
    refine Ev.step (fun k => by rw [laws_FnExchanges.l0]) ?_
    rw [e, e2, g1, g0, wrap_succ (by omega)]
    exact ev_pos (by omega) (ev_pos (by omega) (ev_pos (by omega) (ev_pos (show (1 : Int) < ((2 : Nat) : Int) by omega) (ev_pos (by omega) (ev_pos h1 (ev_pos (show (0 : Int) < ((2 : Nat) : Int) by omega) (ev_neg (by omega) (ih (n + 1) (by omega)))))))))
theorem Exch_j4 {b : List Int} (hb : Bytes b) : Ev (fun k => laws_FnExchanges.j4 k b) true := by
  refine Ev.step (fun k => by rw [laws_FnExchanges.j4]) ?_
  refine evp_true ?_
  refine evp_bind (DrawSpreadsOf_evp hb) fun l hl => evp_of ?_ rfl
  obtain ⟨s1, s2⟩ := spreadR_small l
  refine ev_bind (SpreadsOf_impl l (by omega)) (ev_bind (SpreadsOf_spec l (by omega)) (ev_bind (GreatestDifference_impl l (by omega)) (ev_bind (GreatestDifference_spec l (by omega)) ?_)))
  refine ev_pos rfl (ev_bind (rows5_ev _ (by omega) (fun x hx => by have := s2 x hx; omega)) (ev_pos rfl (ev_pos rfl ?_)))
  rw [bne_self_eq_false]
  refine Ev.step (fun k => by rw [laws_FnExchanges.j5]) ?_
  refine ev_neg (by simp) ?_
  by_cases h : levelR l = 0
  · have L := levelR_zero h
    have ht := L.top
    have e1 : spreadR l = (spreadsL l (great l + 1).toNat, 0) := by rw [spreadR, if_pos h]
    have e2 : gwR l = (tab (fun i => great (waitsOf l (i : Int))) (great l + 1).toNat, 0) := by
      rw [gwR, if_pos L.turns, topT_great L.len.1 (fun x hx => (L.mem x hx).1)]
    have hg := GreatestWaits_impl l
    rw [e2] at hg
    rw [e1]
    refine ev_pos rfl (ev_bind hg (ev_pos rfl ?_))
    have ee : (((tab (fun i => great (waitsOf l (i : Int))) (great l + 1).toNat).length : Int) != ((spreadsL l (great l + 1).toNat).length : Int)) = false := by
      rw [tab_length, spreadsL_length]; exact bne_self_eq_false _
    show Ev (fun k => laws_FnExchanges.j6 k b (spreadsL l (great l + 1).toNat) (tab (fun i => great (waitsOf l (i : Int))) (great l + 1).toNat) (((tab (fun i => great (waitsOf l (i : Int))) (great l + 1).toNat).length : Int) != ((spreadsL l (great l + 1).toNat).length : Int))) true
    rw [ee]
    refine Ev.step (fun k => by rw [laws_FnExchanges.j6]) ?_
    refine ev_neg (by simp) ?_
    rw [tab_length]
    exact Exch_l0 hb l L (great l + 1).toNat 0 (by omega)
  · have e1 : spreadR l = ([], levelR l) := by rw [spreadR, if_neg h]
    rw [e1]
    exact ev_neg h (Exch_end hb)
theorem Exch_j2 {b : List Int} (hb : Bytes b) : Ev (fun k => laws_FnExchanges.j2 k b) true := by
  refine Ev.step (fun k => by rw [laws_FnExchanges.j2]) ?_
  refine evp_true ?_
  refine evp_bind (DrawExchangeSlots_evp hb) fun r hr => evp_of ?_ rfl
  obtain ⟨l, n, m⟩ := r
  have hl : l.length ≤ 1000 := hr
  have hq := exchR_length l n m
  refine ev_fix (impl_ExchangeSlots_f l n m (by omega)) (ev_bind (spec_ExchangeSlots_ev l n m (by omega)) (ev_pos rfl (ev_bind (likeInts_ev (exchR l n m).1 (by omega)) ?_)))
  refine Ev.step (fun k => by rw [laws_FnExchanges.j3]) ?_
  refine ev_neg (by simp) ?_
  by_cases h : isTurns l 8 = true ∧ (0 ≤ n ∧ n < l.length) ∧ (0 ≤ m ∧ m < l.length)
  · have e : exchR l n m = (exch l n m, 0) := by rw [exchR, if_pos h]
    have S : SameT l (exch l n m) := by
      have := exch_same l n.toNat m.toNat (by omega) (by omega)
      rw [show ((n.toNat : Nat) : Int) = n by omega, show ((m.toNat : Nat) : Int) = m by omega] at this
      exact this
    have hlen := exch_length l n m
    have e2 : exchR (exch l n m) m n = (l, 0) := by
      rw [exchR, if_pos ⟨S.trn 8 h.1, by rw [hlen]; exact h.2.2, by rw [hlen]; exact h.2.1⟩, exch_back l n m h.2.1 h.2.2]
    rw [e]
    have hf := impl_ExchangeSlots_f (exch l n m) m n (by omega)
    rw [e2] at hf
    exact ev_pos rfl (ev_fix hf (ev_pos rfl (ev_bind (likeInts_ev l (by omega)) (ev_pos rfl (Exch_j4 hb)))))
  · have e : exchR l n m = ([], 2) := by rw [exchR, if_neg h]
    rw [e]
    exact ev_neg (by decide) (Exch_j4 hb)
theorem Exch_j0 {b l : List Int} (hb : Bytes b) (hl : l.length ≤ 1000) : Ev (fun k => laws_FnExchanges.j0 k b l (smoothR l).1 (smoothR l).2 (if levelR l = 0 then (foldD sqD l, 0) else (0, levelR l)).1 (bestR l).1 (bestR l).2.1 (bestR l).2.2 false) true := by
  refine Ev.step (fun k => by rw [laws_FnExchanges.j0]) ?_
  refine ev_neg (by simp) ?_
  by_cases h : levelR l = 0
  · have L := levelR_zero h
    obtain ⟨L2, b2, q2⟩ := smooth_end l L
    have e1 : smoothR l = (smooth l, 0) := by rw [smoothR, if_pos h]
    have sl := L2.len
    have hs := SquaresOf_impl (smooth l) (by omega)
    rw [if_pos L2.zero] at hs
    have hbe := BestExchange_impl (smooth l) (by omega)
    have e3 : bestR (smooth l) = (0, 0, 4) := by rw [bestR, if_pos L2.zero, b2]
    rw [e3] at hbe
    rw [if_pos h, e1]
    refine ev_pos rfl (ev_bind hs (ev_bind hbe (ev_pos rfl (ev_pos rfl (ev_neg (show ¬ foldD sqD (smooth l) > foldD sqD l by omega) ?_)))))
    cases hp : (best l).2 with
    | none =>
      have e4 : bestR l = (0, 0, 4) := by rw [bestR, if_pos h, hp]
      have e5 := smooth_none l hp
      rw [e4]
      have ee : (decide (foldD sqD (smooth l) < foldD sqD l) != ((4 : Int) == 0)) = false := by
        rw [e5, decide_eq_false (by omega)]; rfl
      show Ev (fun k => laws_FnExchanges.j1 k b l (foldD sqD l) 0 0 4 (foldD sqD (smooth l)) (decide (foldD sqD (smooth l) < foldD sqD l) != ((4 : Int) == 0))) true
      rw [ee]
      refine Ev.step (fun k => by rw [laws_FnExchanges.j1]) ?_
      exact ev_neg (by simp) (ev_neg (by decide) (Exch_j2 hb))
    | some p =>
      obtain ⟨⟨p1, p2⟩, L3, _, lt⟩ := best_some l L p hp
      have e4 : bestR l = ((p.1 : Int), (p.2 : Int), 0) := by rw [bestR, if_pos h, hp]
      have le := smooth_some l L p hp
      rw [e4]
      have ee : (decide (foldD sqD (smooth l) < foldD sqD l) != ((0 : Int) == 0)) = false := by
        rw [decide_eq_true (by omega)]; rfl
      show Ev (fun k => laws_FnExchanges.j1 k b l (foldD sqD l) (p.1 : Int) (p.2 : Int) 0 (foldD sqD (smooth l)) (decide (foldD sqD (smooth l) < foldD sqD l) != ((0 : Int) == 0))) true
      rw [ee]
      have hf := impl_ExchangeSlots_f l (p.1 : Int) (p.2 : Int) (by omega)
      have e6 : exchR l (p.1 : Int) (p.2 : Int) = (exch l p.1 p.2, 0) := by rw [exchR, if_pos ⟨L.turns, by omega, by omega⟩]
      rw [e6] at hf
      have hlen := exch_length l (p.1 : Int) (p.2 : Int)
      have hs3 := SquaresOf_impl (exch l p.1 p.2) (by omega)
      rw [if_pos L3.zero] at hs3
      refine Ev.step (fun k => by rw [laws_FnExchanges.j1]) ?_
      refine ev_neg (by simp) (ev_pos rfl (ev_fix hf (ev_bind hs3 (ev_pos rfl (ev_pos rfl ?_)))))
      exact ev_neg (show ¬ foldD sqD (exch l p.1 p.2) ≥ foldD sqD l by omega) (ev_neg (show ¬ foldD sqD (exch l p.1 p.2) < foldD sqD (smooth l) by omega) (Exch_j2 hb))
  · have e1 : smoothR l = ([], levelR l) := by rw [smoothR, if_neg h]
    rw [e1]
    exact ev_neg h (Exch_j2 hb)
theorem FnExchanges : laws_FnExchanges.Pure := by
  intro b _ _ hw
  have hb0 : ∀ x ∈ b, 0 ≤ x ∧ x ≤ 255 := fun x hx => by
    have h := hw x hx
    rw [Lit.wf, Bool.and_eq_true] at h
    exact ⟨of_decide_eq_true h.1, of_decide_eq_true h.2⟩
  refine ev_rounds (g := fun k => laws_FnExchanges.f k b) ?_
  unfold laws_FnExchanges.f
  refine ev_fix (a := decide ((b.length : Int) > 4096)) rfl ?_
  by_cases c : (b.length : Int) > 4096
  · exact ev_pos (decide_eq_true c) (ev_now _)
  have hb : Bytes b := ⟨hb0, by omega⟩
  refine ev_neg (by rw [decide_eq_false c]; simp) (evp_true ?_)
  refine evp_bind (DrawSmoothTurns_evp hb) fun l hl => evp_of ?_ rfl
  have hr := smoothR_length l
  refine ev_bind (SmoothTurns_impl l (by omega)) (ev_bind (SmoothTurns_spec l (by omega)) (ev_bind (SquaresOf_impl l (by omega)) (ev_bind (SquaresOf_spec l (by omega)) (ev_bind (BestExchange_impl l (by omega)) (ev_bind (BestExchange_spec l (by omega)) ?_)))))
  refine ev_pos rfl (ev_bind (likeInts_ev _ (by omega)) (ev_pos rfl (ev_pos rfl (ev_pos rfl (ev_pos rfl (ev_pos rfl ?_))))))
  rw [bne_self_eq_false]
  exact Exch_j0 hb hl
end Go.Proofs.Ytfmjckkgnieccaa.Pure
end
section
namespace Go.Proofs.Ytfmjckkgnieccaa.fnExchanges
open Go.ChangeShapes Go.WideShapes Go.ChangeAt Go.RowKit
open Go.ChangeMaps (open_string shut_string)
set_option linter.unusedVariables false
theorem own : ownKnob Try.prog.godebug = none := by kernel_rfl
theorem laidOut : laidOutB Try.prog = true := by kernel_rfl
def IsRow (k : IntKind) (w : World) (a : Option Addr) (len cap : Nat) (zs : List Int) : Prop :=
  (a = none ∧ len = 0 ∧ cap = 0 ∧ zs = []) ∨
  ∃ x, a = some x ∧ len ≤ cap ∧ cap ≤ maxLen ∧ zs.length = cap ∧ (∀ i, i < zs.length → w.cell? (x.add i) = some (.int k (zs.getD i 0))) ∧ ∀ n ∈ zs, (Lit.int k n).wf = true
set_option maxRecDepth 100000 in
theorem lifted (os : Os) (started : os.Started) (H : Type) (enc : TypeId × Value → H) :
    ReturnsInHanded {} Try.checked os 3 .any (Rows.fnExchangesSpec.pre6 enc Try.prog Try.f3 Rows.fnExchangesRow.domain false) (Rows.fnExchangesSpec.post enc Try.prog Try.f3 false true false false) := by
  refine returnsInHanded_of_change_sized (C := Try.checked) own started (by kernel_rfl) Try.func3
    (ChangeSpec.witness6 (enc := enc) (C := Try.checked) false ⟨#[], #[.slice none 0 0], []⟩ 8 (by kernel_rfl) (by kernel_rfl) (by kernel_rfl) (by kernel_rfl)) ?_
  intro W base args ds gs before hval0 hW hcnd hsz0 _
  have hsz : (DataW.weightsEach Try.prog (Try.f3.params.toList ++ Rows.fnExchangesSpec.plain.varTypes Try.prog) (ds ++ gs)).all (· ≤ reachBytes) = true := hsz0
  have hval : ∀ (j : Nat) t v, Try.f3.params[j]? = some t → args[j]? = some v → Value.okWide Try.prog W .any base t v := hval0
  have hW' := hW
  obtain ⟨p, q, hA0, hV, rfl, hfz, hnd⟩ := hW
  have hA : DataW.TrodAll enc Try.prog W 0 (fun _ => true) true Try.f3.params.toList args.toList ds p := hA0
  rw [Try.params3] at hA hval hsz
  obtain ⟨v0, vs0, d0, ds0, p0, q0, hargs, rfl, rfl, h0, r0⟩ := trodAll_cons hA
  obtain ⟨rfl, rfl, rfl⟩ := trodAll_nil r0
  obtain rfl : args = #[v0] := by cases args; simp_all
  obtain ⟨rfl, rfl⟩ := trodVars_none hV
  obtain ⟨a0, len0, cap0, rfl⟩ := okWide_slice Try.underlying22 (hval 0 22 v0 rfl rfl)
  have k0 := h0
  have lt0 : ∀ x ∈ p0, x.block < W.heap.size := by obtain ⟨m, hm⟩ := k0; exact DataW.trod_lt m _ _ _ hm
  obtain ⟨z0, w0⟩ : ∃ zs, IsRow .u8 W a0 len0 cap0 zs := by
    obtain ⟨fuel, hf⟩ := h0
    rcases open_ints Try.underlying22 Try.underlying5 (by kernel_rfl) hf with ⟨hcs, _⟩ | ⟨x, l, c, zs, hcs, _, hl, hm, hz, _, hcell, hwz⟩
    · simp [Value.cells] at hcs
      obtain ⟨rfl, rfl, rfl⟩ := hcs
      exact ⟨[], .inl ⟨rfl, rfl, rfl, rfl⟩⟩
    · simp [Value.cells] at hcs
      obtain ⟨rfl, rfl, rfl⟩ := hcs
      exact ⟨zs, .inr ⟨_, rfl, hl, hm, by simpa using hz, hcell, hwz⟩⟩
  have y0 : len0 * 1 ≤ 140737488351232 := Go.Proofs.YtfmjckkgnieccaaW.PrintWords.sized_ints hsz (j := 0) (t := 22) rfl rfl Try.underlying22 Try.underlying5 (by kernel_rfl) (by kernel_rfl) h0
  clear hA0 hval0 hsz0 hsz
  refine (P.laws_FnExchanges.walk Pure.FnExchanges a0 len0 cap0 z0 W w0 y0).mono fun e W' ⟨he, bel⟩ => ?_
  subst he
  exact ⟨_, rfl, _, _, _, [], _, [], hW', trodAll_mk1 (shut_bool Try.underlying4 _), (trodAll_cons_mk (Below.trod laidOut (by kernel_rfl) (of_decide_eq_true (by kernel_rfl)) k0 bel lt0) trodAll_mk0), rfl, bel.frame _, fun h => by cases h⟩
theorem over : Rows.fnExchangesRow.holds Try.pinned (OpenSpec.ofChange Rows.fnExchangesSpec) :=
  OpenClaim.holds_of_wide 3 Try.f3 rfl rfl rfl rfl rfl rfl rfl ⟨rfl, rfl, rfl, rfl, rfl⟩ rfl rfl rfl rfl rfl (by kernel_rfl) Try.func3 (by kernel_rfl)
    (of_decide_eq_true (by kernel_rfl)) (by unfold Func.isWrapper; first | (rw [if_pos (by decide +kernel)]; kernel_rfl) | (rw [if_neg (by decide +kernel)]; exact ⟨rfl, rfl⟩))
    (fun os started H enc _ => lifted os started H enc)
theorem proved : Rows.FnExchangesSaid := over
end Go.Proofs.Ytfmjckkgnieccaa.fnExchanges
namespace Go.Proofs.Ytfmjckkgnieccaa
/-- The row, under a short name, for the claim. -/
theorem fnExchanges_holds : Rows.FnExchangesSaid := fnExchanges.proved
end Go.Proofs.Ytfmjckkgnieccaa
end
