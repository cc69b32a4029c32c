/- Folded tasks served by turns are served by the divided turns, the gaps that turns serve are the least ones, and who asks more has greater gaps. -/
import Derived.Test.YtliepcfgcglcmaaGreatCFnFolding10
import Derived.Test.YtliepcfgcglcmaaGreatRows
section
namespace Go.Proofs.YtliepcfgcglcmaaGreat.Pure
open Go.RowKit Go.Proofs.YtliepcfgcglcmaaGreat.P Go.Proofs.YtliepcfgcglcmaaGreatW.PrintWords Go.Proofs.YtliepcfgcglcmaaGreatW.PrintLast Go.Proofs.YtliepcfgcglcmaaGreatW.PrintMore
set_option linter.unusedVariables false
set_option linter.unusedSimpArgs false
theorem Uv (G : List Int) (hl : G.length ≤ 1048576) (i j : Int) : Ev (fun k => Bc.f k G i j) (Mo G i j) := by
 have off : ¬ (0 ≤ i ∧ i < j ∧ j < (G.length : Int)) → Ev (fun k => Bc.j0 k i j (if Dl G = true then (if false = true then 0 else 2) else 1) G) (Mo G i j) := by
  intro h
  refine Ev.step (fun k => by rw [Bc.j0]) ?_
  cases ht : Dl G with
  | false => rw [Tw ht]; exact Ca (by simp) (Ds _)
  | true => rw [Tr ht h]; exact Ca (by simp) (Ds _)
 unfold Bc.f
 refine Ew (Zk G i hl) ?_
 by_cases c1 : 0 ≤ i ∧ i < (G.length : Int)
 ·
  refine Aq (decide_eq_true c1) (Ew (Zk G j hl) ?_)
  by_cases c2 : 0 ≤ j ∧ j < (G.length : Int)
  ·
   refine Aq (decide_eq_true c2) (Ew (Pc G _) ?_)
   by_cases c3 : i < j
   ·
    rw [decide_eq_true c3]
    refine Ev.step (fun k => by rw [Bc.j0]) ?_
    have hr : 0 ≤ i ∧ i < j ∧ j < (G.length : Int) := ⟨c1.1, c3, c2.2⟩
    cases ht : Dl G with
    | false => rw [Tw ht]; exact Ca (by simp) (Ds _)
    | true =>
     obtain ⟨h8, hG⟩ := (Eo G).1 ht
     refine Aq rfl (Aq c1.1 (Aq c1.2 ?_))
     by_cases d1 : rd G i = 1
     ·
      rw [Sc ht hr (.inl d1)]
      exact Aq d1 (Ev.step (fun k => by rw [Bc.j1]) (Aq rfl (Ds _)))
     ·
      refine Ca d1 (Aq c2.1 (Aq c2.2 (Ev.step (fun k => by rw [Bc.j1]) ?_)))
      by_cases d2 : rd G j = 1
      ·
       rw [Sc ht hr (.inr d2)]
       exact Aq (beq_iff_eq.2 d2) (Ds _)
      ·
       rw [Xd ht hr (fun h => h.elim d1 d2)]
       have hv := (Uo hG c1 c2).2.1
       have hs : (G.set i.toNat (Mg G i j)).length = G.length := List.length_set
       refine Ca (fun h => d2 (beq_iff_eq.1 h)) (Ew (q2J G (by omega)) (Aq c1.1 (Aq c1.2 (Aq c2.1 (Aq c2.2 ?_)))))
       rw [show wrap64 (Int.tdiv (mn (rd G i) (rd G j)) 2) = Mg G i j from hv]
       exact Ew (q2e (G.set i.toNat (Mg G i j)) j c2.1 (by omega) (by omega)) (Ds _)
   ·
    rw [decide_eq_false c3]
    exact off (by omega)
  ·
   exact Ca (fun h => c2 (of_decide_eq_true h)) (Ew (Pc G _) (off (by omega)))
 ·
  exact Ca (fun h => c1 (of_decide_eq_true h)) (Ew (Pc G _) (off (by omega)))
theorem Vc (G : List Int) (hl : G.length ≤ 1048576) (i j : Int) : Ev (fun k => Bp.f k G i j) (Mo G i j) := by
 unfold Bp.f
 refine Ea (Qs G hl) ?_
 cases ht : Dl G with
 | false => rw [Tw ht]; exact Ca (by simp) (Ds _)
 | true =>
  obtain ⟨h8, hG⟩ := (Eo G).1 ht
  refine Aq rfl (Ew (show Dt.f G = some (G.length : Int) from rfl) (Ew (Nk _ _ _) ?_))
  rw [Ek (x := (G.length : Int) - 1) (by omega) (by omega)]
  by_cases c1 : 0 ≤ i ∧ i ≤ (G.length : Int) - 1
  ·
   refine Aq (decide_eq_true c1) (Ew (show Dt.f G = some (G.length : Int) from rfl) (Ew (Nk _ _ _) (Ev.step (fun k => by rw [Bp.j0]) ?_)))
   rw [Ek (x := (G.length : Int) - 1) (by omega) (by omega), Ek (x := i + 1) (by omega) (by omega)]
   by_cases c2 : i + 1 ≤ j ∧ j ≤ (G.length : Int) - 1
   ·
    have hr : 0 ≤ i ∧ i < j ∧ j < (G.length : Int) := by omega
    rw [decide_eq_true c2]
    refine Ca (by simp) (Aq hr.1 (Aq (by omega) ?_))
    by_cases d1 : rd G i = 1
    ·
     rw [Sc ht hr (.inl d1)]
     exact Aq d1 (Ds _)
    ·
     refine Ca d1 (Aq (by omega) (Aq hr.2.2 ?_))
     by_cases d2 : rd G j = 1
     ·
      rw [Sc ht hr (.inr d2)]
      exact Aq d2 (Ds _)
     ·
      rw [Xd ht hr (fun h => h.elim d1 d2)]
      have hv := (Uo hG (i := i) (j := j) (by omega) (by omega)).2.1
      have hw : wrap64 (j + 1) = j + 1 := Ek (by omega) (by omega)
      have ht : (G.take j.toNat).length = j.toNat := by rw [List.length_take]; omega
      have hd : (G.drop (j + 1).toNat).length = G.length - (j + 1).toNat := List.length_drop
      refine Ca d2 (Aq (by omega) (Ew (Sd (G.take j.toNat) (by omega)) ?_))
      rw [hw]
      refine Aq (by omega) (Aq (by omega) (Aq (by omega) (Ew rfl (Aq (by rw [List.length_append]; omega) (Ly ?_)))))
      rw [show wrap64 (Int.tdiv (mn (rd G i) (rd G j)) 2) = Mg G i j from hv]
      congr 1
      congr 1
      unfold Nf
      rw [List.set_append_left _ _ (by omega), List.take_set, List.drop_set_of_lt (by omega)]
   ·
    rw [decide_eq_false c2, Tr ht (by omega)]
    exact Aq (by simp) (Ds _)
  ·
   rw [Tr ht (by omega)]
   exact Ca (fun h => c1 (of_decide_eq_true h)) (Ev.step (fun k => by rw [Bp.j0]) (Aq rfl (Ds _)))
def De (l : List Int) (m : Nat) : List Int := tab (fun n => great (Ex l (n : Int))) m
def Kx (l : List Int) (m : Int) : List Int × Int := if (1 ≤ m ∧ m ≤ 8) ∧ Fm l m = true then (if (De l m.toNat).contains 0 = true then ([], 4) else if Dl (De l m.toNat) = true then (De l m.toNat, 0) else ([], 3)) else ([], 2)
theorem Ro (l : List Int) (hl : l.length ≤ 1048576) (m : Nat) (hm : m ≤ 8) : ∀ d n : Nat, n + d = m →
    Ev (fun k => Bi.l0 k l (m : Int) (n : Int) (De l n)) (if (De l m).contains 0 = true then ([], 4) else if Dl (De l m) = true then (De l m, 0) else ([], 3)) := by
  intro d
  induction d with
  | zero =>
    intro n hn
    obtain rfl : n = m := by omega
    refine Ev.step (fun k => by rw [Bi.l0]) (Ca (by omega) (Ea (Yr (De l n) 0 (by rw [De, Ls]; omega)) ?_))
    cases c : (De l n).contains 0 with
    | true => exact Aq rfl (Ly rfl)
    | false =>
      refine Ca (by simp) (Ew (Nl _) ?_)
      cases e : Dl (De l n) with
      | true => exact Aq rfl (Ly rfl)
      | false => exact Ca (by simp) (Ly rfl)
  | succ d ih =>
    intro n hn
    have hw := Qo l (n : Int)
    have hs : (De l n).length < 17592186044416 := by rw [De, Ls]; omega
    refine Ev.step (fun k => by rw [Bi.l0]) (Aq (by omega) (Ea (Yd l n hl) (Ea (Sw (Ex l (n : Int)) (by omega)) (Aq hs ?_))))
    have h := ih (n + 1) (by omega)
    rw [Dj (by omega)]
    have e : De l (n + 1) = De l n ++ [great (Ex l (n : Int))] := Xz _ _
    rw [e] at h
    exact h
theorem Tj (l : List Int) (hl : l.length ≤ 1048576) (m : Int) : Ev (fun k => Bi.f k l m) (Kx l m) := by
 unfold Bi.f Kx
 refine Ew (Mp _ _ _) ?_
 by_cases c : 1 ≤ m ∧ m ≤ 8
 ·
  refine Aq (decide_eq_true c) (Ew (Rs l m) (Ev.step (fun k => by rw [Bi.j0]) ?_))
  cases ht : Fm l m with
  | false =>
   rw [if_neg (fun h => absurd h.2 (by simp))]
   exact Aq rfl (Ds _)
  | true =>
   rw [if_pos ⟨c, rfl⟩]
   have h := Ro l hl m.toNat (by omega) m.toNat 0 (by omega)
   rw [show ((m.toNat : Nat) : Int) = m by omega] at h
   exact Ca (by simp) h
 ·
  rw [if_neg (fun h => c h.1)]
  exact Ca (by rw [decide_eq_false c]; simp) (Ev.step (fun k => by rw [Bi.j0]) (Aq rfl (Ds _)))
theorem Pt {l : List Int} {m n : Nat} (h : n < m) : rd (De l m) (n : Int) = great (Ex l (n : Int)) := by
 rw [Er (by rw [De, Ls]; exact h)]
 exact q2N _ _ _ _
theorem Rm (l : List Int) (hl : l.length ≤ 1048576) (m : Nat) (hm : m ≤ 8) : ∀ d n : Nat, n + d = m → (∀ x ∈ De l n, x ≠ 0) →
    Ev (fun k => Bo.l0 k l (m : Int) (n : Int) (De l n)) (if (De l m).contains 0 = true then ([], 4) else if Dl (De l m) = true then (De l m, 0) else ([], 3)) := by
  intro d
  induction d with
  | zero =>
    intro n hn hz
    obtain rfl : n = m := by omega
    have c : (De l n).contains 0 = false := by
      rw [List.contains_eq_mem]
      exact decide_eq_false (fun h => hz 0 h rfl)
    refine Ev.step (fun k => by rw [Bo.l0]) (Ca (by omega) (Ea (Qs _ (by rw [De, Ls]; omega)) ?_))
    rw [c]
    cases e : Dl (De l n) with
    | true => exact Aq rfl (Ly rfl)
    | false => exact Ca (by simp) (Ly rfl)
  | succ d ih =>
    intro n hn hz
    have e : De l (n + 1) = De l n ++ [great (Ex l (n : Int))] := Xz _ _
    refine Ev.step (fun k => by rw [Bo.l0]) (Aq (by omega) (Ea (Nm l n hl) ?_))
    by_cases c : great (Ex l (n : Int)) = 0
    · have h0 : (De l m).contains 0 = true := by
        rw [List.contains_eq_mem]
        refine decide_eq_true ?_
        have := Fs (l := De l m) (i := (n : Int)) (by omega) (by rw [De, Ls]; omega)
        rwa [Pt (by omega), c] at this
      rw [if_pos h0]
      exact Aq c (Ds _)
    · refine Ca c (Aq (by rw [De, Ls]; omega) ?_)
      have h := ih (n + 1) (by omega) (by
        rw [e]
        intro x hx
        rcases List.mem_append.1 hx with hx | hx
        · exact hz x hx
        · rw [List.mem_singleton.1 hx]; exact c)
      rw [Dj (by omega)]
      rw [e] at h
      exact h
theorem Tn (l : List Int) (hl : l.length ≤ 1048576) (m : Int) : Ev (fun k => Bo.f k l m) (Kx l m) := by
 unfold Bo.f Kx
 refine Ew (Nk _ _ _) ?_
 by_cases c : 1 ≤ m ∧ m ≤ 8
 ·
  refine Aq (decide_eq_true c) (Ea (Su l m (by omega)) (Ev.step (fun k => by rw [Bo.j0]) ?_))
  cases ht : Fm l m with
  | false =>
   rw [if_neg (fun h => absurd h.2 (by simp))]
   exact Aq rfl (Ds _)
  | true =>
   rw [if_pos ⟨c, rfl⟩]
   have h := Rm l hl m.toNat (by omega) m.toNat 0 (by omega) (by simp [De, tab])
   rw [show ((m.toNat : Nat) : Int) = m by omega] at h
   exact Ca (by simp) h
 ·
  rw [if_neg (fun h => c h.1)]
  exact Ca (by rw [decide_eq_false c]; simp) (Ev.step (fun k => by rw [Bo.j0]) (Aq rfl (Ds _)))
def Tq (G : List Int) : Int × Int × Int := if Dl G = true then (Lw G, ((Mt 1 G : Nat) : Int), 0) else (0, 0, 1)
theorem Sm (G : List Int) : Ev (fun k => Da.f k G) (Tq G) := by
 unfold Da.f Tq
 refine Ew (Qb G) ?_
 cases ht : Dl G with
 | false => exact Ca (by simp) (Ds _)
 | true =>
  obtain ⟨h8, hG⟩ := (Eo G).1 ht
  exact Aq rfl (Ea (q2n G (by omega) h8.1) (Ea (Te G h8.2 (fun x hx => by have := hG x hx; omega)) (Ds _)))
theorem Va (G : List Int) (hG : ∀ x ∈ G, 1 ≤ x ∧ x ≤ 40) (h8 : G.length ≤ 8) (a : Int) : ∀ d n : Nat, n + d = G.length →
    Ev (fun k => Ch.l0 k ((G.take n).foldl mn a) ((Mt 1 (G.take n) : Nat) : Int) (n : Int) G) (G.foldl mn a, ((Mt 1 G : Nat) : Int), 0) := by
  intro d
  induction d with
  | zero =>
    intro n hn
    rw [List.take_of_length_le (by omega)]
    exact Ev.step (fun k => by rw [Ch.l0]) (Ca (by omega) (Ds _))
  | succ d ih =>
    intro n hn
    have hlt : n < G.length := by omega
    have hg := hG _ (List.getElem_mem hlt)
    have hb := q1H hG h8 n
    have ih := ih (n + 1) (by omega)
    rw [Qe 1 G n hlt, List.take_succ_eq_append_getElem hlt, List.foldl_append] at ih
    refine Ev.step (fun k => by rw [Ch.l0]) (Aq (by omega) (Aq (by omega) ?_))
    rw [Er hlt, Dj (by omega)]
    have hq : Mt 1 (G.take n) * (G[n]).toNat ≤ 167961600000000 * 40 := Nat.mul_le_mul hb.2 (by omega)
    have e := q1x (Mt 1 (G.take n)) (G[n]).toNat (by omega) (by omega)
    rw [show (((G[n]).toNat : Nat) : Int) = G[n] by omega] at e
    exact Ea e ih
theorem Sh (G : List Int) (hl : G.length ≤ 1048576) : Ev (fun k => Ch.f k G) (Tq G) := by
 unfold Ch.f Tq
 refine Ea (Qs G hl) ?_
 cases ht : Dl G with
 | false => exact Ca (by simp) (Ds _)
 | true =>
  obtain ⟨h8, hG⟩ := (Eo G).1 ht
  refine Aq rfl (Aq (by omega) ?_)
  have h := Va G hG h8.2 (rd G 0) G.length 0 (by omega)
  have e0 : G.foldl mn (rd G 0) = Lw G := by
   cases G with
   | nil => simp at h8
   | cons y l =>
    have es : mn y y = y := by unfold mn; split <;> rfl
    rw [Lw, List.foldl_cons, show rd (y :: l) 0 = y from rfl, es]
  rw [e0] at h
  exact h
theorem q2O (g : Int) : ∀ (f : Nat) (n : Int), 1 ≤ n → g < n + f → g < 2 * dbl g f n := by
 intro f
 induction f with
 | zero => intro n h1 h2; simp only [dbl]; omega
 | succ f ih =>
  intro n h1 h2
  rw [dbl]
  by_cases c : 2 * n ≤ g
  ·
   rw [if_pos c]; exact ih (2 * n) (by omega) (by omega)
  ·
   rw [if_neg c]; omega
theorem q3n {G : List Int} (hG : ∀ x ∈ G, 1 ≤ x ∧ x ≤ 40) {x : Int} (h1 : 1 ≤ x) (hx : ∀ g ∈ G, x ≤ g) (i : Nat) (hi : i < G.length) :
    rd (Kw G x) (i : Int) = dbl (rd G (i : Int)) 40 x ∧ (1 ≤ rd (Kw G x) (i : Int) ∧ rd (Kw G x) (i : Int) ≤ rd G (i : Int)) ∧ rd G (i : Int) < 2 * rd (Kw G x) (i : Int) ∧ Int.tmod (rd (Kw G x) (i : Int)) x = 0 := by
  have hg := hG _ (Fs (l := G) (i := (i : Int)) (by omega) (by omega))
  have hxg := hx _ (Fs (l := G) (i := (i : Int)) (by omega) (by omega))
  have e : rd (Kw G x) (i : Int) = dbl (rd G (i : Int)) 40 x := by
    rw [Er (by rw [Nz]; exact hi), Er hi]
    simp [Kw]
  obtain ⟨a, b, j, e2⟩ := q2v (rd G (i : Int)) 40 x h1 hxg
  have m := q2O (rd G (i : Int)) 40 x h1 (by omega)
  rw [e]
  refine ⟨rfl, by omega, m, ?_⟩
  rw [e2]
  obtain ⟨n, rfl⟩ : ∃ n : Nat, x = n := ⟨x.toNat, by omega⟩
  rw [← Int.natCast_mul, Kz, Nat.mul_mod_right]
  rfl
theorem q2X {G : List Int} (h8 : 1 ≤ G.length) : ∀ (f : Nat) (x : Int), 1 ≤ x → (Zy G f x).2.2 = 0 → ∃ y, 1 ≤ y ∧ y ≤ Lw G ∧ Np (Kw G y) = some (Zy G f x).1 := by
 intro f
 induction f with
 | zero => intro x h1 h; exact absurd h (by show ¬ (4 : Int) = 0; decide)
 | succ f ih =>
  intro x h1
  rw [Zy]
  by_cases c : x ≤ Lw G
  ·
   rw [if_pos c]
   cases hr : Np (Kw G x) with
   | some r => intro _; exact ⟨x, h1, c, hr⟩
   | none => exact ih (x + 1) (by omega)
  ·
   rw [if_neg c]; intro h; exact absurd h (by decide)
theorem q2G {G : List Int} (h : (Si G).2.2 = 0) : Dl G = true ∧ ∃ y, 1 ≤ y ∧ y ≤ Lw G ∧ Np (Kw G y) = some (Si G).1 := by
 unfold Si at h ⊢
 split at h
 ·
  next ht =>
  obtain ⟨h8, hG⟩ := (Eo G).1 ht
  rw [if_pos ht]
  exact ⟨ht, q2X h8.1 41 1 (by omega) h⟩
 ·
  exact absurd h (by decide)
theorem Sp (x : Int) : ∀ (l : List Int) (o : Int), cnt x l = ((Ei x o l).length : Int)
 | [], _ => rfl
 | y :: l, o => by
  rw [cnt, Ei]
  split
  ·
   rw [List.length_cons, Sp x l (o + 1)]; omega
  ·
   rw [Int.zero_add, Sp x l (o + 1)]
theorem q2D {l : List Int} {x : Int} {g f : Nat} (C : Cyc l x g f) : cnt x l = ((l.length / g : Nat) : Int) := by
 rw [Sp x l 0, ← Ko, Wm C, List.length_replicate]
theorem Ye {G l : List Int} (ht : Dl G = true) (hl : Fm l (G.length : Int) = true) (h : ∀ n : Nat, n < G.length → ∃ g f, Cyc l (n : Int) g f ∧ (g : Int) ≤ rd G (n : Int)) : Mc G l = (true, 0) := by
 rw [Mc, if_pos ht, if_pos hl]
 congr 1
 rw [List.all_eq_true]
 intro n hn
 have hn2 : n < G.length := by have := List.mem_range'_1.1 hn; omega
 obtain ⟨g, f, C, hg⟩ := h n hn2
 have := C.small
 rw [Ng, q1v C]
 exact decide_eq_true (by omega)
theorem q0m (X : List Int) (j n : Nat) (hn : n + 1 < X.length) : rd (X.take j ++ X.drop (j + 1)) (n : Int) = if n < j then rd X (n : Int) else rd X ((n + 1 : Nat) : Int) := by
 by_cases hj : j < X.length
 ·
  have h1 : (X.take j).length = j := by rw [List.length_take]; omega
  rw [Er (by rw [List.length_append, h1, List.length_drop]; omega)]
  split
  ·
   next c => rw [List.getElem_append_left (by omega), List.getElem_take, Er (by omega)]
  ·
   next c =>
   rw [List.getElem_append_right (by omega), List.getElem_drop, Er (by omega)]
   congr 1
   omega
 ·
  rw [List.take_of_length_le (by omega), List.drop_of_length_le (by omega), List.append_nil, if_pos (by omega)]
theorem Tt (X : List Int) (i n : Nat) (v : Int) (hn : n < X.length) : rd (X.set i v) (n : Int) = if n = i then v else rd X (n : Int) := by
  rw [Er (by rw [List.length_set]; exact hn), Er hn, List.getElem_set]
  by_cases e : i = n
  · rw [if_pos e, if_pos e.symm]
  · rw [if_neg e, if_neg (fun h => e h.symm)]
theorem q1k {c g t : Nat} (ht : t = 2 / Nat.gcd c 2) : 2 * g ∣ t * (c * g) := by
 have e : Nat.gcd c 2 = Nat.gcd (c % 2) 2 := by rw [Nat.gcd_comm, Nat.gcd_rec]
 rw [e] at ht
 rcases Nat.mod_two_eq_zero_or_one c with h | h
 ·
  rw [h, show Nat.gcd 0 2 = 2 from rfl] at ht
  refine ⟨c / 2, ?_⟩
  rw [ht, show 2 / 2 = 1 from rfl, Nat.one_mul, Nat.mul_right_comm, show 2 * (c / 2) = c by omega]
 ·
  rw [h, show Nat.gcd 1 2 = 1 from rfl] at ht
  refine ⟨c, ?_⟩
  rw [ht, show 2 / 1 = 2 from rfl, Nat.mul_assoc, Nat.mul_comm g c]
theorem q3b {l : List Int} {x : Int} {g f : Nat} (C : Cyc l x g f) : x ∈ l := by
 have hs := C.small
 have hl := Nat.le_of_dvd C.pos C.mult
 have h := (C.rest f (by omega)).2 (Nat.mod_eq_of_lt hs)
 have := Fs (l := l) (i := (f : Int)) (by omega) (by omega)
 rwa [h] at this
theorem q0L {l : List Int} {i m : Int} (h : (Ps l i m).2 = 0) : Fm l 8 = true ∧ (0 ≤ i ∧ i ≤ 7) ∧ (2 ≤ m ∧ m ≤ 8) ∧ great l + m - 1 < 8 ∧ Ka l i m * l.length ≤ 120 ∧ (Ps l i m).1 = Ki i (great l) m (List.replicate (Ka l i m) l).flatten 0 := by
  by_cases c : Fm l 8 = true ∧ (0 ≤ i ∧ i ≤ 7) ∧ (2 ≤ m ∧ m ≤ 8)
  · by_cases c1 : cnt i l = 0
    · rw [Ps, if_pos c, if_pos c1] at h; exact absurd h (by decide)
    · by_cases c2 : 8 ≤ great l + m - 1
      · rw [Ps, if_pos c, if_neg c1, if_pos c2] at h; exact absurd h (by decide)
      · by_cases c3 : 120 < ((Ka l i m * l.length : Nat) : Int)
        · rw [Ps, if_pos c, if_neg c1, if_neg c2, if_pos c3] at h; exact absurd h (by decide)
        · exact ⟨c.1, c.2.1, c.2.2, by omega, by omega, by rw [Ps, if_pos c, if_neg c1, if_neg c2, if_neg c3]⟩
  · rw [Ps, if_neg c] at h; exact absurd h (by decide)
theorem q0e {G : List Int} {i j : Nat} (ht : Dl G = true) (hij : i < j) (hj : j < G.length) (h0 : (Si (Nf G (i : Int) (j : Int))).2.2 = 0) (hd : (Ps (Si (Nf G (i : Int) (j : Int))).1 (i : Int) 2).2 = 0) :
    Mc (G.take j ++ G.drop (j + 1) ++ [rd G (j : Int)]) (Ps (Si (Nf G (i : Int) (j : Int))).1 (i : Int) 2).1 = (true, 0) := by
  obtain ⟨h8, hG⟩ := (Eo G).1 ht
  obtain ⟨hF, y, y1, y2, hr⟩ := q2G h0
  obtain ⟨_, _, _, hlt, hb, hdv⟩ := q0L hd
  rw [hdv]
  have hv := Uo hG (i := (i : Int)) (j := (j : Int)) (by omega) (by omega)
  have eF : Nf G (i : Int) (j : Int) = (G.set i (Mg G (i : Int) (j : Int))).take j ++ (G.set i (Mg G (i : Int) (j : Int))).drop (j + 1) := by
    unfold Nf
    rw [Int.toNat_natCast, Int.toNat_natCast, show ((j : Int) + 1).toNat = j + 1 by omega]
  generalize Nf G (i : Int) (j : Int) = F at hF y2 hr hlt hb eF
  generalize (Si F).1 = r at hr hlt hb ⊢
  have hsl : (G.set i (Mg G (i : Int) (j : Int))).length = G.length := List.length_set
  have hFl : F.length + 1 = G.length := by
    rw [eF, List.length_append, List.length_take, List.length_drop, hsl]; omega
  obtain ⟨F8, hFG⟩ := (Eo F).1 hF
  have hx := (Sn F8.1 y).1 y2
  have hHl := Nz F y
  have hHt : Dl (Kw F y) = true := (Eo _).2 ⟨by rw [hHl]; exact F8, Wy hFG y1 hx⟩
  obtain ⟨hrl, hrt, _⟩ := q0c hHt hr
  rw [hHl] at hrt
  have hcyc : ∀ n : Nat, n < F.length → ∃ f, Cyc r (n : Int) (rd (Kw F y) (n : Int)).toNat f := fun n hn => q0Z (Wy hFG y1 hx) (by rw [hHl]; exact F8.1) (We hFG y1 hx) hr n (by rw [hHl]; exact hn)
  have hles : ∀ n : Nat, n < F.length → 1 ≤ rd (Kw F y) (n : Int) ∧ rd (Kw F y) (n : Int) ≤ rd F (n : Int) := fun n hn => (q3n hFG y1 hx n hn).2.1
  generalize Kw F y = H at hcyc hles
  have hmem : ∀ x ∈ r, -1 ≤ x ∧ x < (F.length : Int) := fun x hx => by
    have := Tg hrt hx
    rw [Ek (by omega) (by omega)] at this
    omega
  have hgr : great r + 1 = (F.length : Int) := by
    obtain ⟨f, C⟩ := hcyc (F.length - 1) (by omega)
    have a1 := Mi (q3b C)
    have a2 : great r ≤ (F.length : Int) - 1 := (Nv r 0 _).2 ⟨by omega, fun x hx => by have := hmem x hx; omega⟩
    omega
  have hw : wrap64 (great r + 1) = (F.length : Int) := by rw [hgr]; exact Kg (by omega)
  obtain ⟨f, C⟩ := hcyc i (by omega)
  have hi := hles i (by omega)
  obtain ⟨g, hg⟩ : ∃ g : Nat, rd H (i : Int) = g := ⟨(rd H (i : Int)).toNat, by omega⟩
  rw [hg, Int.toNat_natCast] at C
  have hc := q2D C
  have ht8 : Ka r (i : Int) 2 = 2 / Nat.gcd (r.length / g) 2 := by
    unfold Ka
    rw [hc, Int.toNat_natCast]
    rfl
  have hpos := Vf (l := r) (i := (i : Int)) (m := 2) (by omega)
  obtain ⟨t, et⟩ : ∃ t, t = Ka r (i : Int) 2 := ⟨_, rfl⟩
  rw [← et] at ht8 hpos hb ⊢
  have hRl : (List.replicate t r).flatten.length = t * r.length := by simp
  have h2 : 2 * g ∣ (List.replicate t r).flatten.length := by
    rw [hRl]
    have hdv2 := Nat.div_mul_cancel C.mult
    have := q1k (g := g) ht8
    rwa [hdv2] at this
  have hRv : ∀ s : Nat, s < (List.replicate t r).flatten.length → -1 ≤ rd (List.replicate t r).flatten (s : Int) ∧ rd (List.replicate t r).flatten (s : Int) < (F.length : Int) := fun s hs => by
    rw [q2p r C.pos t s (by omega)]
    have hm := Nat.mod_lt s C.pos
    exact hmem _ (Fs (by omega) (by omega))
  have CR := q0O C t (by omega)
  obtain ⟨D1, D2, D3⟩ := q2C CR h2 (great r) (by rw [hw]; omega) (fun s hs => by have := hRv s hs; rw [hw]; omega)
  rw [hw] at D2 D3
  have hDl := Kr (i : Int) (great r) 2 (List.replicate t r).flatten 0
  have h1 : 1 * 1 ≤ t * r.length := Nat.mul_le_mul hpos.1 hrl.1
  have hDv : ∀ x ∈ Ki (i : Int) (great r) 2 (List.replicate t r).flatten 0, -1 ≤ x ∧ x < ((F.length + 1 : Nat) : Int) := fun x hx => by
    obtain ⟨s, hs, e⟩ := List.getElem_of_mem hx
    rw [hDl] at hs
    have e2 := Tv CR (great r) s hs
    rw [Er (by rw [hDl]; exact hs), e, hw] at e2
    have := hRv s hs
    split at e2
    · omega
    · split at e2 <;> omega
  generalize Ki (i : Int) (great r) 2 (List.replicate t r).flatten 0 = D at D1 D2 D3 hDl hDv
  have hdl : (G.take j ++ G.drop (j + 1)).length = F.length := by
    rw [List.length_append, List.length_take, List.length_drop]; omega
  have hGl : (G.take j ++ G.drop (j + 1) ++ [rd G (j : Int)]).length = F.length + 1 := by
    rw [List.length_append, hdl, List.length_singleton]
  have hjm := Fs (l := G) (i := (j : Int)) (by omega) (by omega)
  refine Ye ((Eo _).2 ⟨by rw [hGl]; omega, fun x hx => ?_⟩) ?_ (fun n hn => ?_)
  · rcases List.mem_append.1 hx with hx | hx
    · rcases List.mem_append.1 hx with hx | hx
      · exact hG x (List.mem_of_mem_take hx)
      · exact hG x (List.mem_of_mem_drop hx)
    · rw [List.mem_singleton.1 hx]; exact hG _ hjm
  · rw [hGl]
    exact Rk (m := F.length + 1) (by omega) (by rw [hDl, hRl]; omega) hDv
  · rw [hGl] at hn
    by_cases c : n = F.length
    · subst c
      refine ⟨2 * g, f + g, D2, ?_⟩
      have e : rd (G.take j ++ G.drop (j + 1) ++ [rd G (j : Int)]) (F.length : Int) = rd G (j : Int) := by
        rw [Er (by rw [hGl]; omega), List.getElem_append_right (by omega)]
        simp
      have hFi : rd F (i : Int) = Mg G (i : Int) (j : Int) := by
        rw [eF, q0m _ j i (by rw [hsl]; omega), if_pos hij, Tt _ _ _ _ (by omega), if_pos rfl]
      rw [e]
      omega
    · have e : rd (G.take j ++ G.drop (j + 1) ++ [rd G (j : Int)]) (n : Int) = rd (G.take j ++ G.drop (j + 1)) (n : Int) := by
        rw [Er (l := G.take j ++ G.drop (j + 1)) (n := n) (by omega), Er (l := G.take j ++ G.drop (j + 1) ++ [rd G (j : Int)]) (n := n) (by rw [hGl]; omega), List.getElem_append_left (by omega)]
      rw [e, q0m G j n (by omega)]
      have hFn : rd F (n : Int) = if n < j then (if n = i then Mg G (i : Int) (j : Int) else rd G (n : Int)) else rd G ((n + 1 : Nat) : Int) := by
        rw [eF, q0m _ j n (by rw [hsl]; omega)]
        split
        · rw [Tt _ _ _ _ (by omega)]
        · rw [Tt _ _ _ _ (by omega), if_neg (by omega)]
      by_cases d : n = i
      · subst d
        rw [if_pos hij, if_pos rfl] at hFn
        rw [if_pos hij]
        exact ⟨2 * g, f, D1, by omega⟩
      · obtain ⟨f2, C2⟩ := hcyc n (by omega)
        have hn2 := hles n (by omega)
        refine ⟨(rd H (n : Int)).toNat, f2, D3 _ _ _ (by omega) (by omega) (q0O C2 t (by omega)), ?_⟩
        rw [if_neg d] at hFn
        rw [← hFn]
        omega
theorem q0B {l : List Int} {m : Int} (h : (Kx l m).2 = 0) : (1 ≤ m ∧ m ≤ 8) ∧ Fm l m = true ∧ Dl (De l m.toNat) = true ∧ Kx l m = (De l m.toNat, 0) := by
  by_cases c : (1 ≤ m ∧ m ≤ 8) ∧ Fm l m = true
  · by_cases c1 : (De l m.toNat).contains 0 = true
    · rw [Kx, if_pos c, if_pos c1] at h; exact absurd h (by decide)
    · by_cases c2 : Dl (De l m.toNat) = true
      · exact ⟨c.1, c.2, c2, by rw [Kx, if_pos c, if_neg c1, if_pos c2]⟩
      · rw [Kx, if_pos c, if_neg c1, if_neg c2] at h; exact absurd h (by decide)
  · rw [Kx, if_neg c] at h; exact absurd h (by decide)
theorem Mf (l : List Int) (m : Nat) : (De l m).length = m := Ls _ _
theorem Wz {l : List Int} {m : Int} (hm : 1 ≤ m ∧ m ≤ 8) (hl : Fm l m = true) (ht : Dl (De l m.toNat) = true) : Mc (De l m.toNat) l = (true, 0) := by
 obtain ⟨h8, hG⟩ := (Eo _).1 ht
 have hs := Mf l m.toNat
 rw [Mc, if_pos ht, hs, show ((m.toNat : Nat) : Int) = m by omega, if_pos hl]
 congr 1
 rw [List.all_eq_true]
 intro n hn
 have hn2 : n < m.toNat := by have := List.mem_range'_1.1 hn; omega
 have := hG _ (Fs (l := De l m.toNat) (i := (n : Int)) (by omega) (by omega))
 rw [Pt hn2] at this
 rw [Ng, Pt hn2]
 exact decide_eq_true (by omega)
theorem Zt {l : List Int} {m : Int} (hm : 1 ≤ m ∧ m ≤ 8) (hl : Fm l m = true) (ht : Dl (De l m.toNat) = true) (n : Nat) (hn : n < m.toNat) (h1 : rd (De l m.toNat) (n : Int) > 1) : Mc ((De l m.toNat).set n (rd (De l m.toNat) (n : Int) - 1)) l = (false, 0) := by
 obtain ⟨h8, hG⟩ := (Eo _).1 ht
 have hs := Mf l m.toNat
 have hg := Pt (l := l) hn
 have hx := hG _ (Fs (l := De l m.toNat) (i := (n : Int)) (by omega) (by omega))
 have hsl : ((De l m.toNat).set n (rd (De l m.toNat) (n : Int) - 1)).length = m.toNat := by rw [List.length_set, hs]
 have ht2 : Dl ((De l m.toNat).set n (rd (De l m.toNat) (n : Int) - 1)) = true := (Eo _).2 ⟨by rw [hsl]; omega, fun x hx2 => by
  rcases List.mem_or_eq_of_mem_set hx2 with h | h
  ·
   exact hG x h
  ·
   omega⟩
 have hr := Tt (De l m.toNat) n n (rd (De l m.toNat) (n : Int) - 1) (by omega)
 rw [if_pos rfl] at hr
 rw [Mc, if_pos ht2, hsl, show ((m.toNat : Nat) : Int) = m by omega, if_pos hl]
 congr 1
 rw [List.all_eq_false]
 refine ⟨n, List.mem_range'_1.2 (by omega), ?_⟩
 rw [Ng, hr, hg]
 simp only [decide_eq_true_eq]
 omega
theorem q1Q (a b : List Int) : ∀ d i : Nat, Uc a b d i = true → ∀ h : Nat, i ≤ h → h < i + d → ¬ rd b (h : Int) < rd a (h : Int) := by
 intro d
 induction d with
 | zero => intro i _ h h1 h2; omega
 | succ d ih =>
  intro i hk h h1 h2
  rw [Uc] at hk
  by_cases c : rd b (i : Int) < rd a (i : Int)
  ·
   rw [if_pos c] at hk; exact absurd hk (by simp)
  ·
   rw [if_neg c] at hk
   by_cases e : h = i
   ·
    rw [e]; exact c
   ·
    exact ih (i + 1) hk h (by omega) (by omega)
theorem q2W {G H : List Int} (h : (Pg G H).1 = true) : Dl G = true ∧ Dl H = true ∧ H.length ≤ G.length ∧ Uc (Ma G) (Ma H) H.length 0 = true := by
  by_cases c : Dl G = true ∧ Dl H = true
  · by_cases d : (G.length : Int) < (H.length : Int)
    · rw [Pg, if_pos c, if_pos d] at h; exact absurd h (by simp)
    · rw [Pg, if_pos c, if_neg d] at h; exact ⟨c.1, c.2, by omega, h⟩
  · rw [Pg, if_neg c] at h; exact absurd h (by simp)
theorem Sb {b : List Int} (hb : Kp b) : EvP (fun k => Cg.f k b) (fun r => r.1.length ≤ 1000) := by
 unfold Cg.f
 refine Qn hb fun h => Fh (Ry hb (Qp b) h) ?_
 rintro ⟨G, i2, h2⟩ ⟨hG, hi2⟩
 have hG : 1 ≤ G.length ∧ G.length ≤ 8 := hG
 have hi2 : Ok b i2 := hi2
 refine Lq (show Dt.f G = some (G.length : Int) from rfl) (Rz hb hi2 fun v i3 h3 hi3 _ => Lq (show Dt.f G = some (G.length : Int) from rfl) (Rz hb hi3 fun u i4 h4 hi4 _ => ?_))
 refine Gz (fun _ => Gi hb hi4 fun t i5 h5 t0 t1 t2 hi5 => Gz (fun _ => ?_) (fun _ => ?_)) (fun _ => ?_)
 ·
  exact Fh (Mm hb hi5 h5 G (by omega)) fun r hr => Gc hr.1
 ·
  exact Fh (Mm hb hi5 h5 G (by omega)) fun r hr => Gc hr.1
 ·
  exact Fh (Mm hb hi4 h4 G (by omega)) fun r hr => Gc hr.1
theorem Rl {b : List Int} (hb : Kp b) : EvP (fun k => Dw.f k b) (fun r => r.1.length ≤ 1000) := by
 unfold Dw.f
 refine Qn hb fun h => Fh (Qg hb (Qp b) h) ?_
 rintro ⟨G, l, i2, h2⟩ ⟨hG, hl, hi2⟩
 have hl : 1 ≤ l.length ∧ l.length ≤ 120 := hl
 have hi2 : Ok b i2 := hi2
 refine Lq (show Dt.f G = some (G.length : Int) from rfl) (Gi hb hi2 fun t i3 h3 t0 t1 t2 hi3 => Gz (fun _ => ?_) (fun _ => ?_))
 ·
  exact Ll hb hi3 (by simp) fun v i4 h4 hv hi4 => Fh (Py hb hi4 h4 l (by omega)) fun r hr => Gc hr.1
 ·
  exact Fh (Py hb hi3 h3 l (by omega)) fun r hr => Gc hr.1
theorem Qy {b : List Int} (hb : Kp b) : EvP (fun k => Bq.f k b) (fun r => r.1.length ≤ 1000) := by
 have tail : ∀ (l : List Int) (i h : Int), Ok b i → (1 ≤ l.length ∧ l.length ≤ 1000) → EvP (fun k => Bq.j0 k l b i h) (fun r => r.1.length ≤ 1000) := by
  intro l i h hi hl
  refine Gj (fun k => by rw [Bq.j0]) ?_
  refine Ll hb hi (by decide) fun p i2 h2 hp hi2 => Rz hb hi2 fun v i3 h3 hi3 _ => Fh (Py hb hi3 h3 l hl) ?_
  rintro ⟨m, i4, h4⟩ ⟨hm, hi4⟩
  have hi4 : Ok b i4 := hi4
  exact Ll hb hi4 (by decide) fun q i5 h5 hq hi5 => Rz hb hi5 fun u i6 h6 hi6 _ => Gc hm
 unfold Bq.f
 refine Qn hb fun h => Gi hb (Qp b) fun v i2 h2 v0 v1 v2 hi2 => Fh (Rb hb hi2 h2 _) ?_
 rintro ⟨l, i3, h3⟩ ⟨hl, hi3, _⟩
 have hl : 1 ≤ l.length ∧ l.length ≤ 120 := hl
 have hi3 : Ok b i3 := hi3
 refine Gz (fun c => Fi ?_ (tail _ i3 h3 hi3 ?_)) (fun _ => tail _ i3 h3 hi3 (by show 1 ≤ l.length ∧ l.length ≤ 1000; omega))
 ·
  have c : (l.length : Int) > 30 := c
  show (30 : Int) ≤ (l.length : Int)
  omega
 ·
  have c : (l.length : Int) > 30 := c
  show 1 ≤ (l.take 30).length ∧ (l.take 30).length ≤ 1000
  rw [List.length_take]; omega
theorem Qx {b : List Int} (hb : Kp b) : EvP (fun k => Dq.f k b) (fun r => r.length ≤ 1000) := by
 unfold Dq.f
 exact Qn hb fun h => Fh (q1C hb (Qp b) h) fun r hr => Gc hr.1
theorem Ul {b : List Int} (hb : Kp b) (G : List Int) (hG : 1 ≤ G.length ∧ G.length ≤ 8) : ∀ (d n : Nat) (X : List Int) (i h : Int), n + d = X.length → (1 ≤ X.length ∧ X.length ≤ 8) → Ok b i →
    EvP (fun k => Ar.l0 k (X.length : Int) (n : Int) b i h G X) (fun r => r.1.length ≤ 1000 ∧ r.2.length ≤ 1000) := by
  intro d
  induction d with
  | zero =>
    intro n X i h hn hX hi
    refine Gj (fun k => by rw [Ar.l0]) (Lp (by omega) (Gi hb hi fun v i2 h2 v0 v1 v2 hi2 => Gz (fun _ => ?_) (fun _ => Gz (fun _ => ?_) (fun _ => ?_))))
    · refine Lq (show Dt.f X = some (X.length : Int) from rfl) (Gi hb hi2 fun u i3 h3 u0 u1 u2 hi3 => ?_)
      have u1 := u1 (by omega)
      have hw : wrap64 (1 + u) = 1 + u := Ek (by omega) (by omega)
      refine Fi (show 0 ≤ wrap64 (1 + u) by omega) (Fi (show wrap64 (1 + u) ≤ (X.length : Int) by omega) (Fh (Mm hb hi3 h3 G (by omega)) ?_))
      rintro ⟨A, i4, h4⟩ ⟨hA, hi4⟩
      have hi4 : Ok b i4 := hi4
      exact Fh (Mm hb hi4 h4 (X.take (wrap64 (1 + u)).toNat) (by rw [List.length_take]; omega)) fun r hr => Gc ⟨hA, hr.1⟩
    · refine Fh (Ry hb hi2 h2) ?_
      rintro ⟨B, i3, h3⟩ ⟨hB, hi3⟩
      have hB : 1 ≤ B.length ∧ B.length ≤ 8 := hB
      have hi3 : Ok b i3 := hi3
      refine Fh (Mm hb hi3 h3 G (by omega)) ?_
      rintro ⟨A, i4, h4⟩ ⟨hA, hi4⟩
      have hi4 : Ok b i4 := hi4
      exact Fh (Mm hb hi4 h4 B (by omega)) fun r hr => Gc ⟨hA, hr.1⟩
    · refine Fh (Mm hb hi2 h2 G (by omega)) ?_
      rintro ⟨A, i4, h4⟩ ⟨hA, hi4⟩
      have hi4 : Ok b i4 := hi4
      exact Fh (Mm hb hi4 h4 X (by omega)) fun r hr => Gc ⟨hA, hr.1⟩
  | succ d ih =>
    intro n X i h hn hX hi
    refine Gj (fun k => by rw [Ar.l0]) (Fi (by omega) (Fi (by omega) (Fi (by omega) (Gi hb hi fun v i2 h2 v0 v1 v2 hi2 => Gi hb hi2 fun u i3 h3 u0 u1 u2 hi3 => ?_))))
    rw [Dj (n := n) (by omega)]
    have go : ∀ z : Int, EvP (fun k => Ar.l0 k (X.length : Int) ((n + 1 : Nat) : Int) b i3 h3 G (X.set ((n : Int)).toNat z)) (fun r => r.1.length ≤ 1000 ∧ r.2.length ≤ 1000) := fun z => by
      have hl : (X.set ((n : Int)).toNat z).length = X.length := List.length_set
      have := ih (n + 1) (X.set ((n : Int)).toNat z) i3 h3 (by omega) (by omega) hi3
      rw [hl] at this
      exact this
    exact go _
theorem Tl {b : List Int} (hb : Kp b) : EvP (fun k => Ar.f k b) (fun r => r.1.length ≤ 1000 ∧ r.2.length ≤ 1000) := by
 unfold Ar.f
 refine Qn hb fun h => Fh (Ry hb (Qp b) h) ?_
 rintro ⟨G, i2, h2⟩ ⟨hG, hi2⟩
 have hG : 1 ≤ G.length ∧ G.length ≤ 8 := hG
 have hi2 : Ok b i2 := hi2
 exact Lq (Sd G (by omega)) (Ul hb G hG G.length 0 G i2 h2 (by omega) hG hi2)
theorem Wt (l : List Int) (hl : l.length ≤ 1048576) : Ev (fun k => Fp.f k l l) true := by
 unfold Fp.f
 exact Ea (Sy l hl) (Ds _)
theorem q0u (p q : List Int) (hp : p.length ≤ 8) (hq : q.length ≤ p.length) (h : ∀ n : Nat, n < q.length → ¬ rd q (n : Int) < rd p (n : Int)) : ∀ d n : Nat, n + d = q.length →
    Ev (fun k => Ad.l1 k (q.length : Int) (n : Int) p q) true := by
  intro d
  induction d with
  | zero =>
    intro n hn
    exact Ev.step (fun k => by rw [Ad.l1]) (Ca (by omega) (Ds _))
  | succ d ih =>
    intro n hn
    refine Ev.step (fun k => by rw [Ad.l1]) (Aq (by omega) (Aq (by omega) (Aq (by omega) (Aq (by omega) (Ca (h n (by omega)) ?_)))))
    rw [Dj (n := n) (by omega)]
    exact ih (n + 1) (by omega)
theorem Zw (G H : List Int) : Ev (fun k => Ad.j6 k (Pg G H).1 false G H) true := by
 refine Ev.step (fun k => by rw [Ad.j6]) (Ca (by simp) ?_)
 by_cases c : (Pg G H).1 = true
 ·
  obtain ⟨hg, hh, hl, ha⟩ := q2W c
  obtain ⟨g8, _⟩ := (Eo G).1 hg
  have eG : Rv G = (Ma G, La G G.length, 0) := by rw [Rv, if_pos hg]
  have eH : Rv H = (Ma H, La H H.length, 0) := by rw [Rv, if_pos hh]
  have sG := Qi G
  have sH := Qi H
  rw [eG] at sG
  rw [eH] at sH
  have lG := Kq G
  have lH := Kq H
  refine Aq c (Ea sG (Ea sH (Aq rfl (Aq rfl (Aq (show ((Ma H).length : Int) = (H.length : Int) by omega) (Aq (show ((Ma G).length : Int) = (G.length : Int) by omega) (Ev.step (fun k => by rw [Ad.j7]) ?_)))))))
  refine Ca (show ¬ decide (((Ma G).length : Int) < ((Ma H).length : Int)) = true by rw [decide_eq_false (by omega)]; simp) ?_
  exact q0u (Ma G) (Ma H) (by omega) (by omega) (fun n hn => q1Q _ _ _ _ ha n (by omega) (by omega)) (Ma H).length 0 (by omega)
 ·
  exact Ca c (Ds _)
theorem q2f {l : List Int} {i m : Int} : (Ps l i m).1.length ≤ 120 := by
 by_cases h : (Ps l i m).2 = 0
 ·
  obtain ⟨ht, _, _, _, hb, e⟩ := q0L h
  rw [e, Kr]
  have : (List.replicate (Ka l i m) l).flatten.length = Ka l i m * l.length := by simp
  omega
 ·
  unfold Ps at h ⊢
  split
  ·
   next c =>
   rw [if_pos c] at h
   split
   ·
    simp
   ·
    next c1 =>
    rw [if_neg c1] at h
    split
    ·
     simp
    ·
     next c2 =>
     rw [if_neg c2] at h
     split
     ·
      simp
     ·
      next c3 => rw [if_neg c3] at h; exact absurd rfl h
  ·
   simp
theorem Vi {b : List Int} (hb : Kp b) : Ev (fun k => Ad.j5 k b) true := by
 refine Ev.step (fun k => by rw [Ad.j5]) (Vh ?_)
 refine Fh (Tl hb) ?_
 rintro ⟨G, H⟩ ⟨hG, hH⟩
 have hG : G.length ≤ 1000 := hG
 have hH : H.length ≤ 1000 := hH
 refine Lv (Xc G H) (Lv (Xf G H (by omega) (by omega)) (Fh (Qy hb) ?_))
 rintro ⟨l, i, m⟩ hl
 have hl : l.length ≤ 1000 := hl
 refine Lv (Ph l i m) (Lv (Ss l (by omega) i m) (Fh (Qx hb) fun u hu => Lv (Sm u) (Lv (Sh u (by omega)) ?_)))
 refine Fi rfl (Lp (by simp) (Fi rfl (Lv (Sy (Ps l i m).1 (by have := q2f (l := l) (i := i) (m := m); omega)) (Fi rfl (Fi rfl (Fi rfl (Zz ?_ rfl)))))))
 rw [bne_self_eq_false]
 exact Zw G H
theorem q0k {b : List Int} (hb : Kp b) {l : List Int} {m : Int} (hm : 1 ≤ m ∧ m ≤ 8) (hl : Fm l m = true) (ht : Dl (De l m.toNat) = true) : ∀ d n : Nat, n + d = m.toNat →
    Ev (fun k => Ad.l0 k b l ((De l m.toNat).length : Int) (n : Int) (De l m.toNat)) true := by
  have hs := Mf l m.toNat
  obtain ⟨_, hG⟩ := (Eo _).1 ht
  intro d
  induction d with
  | zero =>
    intro n hn
    exact Ev.step (fun k => by rw [Ad.l0]) (Ca (by omega) (Vi hb))
  | succ d ih =>
    intro n hn
    have ih := ih (n + 1) (by omega)
    refine Ev.step (fun k => by rw [Ad.l0]) (Aq (by omega) (Aq (by omega) (Aq (by omega) ?_)))
    by_cases c : rd (De l m.toNat) (n : Int) > 1
    · have hx := hG _ (Fs (l := De l m.toNat) (i := (n : Int)) (by omega) (by omega))
      refine Aq c (Ew rfl (Aq (show ([] : List Int).length + (De l m.toNat).length < 17592186044416 by rw [List.length_nil]; omega) (Ew rfl (Aq (show (n : Int) < (([] ++ De l m.toNat : List Int).length : Int) by rw [List.nil_append]; omega) ?_))))
      rw [List.nil_append, Ek (x := rd (De l m.toNat) (n : Int) - 1) (by omega) (by omega), Int.toNat_natCast, Dj (n := n) (by omega)]
      have E := Pn ((De l m.toNat).set n (rd (De l m.toNat) (n : Int) - 1)) l
      rw [Zt hm hl ht n (by omega) c] at E
      exact Ea E (Aq rfl (Ca (by simp) ih))
    · rw [Dj (n := n) (by omega)]
      exact Ca c ih
theorem Yl (l : List Int) (m : Int) : (Kx l m).1.length ≤ 8 := by
 unfold Kx
 split
 ·
  next c =>
  split
  ·
   simp
  ·
   split
   ·
    show (De l m.toNat).length ≤ 8
    rw [Mf]; omega
   ·
    simp
 ·
  simp
theorem Po {b : List Int} (hb : Kp b) : Ev (fun k => Ad.j1 k b) true := by
 refine Ev.step (fun k => by rw [Ad.j1]) (Vh ?_)
 refine Fh (Rl hb) ?_
 rintro ⟨l, m⟩ hl
 have hl : l.length ≤ 1000 := hl
 have hs := Yl l m
 refine Lv (Tj l (by omega) m) (Lv (Tn l (by omega) m) (Fi rfl (Lv (Wt (Kx l m).1 (by omega)) (Zz ?_ rfl))))
 refine Ev.step (fun k => by rw [Ad.j2]) (Ca (by simp) ?_)
 by_cases c : (Kx l m).2 = 0
 ·
  obtain ⟨hm, ht, hk, e⟩ := q0B c
  have E := Pn (De l m.toNat) l
  rw [Wz hm ht hk] at E
  rw [e]
  refine Aq rfl (Ea E (Aq rfl (Ev.step (fun k => by rw [Ad.j3]) (Ca (by simp) ?_))))
  exact q0k hb hm ht hk m.toNat 0 (by omega)
 ·
  exact Ca c (Vi hb)
theorem q1p {G : List Int} {i j : Int} (hl : G.length ≤ 1000) : (Mo G i j).1.length ≤ 2000 := by
 unfold Mo
 split
 ·
  split
  ·
   split
   ·
    simp
   ·
    show (Nf G i j).length ≤ 2000
    unfold Nf
    rw [List.length_append, List.length_take, List.length_drop, List.length_set]; omega
  ·
   simp
 ·
  simp
theorem q0b {b : List Int} (hb : Kp b) (G : List Int) (i j : Int) : Ev (fun k => Ad.j0 k b i j (Mo G i j).2 false G (Mo G i j).1) true := by
 refine Ev.step (fun k => by rw [Ad.j0]) (Ca (by simp) ?_)
 by_cases c : (Mo G i j).2 = 0
 ·
  obtain ⟨ht, hij, h5⟩ : Dl G = true ∧ (0 ≤ i ∧ i < j ∧ j < (G.length : Int)) ∧ ¬ (rd G i = 1 ∨ rd G j = 1) := by
   by_cases ht : Dl G = true
   ·
    by_cases hij : 0 ≤ i ∧ i < j ∧ j < (G.length : Int)
    ·
     by_cases h5 : rd G i = 1 ∨ rd G j = 1
     ·
      rw [Sc ht hij h5] at c; exact absurd c (by decide)
     ·
      exact ⟨ht, hij, h5⟩
    ·
     rw [Tr ht hij] at c; exact absurd c (by decide)
   ·
    rw [Tw (Bool.eq_false_iff.2 ht)] at c; exact absurd c (by decide)
  obtain ⟨h8, hG⟩ := (Eo G).1 ht
  rw [Xd ht hij h5]
  refine Aq rfl (Ea (Tm (Nf G i j)) ?_)
  by_cases c1 : (Si (Nf G i j)).2.2 = 0
  ·
   refine Aq c1 (Ea (Ph (Si (Nf G i j)).1 i 2) ?_)
   by_cases c2 : (Ps (Si (Nf G i j)).1 i 2).2 = 0
   ·
    obtain ⟨ii, rfl⟩ : ∃ ii : Nat, i = ii := ⟨i.toNat, by omega⟩
    obtain ⟨jj, rfl⟩ : ∃ jj : Nat, j = jj := ⟨j.toNat, by omega⟩
    have E := Pn (G.take jj ++ G.drop (jj + 1) ++ [rd G (jj : Int)]) (Ps (Si (Nf G (ii : Int) (jj : Int))).1 (ii : Int) 2).1
    rw [q0e ht (by omega) (by omega) c1 c2] at E
    have l1 : (G.take jj).length = jj := by rw [List.length_take]; omega
    have l2 : (G.drop (jj + 1)).length = G.length - (jj + 1) := List.length_drop
    have l3 : (G.take jj ++ G.drop (jj + 1)).length = G.length - 1 := by rw [List.length_append]; omega
    refine Aq c2 (Ew rfl (Aq (by omega) (Aq (by omega) (Ew rfl ?_))))
    rw [Int.toNat_natCast]
    refine Aq (show ([] : List Int).length + (G.take jj).length < 17592186044416 by rw [List.length_nil]; omega) (Ew rfl ?_)
    rw [List.nil_append, Dj (n := jj) (by omega)]
    refine Aq (by omega) (Aq (by omega) (Ew rfl ?_))
    rw [Int.toNat_natCast]
    refine Aq (show (G.take jj).length + (G.drop (jj + 1)).length < 17592186044416 by omega) (Ew rfl (Aq (by omega) (Aq (show (G.take jj ++ G.drop (jj + 1)).length < 17592186044416 by omega) (Ea E (Aq rfl (Aq rfl (Po hb)))))))
   ·
    exact Ca c2 (Po hb)
  ·
   exact Ca c1 (Po hb)
 ·
  exact Ca c (Po hb)
theorem FnFolding : Ad.Pure := by
 intro b _ _ hw
 have hb0 : ∀ x ∈ b, 0 ≤ x ∧ x ≤ 255 := fun x hx => by
  have h := hw x hx
  rw [Lit.wf, Bool.and_eq_true] at h
  exact ⟨of_decide_eq_true h.1, of_decide_eq_true h.2⟩
 refine q1e (g := fun k => Ad.f k b) ?_
 unfold Ad.f
 refine Ew (a := decide ((b.length : Int) > 4096)) rfl ?_
 by_cases c : (b.length : Int) > 4096
 ·
  exact Aq (decide_eq_true c) (Ds _)
 have hb : Kp b := ⟨hb0, by omega⟩
 refine Ca (by rw [decide_eq_false c]; simp) (Vh ?_)
 refine Fh (Sb hb) ?_
 rintro ⟨G, i, j⟩ hG
 have hG : G.length ≤ 1000 := hG
 have hl := q1p (i := i) (j := j) hG
 refine Lv (Uv G (by omega) i j) (Lv (Vc G (by omega) i j) (Fi rfl (Lv (Wt (Mo G i j).1 (by omega)) (Zz ?_ rfl))))
 exact q0b hb G i j
end Go.Proofs.YtliepcfgcglcmaaGreat.Pure
end
section
namespace Go.Proofs.YtliepcfgcglcmaaGreat.fnFolding
open Go.ChangeShapes Go.WideShapes Go.ChangeAt Go.RowKit
open Go.ChangeMaps (open_string shut_string)
set_option linter.unusedVariables false
theorem own : ownKnob Tryz.prog.godebug = none := by kernel_rfl
theorem q2E : laidOutB Tryz.prog = true := by kernel_rfl
def q3x (k : IntKind) (w : World) (a : Option Addr) (len cap : Nat) (zs : List Int) : Prop :=
 (a = none ∧ len = 0 ∧ cap = 0 ∧ zs = []) ∨
 ∃ x, a = some x ∧ len ≤ cap ∧ cap ≤ maxLen ∧ zs.length = cap ∧ (∀ i, i < zs.length → w.cell? (x.add i) = some (.int k (zs.getD i 0))) ∧ ∀ n ∈ zs, (Lit.int k n).wf = true
set_option maxRecDepth 100000 in
theorem lifted (os : Os) (started : os.Started) (H : Type) (enc : TypeId × Value → H) :
    ReturnsInHanded {} Tryz.checked os 3 .any (Rows.fnFoldingSpec.pre6 enc Tryz.prog Tryz.f3 Rows.fnFoldingRow.domain false) (Rows.fnFoldingSpec.post enc Tryz.prog Tryz.f3 false true false false) := by
  refine returnsInHanded_of_change_sized (C := Tryz.checked) own started (by kernel_rfl) Tryz.func3
    (ChangeSpec.witness6 (enc := enc) (C := Tryz.checked) false ⟨#[], #[.slice none 0 0], []⟩ 8 (by kernel_rfl) (by kernel_rfl) (by kernel_rfl) (by kernel_rfl)) ?_
  intro W base args ds gs before hval0 hW hcnd hsz0 _
  have hsz : (DataW.weightsEach Tryz.prog (Tryz.f3.params.toList ++ Rows.fnFoldingSpec.plain.varTypes Tryz.prog) (ds ++ gs)).all (· ≤ reachBytes) = true := hsz0
  have hval : ∀ (j : Nat) t v, Tryz.f3.params[j]? = some t → args[j]? = some v → Value.okWide Tryz.prog W .any base t v := hval0
  have hW' := hW
  obtain ⟨p, q, hA0, hV, rfl, hfz, hnd⟩ := hW
  have hA : DataW.TrodAll enc Tryz.prog W 0 (fun _ => true) true Tryz.f3.params.toList args.toList ds p := hA0
  rw [Tryz.params3] at hA hval hsz
  obtain ⟨v0, vs0, d0, ds0, p0, q0, hargs, rfl, rfl, h0, r0⟩ := trodAll_cons hA
  obtain ⟨rfl, rfl, rfl⟩ := trodAll_nil r0
  obtain rfl : args = #[v0] := by cases args; simp_all
  obtain ⟨rfl, rfl⟩ := trodVars_none hV
  obtain ⟨a0, len0, cap0, rfl⟩ := okWide_slice Tryz.underlying22 (hval 0 22 v0 rfl rfl)
  have k0 := h0
  have lt0 : ∀ x ∈ p0, x.block < W.heap.size := by obtain ⟨m, hm⟩ := k0; exact DataW.trod_lt m _ _ _ hm
  obtain ⟨z0, w0⟩ : ∃ zs, q3x .u8 W a0 len0 cap0 zs := by
    obtain ⟨fuel, hf⟩ := h0
    rcases open_ints Tryz.underlying22 Tryz.underlying5 (by kernel_rfl) hf with ⟨hcs, _⟩ | ⟨x, l, c, zs, hcs, _, hl, hm, hz, _, hcell, hwz⟩
    · simp [Value.cells] at hcs
      obtain ⟨rfl, rfl, rfl⟩ := hcs
      exact ⟨[], .inl ⟨rfl, rfl, rfl, rfl⟩⟩
    · simp [Value.cells] at hcs
      obtain ⟨rfl, rfl, rfl⟩ := hcs
      exact ⟨zs, .inr ⟨_, rfl, hl, hm, by simpa using hz, hcell, hwz⟩⟩
  have y0 : len0 * 1 ≤ 140737488351232 := Go.Proofs.YtliepcfgcglcmaaGreatW.PrintWords.q0t hsz (j := 0) (t := 22) rfl rfl Tryz.underlying22 Tryz.underlying5 (by kernel_rfl) (by kernel_rfl) h0
  clear hA0 hval0 hsz0 hsz
  refine (P.Ad.walk Pure.FnFolding a0 len0 cap0 z0 W w0 y0).mono fun e W' ⟨he, bel⟩ => ?_
  subst he
  exact ⟨_, rfl, _, _, _, [], _, [], hW', trodAll_mk1 (shut_bool Tryz.underlying4 _), (trodAll_cons_mk (Below.trod q2E (by kernel_rfl) (of_decide_eq_true (by kernel_rfl)) k0 bel lt0) trodAll_mk0), rfl, bel.frame _, fun h => by cases h⟩
theorem over : Rows.fnFoldingRow.holds Tryz.pinned (OpenSpec.ofChange Rows.fnFoldingSpec) :=
 OpenClaim.holds_of_wide 3 Tryz.f3 rfl rfl rfl rfl rfl rfl rfl ⟨rfl, rfl, rfl, rfl, rfl⟩ rfl rfl rfl rfl rfl (by kernel_rfl) Tryz.func3 (by kernel_rfl)
  (of_decide_eq_true (by kernel_rfl)) (by unfold Func.isWrapper; first | (rw [if_pos (by decide +kernel)]; kernel_rfl) | (rw [if_neg (by decide +kernel)]; exact ⟨rfl, rfl⟩))
  (fun os started H enc _ => lifted os started H enc)
theorem proved : Rows.FnFoldingSaid := over
end Go.Proofs.YtliepcfgcglcmaaGreat.fnFolding
namespace Go.Proofs.YtliepcfgcglcmaaGreat
theorem fnFolding_holds : Rows.FnFoldingSaid := fnFolding.proved
end Go.Proofs.YtliepcfgcglcmaaGreat
end
