/- The program's HarmonicTurns returns what the reference's returns, for all tasks; no condition beside. -/
import Derived.Test.YtjkgjmaldbmgmaaCFnExactHarmonicTurns6
import Derived.Test.YtjkgjmaldbmgmaaRows
section
namespace Go.Proofs.Ytjkgjmaldbmgmaa.Pure
open Go.RowKit Go.Proofs.Ytjkgjmaldbmgmaa.P Go.Proofs.YtjkgjmaldbmgmaaW.PrintWords Go.Proofs.YtjkgjmaldbmgmaaW.PrintLast Go.Proofs.YtjkgjmaldbmgmaaW.PrintMore
set_option linter.unusedVariables false
set_option linter.unusedSimpArgs false
theorem multiple_l0 (l : List Int) (hl : l.length ≤ 8) (h : ∀ x ∈ l, 1 ≤ x ∧ x ≤ 60) : ∀ d n : Nat, n + d = l.length →
    Ev (fun k => impl_Tasks_multiple.l0 k ((lcmN 1 (l.take n) : Nat) : Int) l (l.length : Int) (n : Int)) ((lcmN 1 l : Nat) : Int) := by
  intro d
  induction d with
  | zero =>
    intro n hn
    rw [List.take_of_length_le (by omega)]
    refine Ev.step (fun k => by rw [impl_Tasks_multiple.l0]) ?_
    exact ev_neg (by omega) (ev_now _)
  | succ d ih =>
    intro n hn
    have hlt : n < l.length := by omega
    have hx := h _ (List.getElem_mem hlt)
    have hm : ∀ x ∈ l.take n, 1 ≤ x ∧ x ≤ 60 := fun x hx => h x (List.mem_of_mem_take hx)
    have hp := lcmN_pos 1 (by omega) (l.take n) (fun x hx => (hm x hx).1)
    have hb := lcmN_le8 hm (by rw [List.length_take]; omega)
    have hih := ih (n + 1) (by omega)
    rw [lcmN_take_succ _ _ _ hlt] at hih
    generalize lcmN 1 (l.take n) = a at hp hb hih ⊢
    obtain ⟨g, hg⟩ : ∃ g : Nat, l[n] = (g : Int) := ⟨(l[n]).toNat, by omega⟩
    rw [hg, Int.toNat_natCast] at hih
    rw [hg] at hx
    have hgp : 0 < Nat.gcd a g := Nat.gcd_pos_of_pos_left _ hp
    have h1 := Nat.div_le_self a (Nat.gcd a g)
    have h2 : Nat.lcm a g ≤ a * 60 := Nat.le_trans (lcm_le _ _) (Nat.mul_le_mul_left _ (by omega))
    refine Ev.step (fun k => by rw [impl_Tasks_multiple.l0]) ?_
    refine ev_pos (by omega) (ev_pos (by omega) (ev_pos (by omega) ?_))
    rw [rd_nat hlt, hg]
    refine ev_bind (divisor_ev a g) (ev_neg (by omega) ?_)
    rw [tdiv_nat, wrap_nat (Nat.le_trans h1 (by omega)), ← Int.natCast_mul, lcm_div, wrap_nat (Nat.le_trans h2 (by omega)), wrap_succ (by omega)]
    exact hih
theorem multiple_ev (l : List Int) (hl : l.length ≤ 8) (h : ∀ x ∈ l, 1 ≤ x ∧ x ≤ 60) : Ev (fun k => impl_Tasks_multiple.f k l) ((lcmN 1 l : Nat) : Int) := by
  unfold impl_Tasks_multiple.f
  exact multiple_l0 l hl h l.length 0 (by omega)
end Go.Proofs.Ytjkgjmaldbmgmaa.Pure
end
section
namespace Go.Proofs.Ytjkgjmaldbmgmaa.Pure
set_option linter.unusedVariables false
set_option linter.unusedSimpArgs false
theorem tmod_nat (m n : Nat) : Int.tmod (m : Int) (n : Int) = ((m % n : Nat) : Int) := rfl
end Go.Proofs.Ytjkgjmaldbmgmaa.Pure
end
section
namespace Go.Proofs.Ytjkgjmaldbmgmaa.Pure
open Go.RowKit Go.Proofs.Ytjkgjmaldbmgmaa.P Go.Proofs.YtjkgjmaldbmgmaaW.PrintWords Go.Proofs.YtjkgjmaldbmgmaaW.PrintLast Go.Proofs.YtjkgjmaldbmgmaaW.PrintMore
set_option linter.unusedVariables false
set_option linter.unusedSimpArgs false
theorem harm1_iff {a b : Int} (ha : 1 ≤ a) (hb : 1 ≤ b) : harm1 a b = true ↔ (Int.tmod a b = 0 ∨ Int.tmod b a = 0) := by
  obtain ⟨x, rfl⟩ : ∃ x : Nat, a = x := ⟨a.toNat, by omega⟩
  obtain ⟨y, rfl⟩ : ∃ y : Nat, b = y := ⟨b.toNat, by omega⟩
  rw [tmod_nat, tmod_nat]
  unfold harm1 mx mn
  rw [beq_iff_eq]
  by_cases c : (x : Int) < (y : Int)
  · rw [if_pos c, if_neg (by omega), tmod_nat]
    have : x % y = x := Nat.mod_eq_of_lt (by omega)
    omega
  · rw [if_neg c]
    by_cases d : (y : Int) < (x : Int)
    · rw [if_pos d, tmod_nat]
      have : y % x = y := Nat.mod_eq_of_lt (by omega)
      omega
    · rw [if_neg d]
      obtain rfl : x = y := by omega
      rw [tmod_nat, Nat.mod_self]
      omega
theorem harm1_dvd {a b : Int} (ha : 1 ≤ a) (hb : 1 ≤ b) (h : harm1 a b = true) (hab : a ≤ b) : a.toNat ∣ b.toNat := by
  rw [harm1_iff ha hb] at h
  obtain ⟨x, rfl⟩ : ∃ x : Nat, a = x := ⟨a.toNat, by omega⟩
  obtain ⟨y, rfl⟩ : ∃ y : Nat, b = y := ⟨b.toNat, by omega⟩
  rw [tmod_nat, tmod_nat] at h
  rw [Int.toNat_natCast, Int.toNat_natCast]
  rcases h with h | h
  · by_cases c : x = y
    · subst c; exact Nat.dvd_refl _
    · have : x % y = x := Nat.mod_eq_of_lt (by omega)
      omega
  · exact Nat.dvd_of_mod_eq_zero (by omega)
def harmB (G : List Int) : Bool := G.all fun a => G.all fun b => harm1 a b
theorem isHarmonic_f (G : List Int) (hG : ∀ x ∈ G, 1 ≤ x ∧ x ≤ 40) : impl_Tasks_isHarmonic.f G = some (harmB G) := by
  unfold impl_Tasks_isHarmonic.f
  rw [if_pos (fun x hx => (hG x hx).1)]
  rfl
theorem harmB_iff (G : List Int) : harmB G = true ↔ ∀ i j : Nat, i < G.length → j < G.length → harm1 (rd G i) (rd G j) = true := by
  unfold harmB
  rw [List.all_eq_true]
  constructor
  · intro h i j hi hj
    have := h _ (rd_mem (l := G) (i := (i : Int)) (by omega) (by omega))
    rw [List.all_eq_true] at this
    exact this _ (rd_mem (by omega) (by omega))
  · intro h a ha
    rw [List.all_eq_true]
    intro b hb
    obtain ⟨i, hi, rfl⟩ := List.getElem_of_mem ha
    obtain ⟨j, hj, rfl⟩ := List.getElem_of_mem hb
    have := h i j hi hj
    rwa [rd_nat hi, rd_nat hj] at this
def pairOk (G : List Int) (i j : Nat) : Prop := Int.tmod (rd G i) (rd G j) = 0 ∨ Int.tmod (rd G j) (rd G i) = 0
theorem l03_l1 (G : List Int) (hG : ∀ x ∈ G, 1 ≤ x ∧ x ≤ 40) (h8 : G.length ≤ 8) (i : Nat) (hi : i < G.length) (R : Bool) : ∀ d j : Nat, j + d = i →
    ((∀ m : Nat, j ≤ m → m < i → pairOk G i m) → Ev (fun k => spec_l03Harmonic.l0 k ((i + 1 : Nat) : Int) G) R) → ((¬ ∀ m : Nat, j ≤ m → m < i → pairOk G i m) → R = false) →
    Ev (fun k => spec_l03Harmonic.l1 k (i : Int) (j : Int) G) R := by
  intro d
  induction d with
  | zero =>
    intro j hj h1 h2
    refine Ev.step (fun k => by rw [spec_l03Harmonic.l1]) ?_
    rw [wrap_succ (n := i) (by omega)]
    exact ev_neg (by omega) (h1 (fun m hm1 hm2 => by omega))
  | succ d ih =>
    intro j hj h1 h2
    have gi := hG _ (rd_mem (l := G) (i := (i : Int)) (by omega) (by omega))
    have gj := hG _ (rd_mem (l := G) (i := (j : Int)) (by omega) (by omega))
    have go : pairOk G i j → Ev (fun k => spec_l03Harmonic.l1 k (i : Int) ((j + 1 : Nat) : Int) G) R := fun hp => by
      refine ih (j + 1) (by omega) (fun h => h1 fun m hm1 hm2 => ?_) (fun h => h2 fun hall => h fun m hm1 hm2 => hall m (by omega) hm2)
      by_cases e : m = j
      · subst e; exact hp
      · exact h m (by omega) hm2
    refine Ev.step (fun k => by rw [spec_l03Harmonic.l1]) ?_
    rw [wrap_succ (n := j) (by omega)]
    refine ev_pos (by omega) (ev_pos (by omega) (ev_pos (by omega) (ev_pos (by omega) (ev_pos (by omega) (ev_neg (by omega) ?_)))))
    by_cases c : Int.tmod (rd G i) (rd G j) = 0
    · exact ev_pos c (go (.inl c))
    · refine ev_neg c (ev_neg (by omega) ?_)
      by_cases c2 : Int.tmod (rd G j) (rd G i) = 0
      · exact ev_pos c2 (go (.inr c2))
      · refine ev_neg c2 (ev_is ?_)
        rw [h2 (fun hall => by
          rcases hall j (by omega) (by omega) with h | h
          · exact c h
          · exact c2 h)]
theorem l03_l0 (G : List Int) (hG : ∀ x ∈ G, 1 ≤ x ∧ x ≤ 40) (h8 : G.length ≤ 8) (R : Bool) : ∀ d i : Nat, i + d = G.length →
    ((∀ a b : Nat, i ≤ a → a < G.length → b < a → pairOk G a b) → R = true) → ((¬ ∀ a b : Nat, i ≤ a → a < G.length → b < a → pairOk G a b) → R = false) →
    Ev (fun k => spec_l03Harmonic.l0 k (i : Int) G) R := by
  intro d
  induction d with
  | zero =>
    intro i hi h1 h2
    refine Ev.step (fun k => by rw [spec_l03Harmonic.l0]) ?_
    exact ev_neg (by omega) (ev_is (by rw [h1 (fun a b ha1 ha2 => by omega)]))
  | succ d ih =>
    intro i hi h1 h2
    refine Ev.step (fun k => by rw [spec_l03Harmonic.l0]) ?_
    refine ev_pos (by omega) (l03_l1 G hG h8 i (by omega) R i 0 (by omega) (fun hrow => ?_) (fun hno => ?_))
    · refine ih (i + 1) (by omega) (fun h => h1 fun a b ha1 ha2 hb => ?_) (fun h => h2 fun hall => h fun a b ha1 ha2 hb => hall a b (by omega) ha2 hb)
      by_cases e : a = i
      · subst e; exact hrow b (by omega) hb
      · exact h a b (by omega) ha2 hb
    · exact h2 fun hall => hno fun m _ hm => hall i m (by omega) (by omega) hm
theorem l03Harmonic_ev (G : List Int) (hG : ∀ x ∈ G, 1 ≤ x ∧ x ≤ 40) (h8 : G.length ≤ 8) : Ev (fun k => spec_l03Harmonic.f k G) (harmB G) := by
  have g : ∀ i : Nat, i < G.length → 1 ≤ rd G i := fun i hi => (hG _ (rd_mem (by omega) (by omega))).1
  have key : harmB G = true ↔ ∀ a b : Nat, 0 ≤ a → a < G.length → b < a → pairOk G a b := by
    rw [harmB_iff]
    constructor
    · intro h a b _ ha hb
      exact (harm1_iff (g a ha) (g b (by omega))).1 (h a b ha (by omega))
    · intro h i j hi hj
      rw [harm1_iff (g i hi) (g j hj)]
      rcases Nat.lt_trichotomy i j with c | c | c
      · rcases h j i (by omega) hj c with h | h
        · exact .inr h
        · exact .inl h
      · subst c
        left
        obtain ⟨x, hx⟩ : ∃ x : Nat, rd G i = x := ⟨(rd G i).toNat, by have := g i hi; omega⟩
        rw [hx, tmod_nat, Nat.mod_self]; rfl
      · exact h i j (by omega) hi c
  unfold spec_l03Harmonic.f
  refine l03_l0 G hG h8 _ G.length 0 (by omega) (fun h => key.2 h) (fun h => ?_)
  cases hh : harmB G with
  | false => rfl
  | true => exact absurd (key.1 hh) h
/-- the order of harmonic tasks -/
theorem harm_great {G : List Int} (hG : ∀ x ∈ G, 1 ≤ x ∧ x ≤ 40) (h1 : 1 ≤ G.length) : great G ∈ G ∧ 1 ≤ great G ∧ great G ≤ 40 := by
  have hle := great_le (l := G) (b := 40) (by omega) fun x hx => (hG x hx).2
  have hmem : ∀ (l : List Int) (a : Int), (∀ x ∈ l, 1 ≤ x) → l.foldl mx a = a ∨ l.foldl mx a ∈ l := by
    intro l
    induction l with
    | nil => intro a _; exact .inl rfl
    | cons y l ih =>
      intro a h
      rw [List.foldl_cons]
      rcases ih (mx a y) (fun x hx => h x (List.mem_cons_of_mem _ hx)) with h2 | h2
      · rw [h2]
        unfold mx
        split
        · exact .inr List.mem_cons_self
        · exact .inl rfl
      · exact .inr (List.mem_cons_of_mem _ h2)
  have h0 := great_pos (l := G) (x := G[0]) (List.getElem_mem (by omega))
  have h2 := hG _ (List.getElem_mem (l := G) (n := 0) (by omega))
  refine ⟨?_, by omega, hle⟩
  rcases hmem G 0 (fun x hx => (hG x hx).1) with h | h
  · unfold great at h0; omega
  · exact h
theorem harm_dvd_great {G : List Int} (hG : ∀ x ∈ G, 1 ≤ x ∧ x ≤ 40) (h1 : 1 ≤ G.length) (hh : harmB G = true) : ∀ x ∈ G, x.toNat ∣ (great G).toNat := fun x hx => by
  obtain ⟨hm, hg1, _⟩ := harm_great hG h1
  unfold harmB at hh
  rw [List.all_eq_true] at hh
  have := hh x hx
  rw [List.all_eq_true] at this
  exact harm1_dvd (hG x hx).1 hg1 (this _ hm) (great_pos hx)
theorem harm_lcm {G : List Int} (hG : ∀ x ∈ G, 1 ≤ x ∧ x ≤ 40) (h1 : 1 ≤ G.length) (hh : harmB G = true) : lcmN 1 G = (great G).toNat :=
  Nat.dvd_antisymm (lcmN_dvd 1 G _ (Nat.one_dvd _) (harm_dvd_great hG h1 hh)) (dvd_lcmN 1 G _ (harm_great hG h1).1)
theorem harm_order {G : List Int} (hG : ∀ x ∈ G, 1 ≤ x ∧ x ≤ 40) (h1 : 1 ≤ G.length) (hh : harmB G = true) : Harm G (great G).toNat (ordF G G.length) := by
  have hm : ∀ t ∈ ordF G G.length, 0 ≤ t ∧ t < (G.length : Int) := fun t ht => (ordF_mem G _ t).1 ht
  refine ⟨hm, fun t ht => harm_dvd_great hG h1 hh _ (rd_mem (hm t ht).1 (hm t ht).2), ?_⟩
  have hs := ordF_sorted G G.length
  rw [harmB_iff] at hh
  refine List.Pairwise.imp_of_mem (fun {a b} ha hb hab => ?_) hs
  have h2 := hm a ha
  have h3 := hm b hb
  have h4 := hh a.toNat b.toNat (by omega) (by omega)
  rw [show ((a.toNat : Nat) : Int) = a by omega, show ((b.toNat : Nat) : Int) = b by omega] at h4
  exact harm1_dvd (hG _ (rd_mem h2.1 h2.2)).1 (hG _ (rd_mem h3.1 h3.2)).1 h4 hab
theorem last_gap {G : List Int} (hG : ∀ x ∈ G, 1 ≤ x ∧ x ≤ 40) (h1 : 1 ≤ G.length) : rd (gapsBy G (ordF G G.length)) ((G.length - 1 : Nat) : Int) = great G := by
  have hl := ordF_length G G.length
  have hs := List.pairwise_iff_getElem.1 (ordF_sorted G G.length)
  have hgl : (gapsBy G (ordF G G.length)).length = G.length := by rw [gapsBy, List.length_map, hl]
  rw [rd_nat (by omega)]
  simp only [gapsBy, List.getElem_map]
  have hm := (ordF_mem G _ _).1 (List.getElem_mem (l := ordF G G.length) (n := G.length - 1) (by omega))
  have ha := great_pos (rd_mem hm.1 hm.2)
  have hb : great G ≤ rd G (ordF G G.length)[G.length - 1] := great_le (by have := hG _ (rd_mem hm.1 hm.2); omega) fun x hx => by
    obtain ⟨i, hi, rfl⟩ := List.getElem_of_mem hx
    have hio := (ordF_mem G G.length (i : Int)).2 (by omega)
    obtain ⟨j, hj, ej⟩ := List.getElem_of_mem hio
    have e : G[i] = rd G (ordF G G.length)[j] := by rw [ej, rd_nat hi]
    rw [e]
    rcases Nat.lt_or_ge j (G.length - 1) with c | c
    · exact hs j (G.length - 1) (by omega) (by omega) c
    · have : j = G.length - 1 := by omega
      subst this
      exact Int.le_refl _
  omega
end Go.Proofs.Ytjkgjmaldbmgmaa.Pure
end
section
namespace Go.Proofs.Ytjkgjmaldbmgmaa.Pure
open Go.RowKit Go.Proofs.Ytjkgjmaldbmgmaa.P Go.Proofs.YtjkgjmaldbmgmaaW.PrintWords Go.Proofs.YtjkgjmaldbmgmaaW.PrintLast Go.Proofs.YtjkgjmaldbmgmaaW.PrintMore
set_option linter.unusedVariables false
set_option linter.unusedSimpArgs false
def sumG (N : Nat) (l : List Int) : Nat := match l with | [] => 0 | g :: l => N / g.toNat + sumG N l
theorem sumG_append (N : Nat) (a b : List Int) : sumG N (a ++ b) = sumG N a + sumG N b := by
  induction a with
  | nil => simp [sumG]
  | cons y a ih => simp only [List.cons_append, sumG, ih]; omega
theorem sumG_le (N : Nat) (l : List Int) : sumG N l ≤ l.length * N := by
  induction l with
  | nil => simp [sumG]
  | cons y l ih =>
    have := Nat.div_le_self N y.toNat
    rw [sumG, List.length_cons, Nat.succ_mul]
    omega
theorem sumG_map (G : List Int) (N : Nat) : ∀ n : Nat, n ≤ G.length → sumF (fun i => need G N i) ((List.range' 0 n).map fun (i : Nat) => (i : Int)) = (sumG N (G.take n) : Int) := by
  intro n
  induction n with
  | zero => intro _; rfl
  | succ n ih =>
    intro hn
    have hlt : n < G.length := by omega
    rw [List.range'_1_concat, List.map_append, sumF_append, ih (by omega), List.take_succ_eq_append_getElem hlt, sumG_append, Int.natCast_add]
    congr 1
    simp only [List.map_cons, List.map_nil, sumF, sumG, Nat.zero_add, Nat.add_zero, Int.add_zero, need, rd_nat hlt]
theorem density_l0 (G : List Int) (hG : ∀ x ∈ G, 1 ≤ x ∧ x ≤ 40) (h8 : G.length ≤ 8) (N : Nat) (hN : 1 ≤ N ∧ N ≤ 40) (R : Int × Int)
    (hR : R = (((sumG N G / Nat.gcd (sumG N G) N : Nat) : Int), ((N / Nat.gcd (sumG N G) N : Nat) : Int))) : ∀ d n : Nat, n + d = G.length →
    Ev (fun k => impl_Tasks_density.l0 k (N : Int) ((sumG N (G.take n) : Nat) : Int) G (G.length : Int) (n : Int)) R := by
  intro d
  induction d with
  | zero =>
    intro n hn
    rw [List.take_of_length_le (by omega)]
    have hs := sumG_le N G
    have hb : sumG N G ≤ 8 * 40 := Nat.le_trans hs (Nat.mul_le_mul h8 hN.2)
    have hg : 0 < Nat.gcd (sumG N G) N := Nat.gcd_pos_of_pos_right _ (by omega)
    have h1 := Nat.div_le_self (sumG N G) (Nat.gcd (sumG N G) N)
    have h2 := Nat.div_le_self N (Nat.gcd (sumG N G) N)
    refine Ev.step (fun k => by rw [impl_Tasks_density.l0]) ?_
    refine ev_neg (by omega) (ev_bind (divisor_ev (sumG N G) N) (ev_neg (by omega) ?_))
    rw [tdiv_nat, tdiv_nat, wrap_nat (by omega), wrap_nat (by omega), hR]
    exact ev_now _
  | succ d ih =>
    intro n hn
    have hlt : n < G.length := by omega
    have hg := hG _ (List.getElem_mem hlt)
    have hs := sumG_le N (G.take n)
    rw [List.length_take] at hs
    have hb : sumG N (G.take n) ≤ 8 * 40 := Nat.le_trans hs (Nat.mul_le_mul (by omega) hN.2)
    have h1 := Nat.div_le_self N (G[n]).toNat
    have ih := ih (n + 1) (by omega)
    rw [List.take_succ_eq_append_getElem hlt, sumG_append] at ih
    refine Ev.step (fun k => by rw [impl_Tasks_density.l0]) ?_
    rw [rd_nat hlt, wrap_succ (n := n) (by omega), show Int.tdiv (N : Int) G[n] = ((N / (G[n]).toNat : Nat) : Int) by
      conv => lhs; rw [show G[n] = ((G[n].toNat : Nat) : Int) by omega]
      exact tdiv_nat _ _]
    rw [wrap_nat (n := N / (G[n]).toNat) (by omega), ← Int.natCast_add, wrap_nat (by omega)]
    refine ev_pos (by omega) (ev_pos (by omega) (ev_pos (by omega) (ev_neg (by omega) ?_)))
    have e : sumG N (G.take n) + N / (G[n]).toNat = sumG N (G.take n) + sumG N [G[n]] := by simp [sumG]
    rw [e]
    exact ih
theorem isThin_ev (G : List Int) (hG : ∀ x ∈ G, 1 ≤ x ∧ x ≤ 40) (h8 : 1 ≤ G.length ∧ G.length ≤ 8) (hh : harmB G = true) : Ev (fun k => impl_Tasks_isThin.f k G) (decide (sumG (great G).toNat G ≤ (great G).toNat)) := by
  obtain ⟨_, g1, g2⟩ := harm_great hG h8.1
  have hm := multiple_ev G h8.2 (fun x hx => by have := hG x hx; omega)
  rw [harm_lcm hG h8.1 hh] at hm
  have hd : Ev (fun k => impl_Tasks_density.f k G) (((sumG (great G).toNat G / Nat.gcd (sumG (great G).toNat G) (great G).toNat : Nat) : Int), (((great G).toNat / Nat.gcd (sumG (great G).toNat G) (great G).toNat : Nat) : Int)) := by
    unfold impl_Tasks_density.f
    exact ev_bind hm (density_l0 G hG h8.2 (great G).toNat (by omega) _ rfl G.length 0 (by omega))
  unfold impl_Tasks_isThin.f
  refine ev_bind hd (ev_is ?_)
  congr 1
  have hg : 0 < Nat.gcd (sumG (great G).toNat G) (great G).toNat := Nat.gcd_pos_of_pos_right _ (by omega)
  have a1 := Nat.div_mul_cancel (Nat.gcd_dvd_left (sumG (great G).toNat G) (great G).toNat)
  have a2 := Nat.div_mul_cancel (Nat.gcd_dvd_right (sumG (great G).toNat G) (great G).toNat)
  apply decide_eq_decide.2
  constructor
  · intro h
    have h2 := Nat.mul_le_mul_right (Nat.gcd (sumG (great G).toNat G) (great G).toNat) (Int.ofNat_le.1 h)
    omega
  · intro h
    exact Int.ofNat_le.2 (Nat.div_le_div_right h)
/-- the harmonic turns, or none -/
def harmT (G : List Int) : Option (List Int) := gre G (great G).toNat (ordF G G.length) (List.replicate (great G).toNat (-1))
theorem start_place (N h : Nat) : Place (List.replicate N (-1)) N h := ⟨List.length_replicate, fun s hs => by
  rw [List.length_replicate] at hs
  rw [rd_nat (by rw [List.length_replicate]; omega), rd_nat (by rw [List.length_replicate]; omega)]
  simp⟩
theorem neg_start (N : Nat) : neg (List.replicate N (-1)) = N := by
  induction N with
  | zero => rfl
  | succ N ih => rw [List.replicate_succ, neg, ih, if_pos (by omega)]; omega
theorem harmT_none (G : List Int) (hG : ∀ x ∈ G, 1 ≤ x ∧ x ≤ 40) (h8 : 1 ≤ G.length ∧ G.length ≤ 8) (hh : harmB G = true) : harmT G = none ↔ ¬ sumG (great G).toNat G ≤ (great G).toNat := by
  obtain ⟨_, g1, g2⟩ := harm_great hG h8.1
  have H := harm_order hG h8.1 hh
  unfold harmT
  rw [gre_none G _ (by omega) _ _ (fun t ht => ⟨(H.mem t ht).1, by have := hG _ (rd_mem (H.mem t ht).1 (H.mem t ht).2); omega, H.dvd t ht⟩) H.pw (fun h _ => start_place _ _) List.length_replicate, neg_start, ordF_sum]
  have := sumG_map G (great G).toNat G.length (Nat.le_refl _)
  rw [List.take_length] at this
  rw [this]
  omega
theorem start_idle (N : Nat) : IdleOk (List.replicate N (-1)) := fun x hx => by
  rw [(List.mem_replicate.1 hx).2]; omega
theorem harmonic_ev (G : List Int) (hG : ∀ x ∈ G, 1 ≤ x ∧ x ≤ 40) (h8 : 1 ≤ G.length ∧ G.length ≤ 8) (hh : harmB G = true) (r : List Int) (hr : harmT G = some r) : Ev (fun k => impl_Tasks_harmonic.f k G) r := by
  obtain ⟨_, g1, g2⟩ := harm_great hG h8.1
  have H := harm_order hG h8.1 hh
  have ho := ordF_length G G.length
  unfold impl_Tasks_harmonic.f
  refine ev_bind (Max_ev G (by omega) h8.1 (fun x hx => by have := hG x hx; omega)) (ev_fix (a := List.replicate (great G).toNat (-1)) (by
    unfold slices_Repeat_Sint64_int64.f
    rw [if_pos ⟨rfl, by omega, by omega⟩]
    rfl) (ev_bind (byGap_ev G hG h8) ?_))
  exact impl_harm_l0 G _ hG (great G).toNat (by omega) (by omega) _ 0 _ rfl (by omega) H (fun h _ => start_place _ _) List.length_replicate (start_idle _) r hr
theorem l03Turns_ev (G : List Int) (hG : ∀ x ∈ G, 1 ≤ x ∧ x ≤ 40) (h8 : 1 ≤ G.length ∧ G.length ≤ 8) (hh : harmB G = true) : Ev (fun k => spec_l03Turns.f k G) (match harmT G with | some r => (r, true) | none => ([], false)) := by
  obtain ⟨_, g1, g2⟩ := harm_great hG h8.1
  have H := harm_order hG h8.1 hh
  have ho := ordF_length G G.length
  have hgl : (gapsBy G (ordF G G.length)).length = G.length := by rw [gapsBy, List.length_map, ho]
  have hlast := last_gap hG h8.1
  have main : ∀ d n : Nat, n + d = (great G).toNat → Ev (fun k => spec_l03Turns.l0 k (ordF G G.length) (List.replicate n (-1)) (n : Int) (gapsBy G (ordF G G.length))) (match harmT G with | some r => (r, true) | none => ([], false)) := by
    intro d
    induction d with
    | zero =>
      intro n hn
      obtain rfl : n = (great G).toNat := by omega
      refine Ev.step (fun k => by rw [spec_l03Turns.l0]) ?_
      rw [ho, wrap_id (x := (G.length : Int) - 1) (by omega) (by omega), show (G.length : Int) - 1 = ((G.length - 1 : Nat) : Int) by omega, hlast]
      refine ev_pos (by omega) (ev_pos (by omega) (ev_neg (by omega) ?_))
      exact spec_harm_l1 G _ hG (great G).toNat (by omega) (by omega) _ 0 _ rfl (by omega) H (fun h _ => start_place _ _) List.length_replicate
    | succ d ih =>
      intro n hn
      have ih := ih (n + 1) (by omega)
      rw [List.replicate_succ'] at ih
      refine Ev.step (fun k => by rw [spec_l03Turns.l0]) ?_
      rw [ho, wrap_id (x := (G.length : Int) - 1) (by omega) (by omega), show (G.length : Int) - 1 = ((G.length - 1 : Nat) : Int) by omega, hlast, wrap_succ (n := n) (by omega)]
      exact ev_pos (by omega) (ev_pos (by omega) (ev_pos (by omega) (ev_pos (by rw [List.length_replicate]; omega) ih)))
  unfold spec_l03Turns.f
  exact ev_bind (l01Sorted_ev G hG h8.2) (main (great G).toNat 0 (by omega))
theorem gre_length (G : List Int) (N : Nat) : ∀ ts out r, gre G N ts out = some r → r.length = out.length := by
  intro ts
  induction ts with
  | nil => intro out r h; rw [gre] at h; obtain rfl := Option.some.inj h; rfl
  | cons t ts ih =>
    intro out r h
    rw [gre] at h
    split at h
    · rw [ih _ _ h, fillM_length]
    · exact absurd h (by simp)
end Go.Proofs.Ytjkgjmaldbmgmaa.Pure
end
section
namespace Go.Proofs.Ytjkgjmaldbmgmaa.Pure
open Go.RowKit Go.Proofs.Ytjkgjmaldbmgmaa.P Go.Proofs.YtjkgjmaldbmgmaaW.PrintWords Go.Proofs.YtjkgjmaldbmgmaaW.PrintLast Go.Proofs.YtjkgjmaldbmgmaaW.PrintMore
set_option linter.unusedVariables false
set_option linter.unusedSimpArgs false
theorem toInt64S_l0 (l : List Int) (hl : l.length ≤ 9223372036854775807) : ∀ d n : Nat, n + d = l.length → Ev (fun k => laws_toInt64S.l0 k l (l.take n ++ List.replicate d 0) (n : Int)) l := by
  intro d
  induction d with
  | zero =>
    intro n hn
    refine Ev.step (fun k => by rw [laws_toInt64S.l0]) ?_
    refine ev_neg (by omega) ?_
    rw [List.take_of_length_le (by omega), List.replicate_zero, List.append_nil]
    exact ev_now l
  | succ d ih =>
    intro n hn
    have hlt : n < l.length := by omega
    refine Ev.step (fun k => by rw [laws_toInt64S.l0]) ?_
    refine ev_pos (by omega) (ev_pos (by omega) (ev_pos ?_ ?_))
    · rw [List.length_append, List.length_take, List.length_replicate]; omega
    · rw [wrap_succ (by omega), rd_nat hlt, Int.toNat_natCast]
      have e : (l.take n ++ List.replicate (d + 1) 0).set n l[n] = l.take (n + 1) ++ List.replicate d 0 := by
        rw [List.set_append_right _ _ (by rw [List.length_take]; omega), List.length_take, Nat.min_eq_left (by omega), Nat.sub_self, List.replicate_succ, List.set_cons_zero, List.take_succ_eq_append_getElem hlt, List.append_assoc]
        rfl
      rw [e]
      exact ih (n + 1) (by omega)
/-- toInt64S hands back the list. -/
theorem toInt64S_ev (l : List Int) (hl : l.length ≤ 35184372088832) : Ev (fun k => laws_toInt64S.f k l) l := by
  unfold laws_toInt64S.f
  refine ev_pos (by omega) (ev_pos (by omega) ?_)
  rw [Int.toNat_natCast]
  exact toInt64S_l0 l (by omega) l.length 0 (by omega)
theorem eqInt64S_l0 (l : List Int) (hl : l.length ≤ 9223372036854775807) : ∀ d n : Nat, n + d = l.length → Ev (fun k => laws_eqInt64S.l0 k l l (n : Int)) true := by
  intro d
  induction d with
  | zero =>
    intro n hn
    refine Ev.step (fun k => by rw [laws_eqInt64S.l0]) ?_
    exact ev_neg (by omega) (ev_now true)
  | succ d ih =>
    intro n hn
    refine Ev.step (fun k => by rw [laws_eqInt64S.l0]) ?_
    refine ev_pos (by omega) (ev_pos (by omega) (ev_pos (by omega) (ev_pos rfl ?_)))
    rw [wrap_succ (by omega)]
    exact ih (n + 1) (by omega)
/-- eqInt64S says that a list is itself. -/
theorem eqInt64S_ev (l : List Int) (hl : l.length ≤ 9223372036854775807) : Ev (fun k => laws_eqInt64S.f k l l) true := by
  unfold laws_eqInt64S.f
  exact ev_pos rfl (eqInt64S_l0 l hl l.length 0 (by omega))
end Go.Proofs.Ytjkgjmaldbmgmaa.Pure
end
section
namespace Go.Proofs.Ytjkgjmaldbmgmaa.Pure
open Go.RowKit Go.Proofs.Ytjkgjmaldbmgmaa.P Go.Proofs.YtjkgjmaldbmgmaaW.PrintWords Go.Proofs.YtjkgjmaldbmgmaaW.PrintLast Go.Proofs.YtjkgjmaldbmgmaaW.PrintMore
set_option linter.unusedVariables false
set_option linter.unusedSimpArgs false
/-- the numbers from m on -/
def upFrom (m : Int) : Nat → List Int
  | 0 => []
  | n + 1 => m :: upFrom (m + 1) n
theorem upFrom_length (n : Nat) : ∀ m, (upFrom m n).length = n := by
  induction n with
  | zero => intro m; rfl
  | succ n ih => intro m; simp [upFrom, ih]
theorem upFrom_get (n : Nat) : ∀ (m : Int) (j : Nat), j < n → (upFrom m n)[j]? = some (m + j) := by
  induction n with
  | zero => intro m j h; omega
  | succ n ih =>
    intro m j h
    cases j with
    | zero => simp [upFrom]
    | succ j => simp only [upFrom, List.getElem?_cons_succ]; rw [ih (m + 1) j (by omega)]; congr 1; omega
theorem upFrom_succ (n : Nat) (m : Int) : upFrom m (n + 1) = upFrom m n ++ [m + n] := by
  apply List.ext_getElem?
  intro j
  rcases Nat.lt_or_ge j n with h | h
  · rw [upFrom_get _ _ _ (by omega), List.getElem?_append_left (by rw [upFrom_length]; exact h), upFrom_get _ _ _ h]
  · rw [List.getElem?_append_right (by rw [upFrom_length]; exact h), upFrom_length]
    rcases Nat.eq_or_lt_of_le h with rfl | h
    · rw [upFrom_get _ _ _ (by omega)]; simp
    · rw [List.getElem?_eq_none (by rw [upFrom_length]; omega), List.getElem?_eq_none (by simp; omega)]
theorem markInt64S_l0 (l : List Int) (m : Int) (h0 : 0 ≤ m) (hl : m + l.length ≤ 9223372036854775807) : ∀ d n : Nat, n + d = l.length → Ev (fun k => laws_markInt64S.l0 k (upFrom m n ++ l.drop n) (m + n) (n : Int)) (m + l.length, upFrom m l.length) := by
  intro d
  induction d with
  | zero =>
    intro n hn
    refine Ev.step (fun k => by rw [laws_markInt64S.l0]) ?_
    refine ev_neg (by rw [List.length_append, upFrom_length, List.length_drop]; omega) ?_
    rw [List.drop_of_length_le (by omega), List.append_nil, show n = l.length by omega]
    exact ev_now _
  | succ d ih =>
    intro n hn
    have hlt : n < l.length := by omega
    refine Ev.step (fun k => by rw [laws_markInt64S.l0]) ?_
    refine ev_pos (by rw [List.length_append, upFrom_length, List.length_drop]; omega) (ev_pos (by omega) ?_)
    rw [wrap_succ (by omega), wrap_id (x := m + n + 1) (by omega) (by omega), Int.toNat_natCast]
    have e : (upFrom m n ++ l.drop n).set n (m + n) = upFrom m (n + 1) ++ l.drop (n + 1) := by
      rw [List.set_append_right _ _ (by rw [upFrom_length]; omega), upFrom_length, Nat.sub_self, List.drop_eq_getElem_cons hlt, List.set_cons_zero, upFrom_succ, List.append_assoc]
      rfl
    rw [e, show m + (n : Int) + 1 = m + ((n + 1 : Nat) : Int) by omega]
    exact ih (n + 1) (by omega)
theorem markInt64S_ev (l : List Int) (m : Int) (h0 : 0 ≤ m) (hl : m + l.length ≤ 9223372036854775807) : Ev (fun k => laws_markInt64S.f k l m) (m + l.length, upFrom m l.length) := by
  unfold laws_markInt64S.f
  have h := markInt64S_l0 l m h0 hl l.length 0 (by omega)
  simpa [upFrom] using h
theorem heldInt64S_l0 (m : Int) (h0 : 0 ≤ m) (N : Nat) (hl : m + N ≤ 9223372036854775807) : ∀ d n : Nat, n + d = N → Ev (fun k => laws_heldInt64S.l0 k (upFrom m N) (m + n) (n : Int)) (m + N) := by
  intro d
  induction d with
  | zero =>
    intro n hn
    refine Ev.step (fun k => by rw [laws_heldInt64S.l0]) ?_
    refine ev_neg (by rw [upFrom_length]; omega) ?_
    rw [show n = N by omega]
    exact ev_now _
  | succ d ih =>
    intro n hn
    refine Ev.step (fun k => by rw [laws_heldInt64S.l0]) ?_
    refine ev_pos (by rw [upFrom_length]; omega) (ev_pos (by omega) (ev_pos ?_ ?_))
    · have h := upFrom_get N m n (by omega)
      simp [rd, h]
    · rw [wrap_succ (by omega), wrap_id (x := m + n + 1) (by omega) (by omega), show m + (n : Int) + 1 = m + ((n + 1 : Nat) : Int) by omega]
      exact ih (n + 1) (by omega)
theorem heldInt64S_ev (m : Int) (h0 : 0 ≤ m) (N : Nat) (hl : m + N ≤ 9223372036854775807) : Ev (fun k => laws_heldInt64S.f k (upFrom m N) m) (m + N) := by
  unfold laws_heldInt64S.f
  have h := heldInt64S_l0 m h0 N hl N 0 (by omega)
  simpa using h
end Go.Proofs.Ytjkgjmaldbmgmaa.Pure
end
section
namespace Go.Proofs.Ytjkgjmaldbmgmaa.Pure
open Go.RowKit Go.Proofs.Ytjkgjmaldbmgmaa.P Go.Proofs.YtjkgjmaldbmgmaaW.PrintWords Go.Proofs.YtjkgjmaldbmgmaaW.PrintLast Go.Proofs.YtjkgjmaldbmgmaaW.PrintMore
set_option linter.unusedVariables false
set_option linter.unusedSimpArgs false
theorem szInt64S_f (l : List Int) (a : Int) (hl : l.length ≤ maxLen) (ha : 0 ≤ a ∧ a ≤ 1048576) : ∃ r, laws_szInt64S.f l a = some r ∧ (r < 0 ∨ (0 ≤ r ∧ r ≤ a ∧ (l.length : Int) ≤ a)) := by
  unfold laws_szInt64S.f
  unfold maxLen at hl
  rw [wrap_id (by omega) (by omega)]
  by_cases h : a - (l.length : Int) < 0
  · exact ⟨-1, by rw [if_pos h], .inl (by omega)⟩
  · exact ⟨a - l.length, by rw [if_neg h], .inr (by omega)⟩
end Go.Proofs.Ytjkgjmaldbmgmaa.Pure
end
section
namespace Go.Proofs.Ytjkgjmaldbmgmaa.Pure
open Go.RowKit Go.Proofs.Ytjkgjmaldbmgmaa.P Go.Proofs.YtjkgjmaldbmgmaaW.PrintWords Go.Proofs.YtjkgjmaldbmgmaaW.PrintLast Go.Proofs.YtjkgjmaldbmgmaaW.PrintMore
set_option linter.unusedVariables false
set_option linter.unusedSimpArgs false
theorem szTasks_f (l : List Int) (hl : l.length ≤ maxLen) : ∃ r, laws_szTasks.f l 1048576 = some r ∧ (r < 0 ∨ (0 ≤ r ∧ l.length ≤ 1048576)) := by
  unfold laws_szTasks.f
  obtain ⟨r1, e1, h1⟩ := szInt64S_f l 1048576 hl (by omega)
  rw [e1, Option.bind_some]
  rcases h1 with h1 | h1
  · exact ⟨-1, by rw [if_pos h1], .inl (by omega)⟩
  · exact ⟨r1, by rw [if_neg (by omega)], .inr (by omega)⟩
theorem toTasks_ev (l : List Int) (hl : l.length ≤ 1048576) : Ev (fun k => laws_toTasks.f k l) l := by
  unfold laws_toTasks.f
  exact ev_bind (toInt64S_ev l (by omega)) (ev_now _)
theorem eqTasks_ev (l : List Int) (hl : l.length ≤ 1048576) : Ev (fun k => laws_eqTasks.f k l l) true := by
  unfold laws_eqTasks.f
  exact ev_bind (eqInt64S_ev l (by omega)) (ev_pos rfl (ev_now _))
end Go.Proofs.Ytjkgjmaldbmgmaa.Pure
end
section
namespace Go.Proofs.Ytjkgjmaldbmgmaa.Pure
open Go.RowKit Go.Proofs.Ytjkgjmaldbmgmaa.P Go.Proofs.YtjkgjmaldbmgmaaW.PrintWords Go.Proofs.YtjkgjmaldbmgmaaW.PrintLast Go.Proofs.YtjkgjmaldbmgmaaW.PrintMore
set_option linter.unusedVariables false
set_option linter.unusedSimpArgs false
/-- tasks: 1 to 8 gaps in 1..40 -/
def isTasks (l : List Int) : Bool := decide (1 ≤ (l.length : Int) ∧ (l.length : Int) ≤ 8) && l.all fun g => decide (1 ≤ g ∧ g ≤ 40)
theorem IsTasks_f (l : List Int) : impl_IsTasks.f l = some (isTasks l) := rfl
theorem isTasks_iff (l : List Int) : isTasks l = true ↔ (1 ≤ l.length ∧ l.length ≤ 8) ∧ (∀ x ∈ l, 1 ≤ x ∧ x ≤ 40) := by
  unfold isTasks
  rw [Bool.and_eq_true, List.all_eq_true, decide_eq_true_iff]
  simp only [decide_eq_true_iff]
  constructor
  · rintro ⟨h1, h2⟩; exact ⟨by omega, h2⟩
  · rintro ⟨h1, h2⟩; exact ⟨by omega, h2⟩
theorem l01Is_l0 (l : List Int) (hl : l.length ≤ 1048576) : ∀ d n : Nat, n + d = l.length → (l.take n).all (fun g => decide (1 ≤ g ∧ g ≤ 40)) = true → Ev (fun k => spec_l01Is.l0 k (n : Int) l) (isTasks l) := by
  intro d
  induction d with
  | zero =>
    intro n hn ha
    refine Ev.step (fun k => by rw [spec_l01Is.l0]) ?_
    refine ev_neg (by omega) (ev_fix (show spec_l01K.f l = some (l.length : Int) from rfl) (ev_fix (l01In_f _ _ _) (ev_is ?_)))
    rw [List.take_of_length_le (by omega)] at ha
    rw [isTasks, ha, Bool.and_true]
  | succ d ih =>
    intro n hn ha
    have hlt : n < l.length := by omega
    refine Ev.step (fun k => by rw [spec_l01Is.l0]) (ev_pos (by omega) (ev_pos (by omega) (ev_fix (l01In_f _ _ _) ?_)))
    rw [rd_nat hlt]
    cases hq : decide (1 ≤ l[n] ∧ l[n] ≤ 40) with
    | true =>
      refine ev_pos rfl ?_
      rw [wrap_succ (by omega)]
      exact ih (n + 1) (by omega) (by rw [all_take_succ _ _ _ hlt, ha, hq]; rfl)
    | false =>
      refine ev_neg (by simp) (ev_is ?_)
      rw [isTasks, all_false_at _ l n hlt hq, Bool.and_false]
theorem l01Is_ev (l : List Int) (hl : l.length ≤ 1048576) : Ev (fun k => spec_l01Is.f k l) (isTasks l) := by
  unfold spec_l01Is.f
  exact l01Is_l0 l hl l.length 0 (by omega) (by simp)
end Go.Proofs.Ytjkgjmaldbmgmaa.Pure
end
section
namespace Go.Proofs.Ytjkgjmaldbmgmaa.Pure
open Go.RowKit Go.Proofs.Ytjkgjmaldbmgmaa.P Go.Proofs.YtjkgjmaldbmgmaaW.PrintWords Go.Proofs.YtjkgjmaldbmgmaaW.PrintLast Go.Proofs.YtjkgjmaldbmgmaaW.PrintMore
set_option linter.unusedVariables false
set_option linter.unusedSimpArgs false
def harmR (G : List Int) : List Int × Int := if isTasks G = true then (if harmB G = true then (match harmT G with | some r => (r, 0) | none => ([], 4)) else ([], 5)) else ([], 1)
theorem HarmonicTurns_spec (G : List Int) (hl : G.length ≤ 1048576) : Ev (fun k => spec_HarmonicTurns.f k G) (harmR G) := by
  unfold spec_HarmonicTurns.f harmR
  refine ev_bind (l01Is_ev G hl) ?_
  cases ht : isTasks G with
  | false => exact ev_neg (by simp) (ev_now _)
  | true =>
    obtain ⟨h8, hG⟩ := (isTasks_iff G).1 ht
    rw [if_pos rfl]
    refine ev_pos rfl (ev_bind (l03Harmonic_ev G hG h8.2) ?_)
    cases hh : harmB G with
    | false => exact ev_neg (by simp) (ev_now _)
    | true =>
      rw [if_pos rfl]
      refine ev_pos rfl (ev_bind (l03Turns_ev G hG h8 hh) ?_)
      cases harmT G with
      | none => exact ev_neg (by simp) (ev_now _)
      | some r => exact ev_pos rfl (ev_now _)
theorem HarmonicTurns_impl (G : List Int) : Ev (fun k => impl_HarmonicTurns.f k G) (harmR G) := by
  unfold impl_HarmonicTurns.f harmR
  refine ev_fix (a := if isTasks G = true then 0 else 1) (by
    unfold impl_tasksCode.f
    rw [IsTasks_f, Option.bind_some]
    cases isTasks G <;> rfl) ?_
  cases ht : isTasks G with
  | false => exact ev_neg (by simp) (ev_now _)
  | true =>
    obtain ⟨h8, hG⟩ := (isTasks_iff G).1 ht
    rw [if_pos rfl, if_pos rfl]
    refine ev_pos rfl (ev_fix (isHarmonic_f G hG) ?_)
    cases hh : harmB G with
    | false => exact ev_neg (by simp) (ev_now _)
    | true =>
      have hn := harmT_none G hG h8 hh
      rw [if_pos rfl]
      refine ev_pos rfl (ev_bind (isThin_ev G hG h8 hh) ?_)
      cases hr : harmT G with
      | none => exact ev_neg (by rw [decide_eq_false (hn.1 hr)]; simp) (ev_now _)
      | some r =>
        refine ev_pos (decide_eq_true ?_) (ev_bind (harmonic_ev G hG h8 hh r hr) (ev_now _))
        by_cases c : sumG (great G).toNat G ≤ (great G).toNat
        · exact c
        · exact absurd (hn.2 c) (by rw [hr]; simp)
theorem harmR_length (G : List Int) : (harmR G).1.length ≤ 40 := by
  unfold harmR
  split
  · next ht =>
    obtain ⟨h8, hG⟩ := (isTasks_iff G).1 ht
    obtain ⟨_, g1, g2⟩ := harm_great hG h8.1
    split
    · split
      · next r hr =>
        have := gre_length G _ _ _ _ hr
        rw [List.length_replicate] at this
        show r.length ≤ 40
        omega
      · simp
    · simp
  · simp
theorem markTasks_ev (l : List Int) (hl : l.length ≤ 1048576) : Ev (fun k => laws_markTasks.f k l 1) (1 + (l.length : Int), upFrom 1 l.length) := by
  unfold laws_markTasks.f
  exact ev_bind (markInt64S_ev l 1 (by omega) (by omega)) (ev_now _)
theorem HarmonicTurns_j2 (N : Nat) (hN : 1 + (N : Int) ≤ 9223372036854775807) : Ev (fun k => laws_FnExactHarmonicTurns.j2 k (upFrom 1 N) (1 + N) false) true := by
  refine Ev.step (fun k => by rw [laws_FnExactHarmonicTurns.j2]) ?_
  refine ev_neg (by simp) (ev_bind (heldInt64S_ev 1 (by omega) N hN) ?_)
  exact ev_neg (by omega) (ev_pos rfl (ev_now _))
theorem HarmonicTurns_j1 (l : List Int) (hl : l.length ≤ 1048576) : Ev (fun k => laws_FnExactHarmonicTurns.j1 k (harmR l).1 (harmR l).2 (harmR l).1 false l) true := by
  have hr := harmR_length l
  refine Ev.step (fun k => by rw [laws_FnExactHarmonicTurns.j1]) ?_
  refine ev_neg (by simp) (ev_bind (markInt64S_ev _ 1 (by omega) (by omega)) (ev_bind (heldInt64S_ev 1 (by omega) _ (by omega)) ?_))
  refine ev_neg (by omega) (ev_pos rfl (ev_bind (toTasks_ev l hl) (ev_bind (HarmonicTurns_impl l) (ev_bind (eqInt64S_ev _ (by omega)) (ev_pos rfl ?_)))))
  rw [bne_self_eq_false]
  exact HarmonicTurns_j2 _ (by omega)
theorem HarmonicTurns_j0 (l : List Int) (hl : l.length ≤ 1048576) : Ev (fun k => laws_FnExactHarmonicTurns.j0 k (harmR l).1 (harmR l).2 (harmR l).1 (harmR l).2 false l l) true := by
  have hr := harmR_length l
  refine Ev.step (fun k => by rw [laws_FnExactHarmonicTurns.j0]) ?_
  refine ev_neg (by simp) (ev_bind (toTasks_ev l hl) (ev_bind (eqTasks_ev l hl) (ev_pos rfl (ev_bind (markTasks_ev l hl) ?_))))
  refine ev_neg (by omega) (ev_bind (eqInt64S_ev _ (by omega)) (ev_pos rfl ?_))
  rw [bne_self_eq_false]
  exact HarmonicTurns_j1 l hl
theorem FnExactHarmonicTurns : laws_FnExactHarmonicTurns.Pure := by
  intro l hl0
  refine ev_rounds (g := fun k => laws_FnExactHarmonicTurns.f k l) ?_
  unfold laws_FnExactHarmonicTurns.f
  obtain ⟨r, hr, h⟩ := szTasks_f l hl0.1
  refine ev_fix hr ?_
  rcases h with h | ⟨h0, hl⟩
  · exact ev_pos h (ev_now _)
  · have hr := harmR_length l
    refine ev_neg (by omega) (ev_bind (toTasks_ev l hl) (ev_bind (HarmonicTurns_spec l hl) (ev_bind (toTasks_ev l hl) (ev_bind (HarmonicTurns_impl l) (ev_bind (eqInt64S_ev _ (by omega)) (ev_pos rfl ?_))))))
    rw [bne_self_eq_false]
    exact HarmonicTurns_j0 l hl
end Go.Proofs.Ytjkgjmaldbmgmaa.Pure
end
section
namespace Go.Proofs.Ytjkgjmaldbmgmaa.fnExactHarmonicTurns
open Go.ChangeShapes Go.WideShapes Go.ChangeAt Go.RowKit Go.Deep Go.Proofs.Ytjkgjmaldbmgmaa.P
open Go.ChangeMaps (open_string shut_string)
set_option linter.unusedVariables false
theorem own : ownKnob Try.prog.godebug = none := by kernel_rfl
theorem laidOut : laidOutB Try.prog = true := by kernel_rfl
set_option maxRecDepth 100000 in
theorem lifted (os : Os) (started : os.Started) (H : Type) (enc : TypeId × Value → H) :
    ReturnsInHanded {} Try.checked os 14 .any (Rows.fnExactHarmonicTurnsSpec.pre6 enc Try.prog Try.f14 Rows.fnExactHarmonicTurnsRow.domain false) (Rows.fnExactHarmonicTurnsSpec.post enc Try.prog Try.f14 false true false false) := by
  refine returnsInHanded_of_change_sized (C := Try.checked) own started (by kernel_rfl) Try.func14
    (ChangeSpec.witness6 (enc := enc) (C := Try.checked) false ⟨#[], #[.agg #[.slice none 0 0]], []⟩ 8 (by kernel_rfl) (by kernel_rfl) (by kernel_rfl) (by kernel_rfl)) ?_
  intro W base args ds gs before hval0 hW hcnd hsz0 _
  have hsz : (DataW.weightsEach Try.prog (Try.f14.params.toList ++ Rows.fnExactHarmonicTurnsSpec.plain.varTypes Try.prog) (ds ++ gs)).all (· ≤ reachBytes) = true := hsz0
  have hval : ∀ (j : Nat) t v, Try.f14.params[j]? = some t → args[j]? = some v → Value.okWide Try.prog W .any base t v := hval0
  have hW' := hW
  obtain ⟨p, q, hA0, hV, rfl, hfz, hnd⟩ := hW
  have hA : DataW.TrodAll enc Try.prog W 0 (fun _ => true) true Try.f14.params.toList args.toList ds p := hA0
  rw [Try.params14] at hA hval hsz
  obtain ⟨v0, vs0, d0, ds0, p0, q0, hargs, rfl, rfl, h0, r0⟩ := trodAll_cons hA
  obtain ⟨rfl, rfl, rfl⟩ := trodAll_nil r0
  obtain rfl : args = #[v0] := by cases args; simp_all
  obtain ⟨rfl, rfl⟩ := trodVars_none hV
  have k0 := h0
  have lt0 : ∀ x ∈ p0, x.block < W.heap.size := by obtain ⟨m, hm⟩ := k0; exact DataW.trod_lt m _ _ _ hm
  obtain ⟨v0_0, y0_0, n0, rfl, t0_0⟩ := agg1 Try.underlying41 (by kernel_rfl) (by kernel_rfl) (hval 0 41 v0 rfl rfl) h0
  obtain ⟨l0_0, e0_0, w0_0⟩ := open_cell (opens_slice (opens_int Try.underlying2) Try.underlying22 (by kernel_rfl) rfl) t0_0
  obtain ⟨A0_0, c0_0, rfl, hc0_0, hr0_0⟩ := row_cell e0_0
  clear hA0 hval0 hsz0 hsz
  refine (P.laws_FnExactHarmonicTurns.walk Pure.FnExactHarmonicTurns A0_0 c0_0 l0_0 W hr0_0 hc0_0 w0_0).mono fun e W' ⟨he, bel⟩ => ?_
  subst he
  exact ⟨_, rfl, _, _, _, [], _, [], hW', trodAll_mk1 (shut_bool Try.underlying4 _), (trodAll_cons_mk (Below.trod laidOut (by kernel_rfl) (of_decide_eq_true (by kernel_rfl)) k0 bel lt0) trodAll_mk0), rfl, bel.frame _, fun h => by cases h⟩
theorem over : Rows.fnExactHarmonicTurnsRow.holds Try.pinned (OpenSpec.ofChange Rows.fnExactHarmonicTurnsSpec) :=
  OpenClaim.holds_of_wide 14 Try.f14 rfl rfl rfl rfl rfl rfl rfl ⟨rfl, rfl, rfl, rfl, rfl⟩ rfl rfl rfl rfl rfl (by kernel_rfl) Try.func14 (by kernel_rfl)
    (of_decide_eq_true (by kernel_rfl)) (by unfold Func.isWrapper; first | (rw [if_pos (by decide +kernel)]; kernel_rfl) | (rw [if_neg (by decide +kernel)]; exact ⟨rfl, rfl⟩))
    (fun os started H enc _ => lifted os started H enc)
theorem proved : Rows.FnExactHarmonicTurnsSaid := over
end Go.Proofs.Ytjkgjmaldbmgmaa.fnExactHarmonicTurns
namespace Go.Proofs.Ytjkgjmaldbmgmaa
/-- The row, under a short name, for the claim. -/
theorem fnExactHarmonicTurns_holds : Rows.FnExactHarmonicTurnsSaid := fnExactHarmonicTurns.proved
end Go.Proofs.Ytjkgjmaldbmgmaa
end
