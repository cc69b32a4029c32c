/- The program's TurnsByPowers returns what the reference's returns, for all tasks; no condition beside. -/
import Derived.Test.YtjijiaejkcaflaaCFnExactTurnsByPowers7
import Derived.Test.YtjijiaejkcaflaaRows
section
namespace Go.Proofs.Ytjijiaejkcaflaa.Pure
open Go.RowKit Go.Proofs.Ytjijiaejkcaflaa.P Go.Proofs.YtjijiaejkcaflaaW.PrintWords Go.Proofs.YtjijiaejkcaflaaW.PrintLast Go.Proofs.YtjijiaejkcaflaaW.PrintMore
set_option linter.unusedVariables false
set_option linter.unusedSimpArgs false
theorem spec_harm_l1 (G o : List Int) (hG : ∀ x ∈ G, 1 ≤ x ∧ x ≤ 40) (N : Nat) (hN : N ≤ 40) (ho : o.length ≤ 8) : ∀ (ts : List Int) (i : Nat) (out : List Int), o.drop i = ts → i ≤ o.length → Harm G N ts → (∀ h, ts.head? = some h → Place out N (rd G h).toNat) → out.length = N →
    Ev (fun k => spec_l03Turns.l1 k o out (i : Int) (gapsBy G o)) (match gre G N ts out with | some r => (r, true) | none => ([], false)) := by
  intro ts
  induction ts with
  | nil =>
    intro i out hd hi _ _ _
    have hlen : o.length - i = 0 := by rw [← List.length_drop, hd]; rfl
    rw [gre]
    refine Ev.step (fun k => by rw [spec_l03Turns.l1]) ?_
    exact ev_neg (by omega) (ev_now _)
  | cons t ts ih =>
    intro i out hd hi hh hp hl
    have hlen : o.length - i = ts.length + 1 := by rw [← List.length_drop, hd]; rfl
    have ht := hh.mem t List.mem_cons_self
    have hgt := hG _ (rd_mem ht.1 ht.2)
    have hdv := hh.dvd t List.mem_cons_self
    have P := hp t rfl
    have hle : firstFree out ≤ out.length := List.findIdx_le_length
    have hro : rd o (i : Int) = t := by
      rw [rd_nat (by omega)]
      have h1 : (o.drop i)[0]? = some t := by rw [hd]; rfl
      rw [List.getElem?_drop, Nat.add_zero] at h1
      exact (List.getElem?_eq_some_iff.1 h1).2
    have hgl : (gapsBy G o).length = o.length := List.length_map _
    have hrg : rd (gapsBy G o) (i : Int) = rd G t := by
      rw [rd_nat (by omega)]
      rw [rd_nat (by omega)] at hro
      simp only [gapsBy, List.getElem_map, hro]
    have hq : N = N / (rd G t).toNat * (rd G t).toNat := (Nat.div_mul_cancel hdv).symm
    refine Ev.step (fun k => by rw [spec_l03Turns.l1]) ?_
    refine ev_pos (by omega) (spec_free o (gapsBy G o) i out (by omega) _ ?_ (firstFree out) 0 (by omega))
    refine Ev.step (fun k => by rw [spec_l03Turns.j3]) ?_
    rw [gre]
    by_cases c : firstFree out < N
    · obtain ⟨P2, _⟩ := place_ok P (by omega) hq t.toNat c
      have hs := firstFree_small P.per (by omega) (by omega)
      have hb := fill_bounds (g := (rd G t).toNat) (by omega) hq hs
      have pw := hh.pw
      rw [List.pairwise_cons] at pw
      have hn := ih (i + 1) _ (by rw [← List.drop_drop, hd]; rfl) (by omega) ⟨fun z hz => hh.mem z (List.mem_cons_of_mem _ hz), fun z hz => hh.dvd z (List.mem_cons_of_mem _ hz), pw.2⟩ (fun h hh2 => ⟨P2.len, P2.per.dvd (pw.1 h (List.mem_of_mem_head? hh2))⟩) P2.len
      obtain ⟨tn, rfl⟩ : ∃ tn : Nat, t = tn := ⟨t.toNat, by omega⟩
      rw [Int.toNat_natCast] at hn
      have key := fill_spec G o (gapsBy G o) hG tn (by omega) N (by omega) i (by omega) (by omega) hgl hro hrg _ _ (firstFree out) out hl hb.1 hb.2 (by omega) hn
      refine ev_neg (by omega) ?_
      rw [if_pos c, Int.toNat_natCast]
      exact key
    · rw [if_neg c]
      exact ev_pos (by omega) (ev_now _)
end Go.Proofs.Ytjijiaejkcaflaa.Pure
end
section
namespace Go.Proofs.Ytjijiaejkcaflaa.Pure
open Go.RowKit Go.Proofs.Ytjijiaejkcaflaa.P Go.Proofs.YtjijiaejkcaflaaW.PrintWords Go.Proofs.YtjijiaejkcaflaaW.PrintLast Go.Proofs.YtjijiaejkcaflaaW.PrintMore
set_option linter.unusedVariables false
set_option linter.unusedSimpArgs false
theorem tdiv_nat (m n : Nat) : Int.tdiv (m : Int) (n : Int) = ((m / n : Nat) : Int) := rfl
theorem tmod_nat' (m n : Nat) : Int.tmod (m : Int) (n : Int) = ((m % n : Nat) : Int) := rfl
theorem gcd_step (a b : Nat) (h : b ≠ 0) : Nat.gcd a b = Nat.gcd b (a % b) := by
  rw [Nat.gcd_comm a b, Nat.gcd_rec b a, Nat.gcd_comm]
theorem divisor_l0 : ∀ (b a : Nat), Ev (fun k => impl_divisor.l0 k (a : Int) (b : Int)) ((Nat.gcd a b : Nat) : Int) := by
  intro b
  induction b using Nat.strongRecOn with
  | _ b ih =>
    intro a
    refine Ev.step (fun k => by rw [impl_divisor.l0]) ?_
    by_cases h : b = 0
    · subst h
      refine ev_pos rfl ?_
      rw [Nat.gcd_zero_right]
      exact ev_now _
    · refine ev_neg (by omega) ?_
      rw [tmod_nat', gcd_step a b h]
      exact ih (a % b) (Nat.mod_lt _ (by omega)) b
theorem divisor_ev (a b : Nat) : Ev (fun k => impl_divisor.f k (a : Int) (b : Int)) ((Nat.gcd a b : Nat) : Int) := by
  unfold impl_divisor.f
  exact divisor_l0 b a
theorem lcm_div (a b : Nat) : a / Nat.gcd a b * b = Nat.lcm a b := by
  rw [Nat.lcm, Nat.mul_comm a b, Nat.mul_div_assoc _ (Nat.gcd_dvd_left a b), Nat.mul_comm]
theorem lcm_le (a b : Nat) : Nat.lcm a b ≤ a * b := by
  rw [← lcm_div]; exact Nat.mul_le_mul_right _ (Nat.div_le_self _ _)
end Go.Proofs.Ytjijiaejkcaflaa.Pure
end
section
namespace Go.Proofs.Ytjijiaejkcaflaa.Pure
open Go.RowKit Go.Proofs.Ytjijiaejkcaflaa.P Go.Proofs.YtjijiaejkcaflaaW.PrintWords Go.Proofs.YtjijiaejkcaflaaW.PrintLast Go.Proofs.YtjijiaejkcaflaaW.PrintMore
set_option linter.unusedVariables false
set_option linter.unusedSimpArgs false
/-- the least common multiple of a and the numbers of a list -/
def lcmN : Nat → List Int → Nat
  | a, [] => a
  | a, g :: l => lcmN (Nat.lcm a g.toNat) l
theorem lcmN_append (a : Nat) (l m : List Int) : lcmN a (l ++ m) = lcmN (lcmN a l) m := by
  induction l generalizing a with
  | nil => rfl
  | cons g l ih => simp only [List.cons_append, lcmN, ih]
theorem lcmN_take_succ (a : Nat) (l : List Int) (n : Nat) (h : n < l.length) : lcmN a (l.take (n + 1)) = Nat.lcm (lcmN a (l.take n)) (l[n]).toNat := by
  rw [List.take_succ_eq_append_getElem h, lcmN_append]; rfl
theorem lcmN_pos (a : Nat) (ha : 0 < a) (l : List Int) (h : ∀ x ∈ l, 1 ≤ x) : 0 < lcmN a l := by
  induction l generalizing a with
  | nil => exact ha
  | cons g l ih =>
    have := h g List.mem_cons_self
    exact ih _ (Nat.lcm_pos ha (by omega)) (fun x hx => h x (List.mem_cons_of_mem _ hx))
theorem lcmN_le (l : List Int) (h : ∀ x ∈ l, 1 ≤ x ∧ x ≤ 60) : ∀ a, lcmN a l ≤ a * 60 ^ l.length := by
  induction l with
  | nil => intro a; simp [lcmN]
  | cons g l ih =>
    intro a
    have h1 := h g List.mem_cons_self
    have h2 := ih (fun x hx => h x (List.mem_cons_of_mem _ hx)) (Nat.lcm a g.toNat)
    have h3 : Nat.lcm a g.toNat ≤ a * 60 := Nat.le_trans (lcm_le _ _) (Nat.mul_le_mul_left _ (by omega))
    refine Nat.le_trans h2 ?_
    rw [List.length_cons, Nat.pow_succ, Nat.mul_comm (60 ^ l.length) 60, ← Nat.mul_assoc]
    exact Nat.mul_le_mul_right _ h3
theorem lcmN_le8 {l : List Int} (h : ∀ x ∈ l, 1 ≤ x ∧ x ≤ 60) (hl : l.length ≤ 8) : lcmN 1 l ≤ 167961600000000 := by
  have h1 := lcmN_le l h 1
  have h2 : 60 ^ l.length ≤ 60 ^ 8 := Nat.pow_le_pow_right (by omega) hl
  omega
theorem dvd_lcmN_self (a : Nat) (l : List Int) : a ∣ lcmN a l := by
  induction l generalizing a with
  | nil => exact Nat.dvd_refl _
  | cons g l ih => exact Nat.dvd_trans (Nat.dvd_lcm_left _ _) (ih _)
theorem dvd_lcmN (a : Nat) (l : List Int) (x : Int) (hx : x ∈ l) : x.toNat ∣ lcmN a l := by
  induction l generalizing a with
  | nil => cases hx
  | cons g l ih =>
    rcases List.mem_cons.1 hx with rfl | hx
    · exact Nat.dvd_trans (Nat.dvd_lcm_right _ _) (dvd_lcmN_self _ _)
    · exact ih _ hx
theorem lcmN_dvd (a : Nat) (l : List Int) (m : Nat) (ha : a ∣ m) (h : ∀ x ∈ l, x.toNat ∣ m) : lcmN a l ∣ m := by
  induction l generalizing a with
  | nil => exact ha
  | cons g l ih => exact ih _ (Nat.lcm_dvd ha (h g List.mem_cons_self)) (fun x hx => h x (List.mem_cons_of_mem _ hx))
theorem multiple_l0 (l : List Int) (hl : l.length ≤ 8) (h : ∀ x ∈ l, 1 ≤ x ∧ x ≤ 60) : ∀ d n : Nat, n + d = l.length →
    Ev (fun k => impl_Tasks_multiple.l0 k ((lcmN 1 (l.take n) : Nat) : Int) l (l.length : Int) (n : Int)) ((lcmN 1 l : Nat) : Int) := by
  intro d
  induction d with
  | zero =>
    intro n hn
    rw [List.take_of_length_le (by omega)]
    refine Ev.step (fun k => by rw [impl_Tasks_multiple.l0]) ?_
    exact ev_neg (by omega) (ev_now _)
  | succ d ih =>
    intro n hn
    have hlt : n < l.length := by omega
    have hx := h _ (List.getElem_mem hlt)
    have hm : ∀ x ∈ l.take n, 1 ≤ x ∧ x ≤ 60 := fun x hx => h x (List.mem_of_mem_take hx)
    have hp := lcmN_pos 1 (by omega) (l.take n) (fun x hx => (hm x hx).1)
    have hb := lcmN_le8 hm (by rw [List.length_take]; omega)
    have hih := ih (n + 1) (by omega)
    rw [lcmN_take_succ _ _ _ hlt] at hih
    generalize lcmN 1 (l.take n) = a at hp hb hih ⊢
    obtain ⟨g, hg⟩ : ∃ g : Nat, l[n] = (g : Int) := ⟨(l[n]).toNat, by omega⟩
    rw [hg, Int.toNat_natCast] at hih
    rw [hg] at hx
    have hgp : 0 < Nat.gcd a g := Nat.gcd_pos_of_pos_left _ hp
    have h1 := Nat.div_le_self a (Nat.gcd a g)
    have h2 : Nat.lcm a g ≤ a * 60 := Nat.le_trans (lcm_le _ _) (Nat.mul_le_mul_left _ (by omega))
    refine Ev.step (fun k => by rw [impl_Tasks_multiple.l0]) ?_
    refine ev_pos (by omega) (ev_pos (by omega) (ev_pos (by omega) ?_))
    rw [rd_nat hlt, hg]
    refine ev_bind (divisor_ev a g) (ev_neg (by omega) ?_)
    rw [tdiv_nat, wrap_nat (Nat.le_trans h1 (by omega)), ← Int.natCast_mul, lcm_div, wrap_nat (Nat.le_trans h2 (by omega)), wrap_succ (by omega)]
    exact hih
theorem multiple_ev (l : List Int) (hl : l.length ≤ 8) (h : ∀ x ∈ l, 1 ≤ x ∧ x ≤ 60) : Ev (fun k => impl_Tasks_multiple.f k l) ((lcmN 1 l : Nat) : Int) := by
  unfold impl_Tasks_multiple.f
  exact multiple_l0 l hl h l.length 0 (by omega)
end Go.Proofs.Ytjijiaejkcaflaa.Pure
end
section
namespace Go.Proofs.Ytjijiaejkcaflaa.Pure
set_option linter.unusedVariables false
set_option linter.unusedSimpArgs false
theorem tmod_nat (m n : Nat) : Int.tmod (m : Int) (n : Int) = ((m % n : Nat) : Int) := rfl
end Go.Proofs.Ytjijiaejkcaflaa.Pure
end
section
namespace Go.Proofs.Ytjijiaejkcaflaa.Pure
open Go.RowKit Go.Proofs.Ytjijiaejkcaflaa.P Go.Proofs.YtjijiaejkcaflaaW.PrintWords Go.Proofs.YtjijiaejkcaflaaW.PrintLast Go.Proofs.YtjijiaejkcaflaaW.PrintMore
set_option linter.unusedVariables false
set_option linter.unusedSimpArgs false
def harmP (a b : Int) : Bool := Int.tmod (mx a b) (mn a b) == 0
theorem harmP_iff {a b : Int} (ha : 1 ≤ a) (hb : 1 ≤ b) : harmP a b = true ↔ (Int.tmod a b = 0 ∨ Int.tmod b a = 0) := by
  obtain ⟨x, rfl⟩ : ∃ x : Nat, a = x := ⟨a.toNat, by omega⟩
  obtain ⟨y, rfl⟩ : ∃ y : Nat, b = y := ⟨b.toNat, by omega⟩
  rw [tmod_nat, tmod_nat]
  unfold harmP mx mn
  rw [beq_iff_eq]
  by_cases c : (x : Int) < (y : Int)
  · rw [if_pos c, if_neg (by omega), tmod_nat]
    have : x % y = x := Nat.mod_eq_of_lt (by omega)
    omega
  · rw [if_neg c]
    by_cases d : (y : Int) < (x : Int)
    · rw [if_pos d, tmod_nat]
      have : y % x = y := Nat.mod_eq_of_lt (by omega)
      omega
    · rw [if_neg d]
      obtain rfl : x = y := by omega
      rw [tmod_nat, Nat.mod_self]
      omega
theorem harmP_dvd {a b : Int} (ha : 1 ≤ a) (hb : 1 ≤ b) (h : harmP a b = true) (hab : a ≤ b) : a.toNat ∣ b.toNat := by
  rw [harmP_iff ha hb] at h
  obtain ⟨x, rfl⟩ : ∃ x : Nat, a = x := ⟨a.toNat, by omega⟩
  obtain ⟨y, rfl⟩ : ∃ y : Nat, b = y := ⟨b.toNat, by omega⟩
  rw [tmod_nat, tmod_nat] at h
  rw [Int.toNat_natCast, Int.toNat_natCast]
  rcases h with h | h
  · by_cases c : x = y
    · subst c; exact Nat.dvd_refl _
    · have : x % y = x := Nat.mod_eq_of_lt (by omega)
      omega
  · exact Nat.dvd_of_mod_eq_zero (by omega)
def harmB (G : List Int) : Bool := G.all fun a => G.all fun b => harmP a b
theorem harmB_iff (G : List Int) : harmB G = true ↔ ∀ i j : Nat, i < G.length → j < G.length → harmP (rd G i) (rd G j) = true := by
  unfold harmB
  rw [List.all_eq_true]
  constructor
  · intro h i j hi hj
    have := h _ (rd_mem (l := G) (i := (i : Int)) (by omega) (by omega))
    rw [List.all_eq_true] at this
    exact this _ (rd_mem (by omega) (by omega))
  · intro h a ha
    rw [List.all_eq_true]
    intro b hb
    obtain ⟨i, hi, rfl⟩ := List.getElem_of_mem ha
    obtain ⟨j, hj, rfl⟩ := List.getElem_of_mem hb
    have := h i j hi hj
    rwa [rd_nat hi, rd_nat hj] at this
/-- the order of harmonic tasks -/
theorem harm_great {G : List Int} (hG : ∀ x ∈ G, 1 ≤ x ∧ x ≤ 40) (h1 : 1 ≤ G.length) : great G ∈ G ∧ 1 ≤ great G ∧ great G ≤ 40 := by
  have hle := great_le (l := G) (b := 40) (by omega) fun x hx => (hG x hx).2
  have hmem : ∀ (l : List Int) (a : Int), (∀ x ∈ l, 1 ≤ x) → l.foldl mx a = a ∨ l.foldl mx a ∈ l := by
    intro l
    induction l with
    | nil => intro a _; exact .inl rfl
    | cons y l ih =>
      intro a h
      rw [List.foldl_cons]
      rcases ih (mx a y) (fun x hx => h x (List.mem_cons_of_mem _ hx)) with h2 | h2
      · rw [h2]
        unfold mx
        split
        · exact .inr List.mem_cons_self
        · exact .inl rfl
      · exact .inr (List.mem_cons_of_mem _ h2)
  have h0 := great_pos (l := G) (x := G[0]) (List.getElem_mem (by omega))
  have h2 := hG _ (List.getElem_mem (l := G) (n := 0) (by omega))
  refine ⟨?_, by omega, hle⟩
  rcases hmem G 0 (fun x hx => (hG x hx).1) with h | h
  · unfold great at h0; omega
  · exact h
theorem harm_dvd_great {G : List Int} (hG : ∀ x ∈ G, 1 ≤ x ∧ x ≤ 40) (h1 : 1 ≤ G.length) (hh : harmB G = true) : ∀ x ∈ G, x.toNat ∣ (great G).toNat := fun x hx => by
  obtain ⟨hm, hg1, _⟩ := harm_great hG h1
  unfold harmB at hh
  rw [List.all_eq_true] at hh
  have := hh x hx
  rw [List.all_eq_true] at this
  exact harmP_dvd (hG x hx).1 hg1 (this _ hm) (great_pos hx)
theorem harm_lcm {G : List Int} (hG : ∀ x ∈ G, 1 ≤ x ∧ x ≤ 40) (h1 : 1 ≤ G.length) (hh : harmB G = true) : lcmN 1 G = (great G).toNat :=
  Nat.dvd_antisymm (lcmN_dvd 1 G _ (Nat.one_dvd _) (harm_dvd_great hG h1 hh)) (dvd_lcmN 1 G _ (harm_great hG h1).1)
theorem harm_order {G : List Int} (hG : ∀ x ∈ G, 1 ≤ x ∧ x ≤ 40) (h1 : 1 ≤ G.length) (hh : harmB G = true) : Harm G (great G).toNat (ordF G G.length) := by
  have hm : ∀ t ∈ ordF G G.length, 0 ≤ t ∧ t < (G.length : Int) := fun t ht => (ordF_mem G _ t).1 ht
  refine ⟨hm, fun t ht => harm_dvd_great hG h1 hh _ (rd_mem (hm t ht).1 (hm t ht).2), ?_⟩
  have hs := ordF_sorted G G.length
  rw [harmB_iff] at hh
  refine List.Pairwise.imp_of_mem (fun {a b} ha hb hab => ?_) hs
  have h2 := hm a ha
  have h3 := hm b hb
  have h4 := hh a.toNat b.toNat (by omega) (by omega)
  rw [show ((a.toNat : Nat) : Int) = a by omega, show ((b.toNat : Nat) : Int) = b by omega] at h4
  exact harmP_dvd (hG _ (rd_mem h2.1 h2.2)).1 (hG _ (rd_mem h3.1 h3.2)).1 h4 hab
theorem last_gap {G : List Int} (hG : ∀ x ∈ G, 1 ≤ x ∧ x ≤ 40) (h1 : 1 ≤ G.length) : rd (gapsBy G (ordF G G.length)) ((G.length - 1 : Nat) : Int) = great G := by
  have hl := ordF_length G G.length
  have hs := List.pairwise_iff_getElem.1 (ordF_sorted G G.length)
  have hgl : (gapsBy G (ordF G G.length)).length = G.length := by rw [gapsBy, List.length_map, hl]
  rw [rd_nat (by omega)]
  simp only [gapsBy, List.getElem_map]
  have hm := (ordF_mem G _ _).1 (List.getElem_mem (l := ordF G G.length) (n := G.length - 1) (by omega))
  have ha := great_pos (rd_mem hm.1 hm.2)
  have hb : great G ≤ rd G (ordF G G.length)[G.length - 1] := great_le (by have := hG _ (rd_mem hm.1 hm.2); omega) fun x hx => by
    obtain ⟨i, hi, rfl⟩ := List.getElem_of_mem hx
    have hio := (ordF_mem G G.length (i : Int)).2 (by omega)
    obtain ⟨j, hj, ej⟩ := List.getElem_of_mem hio
    have e : G[i] = rd G (ordF G G.length)[j] := by rw [ej, rd_nat hi]
    rw [e]
    rcases Nat.lt_or_ge j (G.length - 1) with c | c
    · exact hs j (G.length - 1) (by omega) (by omega) c
    · have : j = G.length - 1 := by omega
      subst this
      exact Int.le_refl _
  omega
end Go.Proofs.Ytjijiaejkcaflaa.Pure
end
section
namespace Go.Proofs.Ytjijiaejkcaflaa.Pure
open Go.RowKit Go.Proofs.Ytjijiaejkcaflaa.P Go.Proofs.YtjijiaejkcaflaaW.PrintWords Go.Proofs.YtjijiaejkcaflaaW.PrintLast Go.Proofs.YtjijiaejkcaflaaW.PrintMore
set_option linter.unusedVariables false
set_option linter.unusedSimpArgs false
def sumG (N : Nat) (l : List Int) : Nat := match l with | [] => 0 | g :: l => N / g.toNat + sumG N l
theorem sumG_append (N : Nat) (a b : List Int) : sumG N (a ++ b) = sumG N a + sumG N b := by
  induction a with
  | nil => simp [sumG]
  | cons y a ih => simp only [List.cons_append, sumG, ih]; omega
theorem sumG_le (N : Nat) (l : List Int) : sumG N l ≤ l.length * N := by
  induction l with
  | nil => simp [sumG]
  | cons y l ih =>
    have := Nat.div_le_self N y.toNat
    rw [sumG, List.length_cons, Nat.succ_mul]
    omega
theorem sumG_map (G : List Int) (N : Nat) : ∀ n : Nat, n ≤ G.length → sumF (fun i => need G N i) ((List.range' 0 n).map fun (i : Nat) => (i : Int)) = (sumG N (G.take n) : Int) := by
  intro n
  induction n with
  | zero => intro _; rfl
  | succ n ih =>
    intro hn
    have hlt : n < G.length := by omega
    rw [List.range'_1_concat, List.map_append, sumF_append, ih (by omega), List.take_succ_eq_append_getElem hlt, sumG_append, Int.natCast_add]
    congr 1
    simp only [List.map_cons, List.map_nil, sumF, sumG, Nat.zero_add, Nat.add_zero, Int.add_zero, need, rd_nat hlt]
theorem density_l0 (G : List Int) (hG : ∀ x ∈ G, 1 ≤ x ∧ x ≤ 40) (h8 : G.length ≤ 8) (N : Nat) (hN : 1 ≤ N ∧ N ≤ 40) (R : Int × Int)
    (hR : R = (((sumG N G / Nat.gcd (sumG N G) N : Nat) : Int), ((N / Nat.gcd (sumG N G) N : Nat) : Int))) : ∀ d n : Nat, n + d = G.length →
    Ev (fun k => impl_Tasks_density.l0 k (N : Int) ((sumG N (G.take n) : Nat) : Int) G (G.length : Int) (n : Int)) R := by
  intro d
  induction d with
  | zero =>
    intro n hn
    rw [List.take_of_length_le (by omega)]
    have hs := sumG_le N G
    have hb : sumG N G ≤ 8 * 40 := Nat.le_trans hs (Nat.mul_le_mul h8 hN.2)
    have hg : 0 < Nat.gcd (sumG N G) N := Nat.gcd_pos_of_pos_right _ (by omega)
    have h1 := Nat.div_le_self (sumG N G) (Nat.gcd (sumG N G) N)
    have h2 := Nat.div_le_self N (Nat.gcd (sumG N G) N)
    refine Ev.step (fun k => by rw [impl_Tasks_density.l0]) ?_
    refine ev_neg (by omega) (ev_bind (divisor_ev (sumG N G) N) (ev_neg (by omega) ?_))
    rw [tdiv_nat, tdiv_nat, wrap_nat (by omega), wrap_nat (by omega), hR]
    exact ev_now _
  | succ d ih =>
    intro n hn
    have hlt : n < G.length := by omega
    have hg := hG _ (List.getElem_mem hlt)
    have hs := sumG_le N (G.take n)
    rw [List.length_take] at hs
    have hb : sumG N (G.take n) ≤ 8 * 40 := Nat.le_trans hs (Nat.mul_le_mul (by omega) hN.2)
    have h1 := Nat.div_le_self N (G[n]).toNat
    have ih := ih (n + 1) (by omega)
    rw [List.take_succ_eq_append_getElem hlt, sumG_append] at ih
    refine Ev.step (fun k => by rw [impl_Tasks_density.l0]) ?_
    rw [rd_nat hlt, wrap_succ (n := n) (by omega), show Int.tdiv (N : Int) G[n] = ((N / (G[n]).toNat : Nat) : Int) by
      conv => lhs; rw [show G[n] = ((G[n].toNat : Nat) : Int) by omega]
      exact tdiv_nat _ _]
    rw [wrap_nat (n := N / (G[n]).toNat) (by omega), ← Int.natCast_add, wrap_nat (by omega)]
    refine ev_pos (by omega) (ev_pos (by omega) (ev_pos (by omega) (ev_neg (by omega) ?_)))
    have e : sumG N (G.take n) + N / (G[n]).toNat = sumG N (G.take n) + sumG N [G[n]] := by simp [sumG]
    rw [e]
    exact ih
theorem isThin_ev (G : List Int) (hG : ∀ x ∈ G, 1 ≤ x ∧ x ≤ 40) (h8 : 1 ≤ G.length ∧ G.length ≤ 8) (hh : harmB G = true) : Ev (fun k => impl_Tasks_isThin.f k G) (decide (sumG (great G).toNat G ≤ (great G).toNat)) := by
  obtain ⟨_, g1, g2⟩ := harm_great hG h8.1
  have hm := multiple_ev G h8.2 (fun x hx => by have := hG x hx; omega)
  rw [harm_lcm hG h8.1 hh] at hm
  have hd : Ev (fun k => impl_Tasks_density.f k G) (((sumG (great G).toNat G / Nat.gcd (sumG (great G).toNat G) (great G).toNat : Nat) : Int), (((great G).toNat / Nat.gcd (sumG (great G).toNat G) (great G).toNat : Nat) : Int)) := by
    unfold impl_Tasks_density.f
    exact ev_bind hm (density_l0 G hG h8.2 (great G).toNat (by omega) _ rfl G.length 0 (by omega))
  unfold impl_Tasks_isThin.f
  refine ev_bind hd (ev_is ?_)
  congr 1
  have hg : 0 < Nat.gcd (sumG (great G).toNat G) (great G).toNat := Nat.gcd_pos_of_pos_right _ (by omega)
  have a1 := Nat.div_mul_cancel (Nat.gcd_dvd_left (sumG (great G).toNat G) (great G).toNat)
  have a2 := Nat.div_mul_cancel (Nat.gcd_dvd_right (sumG (great G).toNat G) (great G).toNat)
  apply decide_eq_decide.2
  constructor
  · intro h
    have h2 := Nat.mul_le_mul_right (Nat.gcd (sumG (great G).toNat G) (great G).toNat) (Int.ofNat_le.1 h)
    omega
  · intro h
    exact Int.ofNat_le.2 (Nat.div_le_div_right h)
/-- the harmonic turns, or none -/
def harmT (G : List Int) : Option (List Int) := gre G (great G).toNat (ordF G G.length) (List.replicate (great G).toNat (-1))
theorem start_place (N h : Nat) : Place (List.replicate N (-1)) N h := ⟨List.length_replicate, fun s hs => by
  rw [List.length_replicate] at hs
  rw [rd_nat (by rw [List.length_replicate]; omega), rd_nat (by rw [List.length_replicate]; omega)]
  simp⟩
theorem neg_start (N : Nat) : neg (List.replicate N (-1)) = N := by
  induction N with
  | zero => rfl
  | succ N ih => rw [List.replicate_succ, neg, ih, if_pos (by omega)]; omega
theorem harmT_none (G : List Int) (hG : ∀ x ∈ G, 1 ≤ x ∧ x ≤ 40) (h8 : 1 ≤ G.length ∧ G.length ≤ 8) (hh : harmB G = true) : harmT G = none ↔ ¬ sumG (great G).toNat G ≤ (great G).toNat := by
  obtain ⟨_, g1, g2⟩ := harm_great hG h8.1
  have H := harm_order hG h8.1 hh
  unfold harmT
  rw [gre_none G _ (by omega) _ _ (fun t ht => ⟨(H.mem t ht).1, by have := hG _ (rd_mem (H.mem t ht).1 (H.mem t ht).2); omega, H.dvd t ht⟩) H.pw (fun h _ => start_place _ _) List.length_replicate, neg_start, ordF_sum]
  have := sumG_map G (great G).toNat G.length (Nat.le_refl _)
  rw [List.take_length] at this
  rw [this]
  omega
theorem start_idle (N : Nat) : IdleOk (List.replicate N (-1)) := fun x hx => by
  rw [(List.mem_replicate.1 hx).2]; omega
theorem harmonic_ev (G : List Int) (hG : ∀ x ∈ G, 1 ≤ x ∧ x ≤ 40) (h8 : 1 ≤ G.length ∧ G.length ≤ 8) (hh : harmB G = true) (r : List Int) (hr : harmT G = some r) : Ev (fun k => impl_Tasks_harmonic.f k G) r := by
  obtain ⟨_, g1, g2⟩ := harm_great hG h8.1
  have H := harm_order hG h8.1 hh
  have ho := ordF_length G G.length
  unfold impl_Tasks_harmonic.f
  refine ev_bind (Max_ev G (by omega) h8.1 (fun x hx => by have := hG x hx; omega)) (ev_fix (a := List.replicate (great G).toNat (-1)) (by
    unfold slices_Repeat_Sint64_int64.f
    rw [if_pos ⟨rfl, by omega, by omega⟩]
    rfl) (ev_bind (byGap_ev G hG h8) ?_))
  exact impl_harm_l0 G _ hG (great G).toNat (by omega) (by omega) _ 0 _ rfl (by omega) H (fun h _ => start_place _ _) List.length_replicate (start_idle _) r hr
theorem l03Turns_ev (G : List Int) (hG : ∀ x ∈ G, 1 ≤ x ∧ x ≤ 40) (h8 : 1 ≤ G.length ∧ G.length ≤ 8) (hh : harmB G = true) : Ev (fun k => spec_l03Turns.f k G) (match harmT G with | some r => (r, true) | none => ([], false)) := by
  obtain ⟨_, g1, g2⟩ := harm_great hG h8.1
  have H := harm_order hG h8.1 hh
  have ho := ordF_length G G.length
  have hgl : (gapsBy G (ordF G G.length)).length = G.length := by rw [gapsBy, List.length_map, ho]
  have hlast := last_gap hG h8.1
  have main : ∀ d n : Nat, n + d = (great G).toNat → Ev (fun k => spec_l03Turns.l0 k (ordF G G.length) (List.replicate n (-1)) (n : Int) (gapsBy G (ordF G G.length))) (match harmT G with | some r => (r, true) | none => ([], false)) := by
    intro d
    induction d with
    | zero =>
      intro n hn
      obtain rfl : n = (great G).toNat := by omega
      refine Ev.step (fun k => by rw [spec_l03Turns.l0]) ?_
      rw [ho, wrap_id (x := (G.length : Int) - 1) (by omega) (by omega), show (G.length : Int) - 1 = ((G.length - 1 : Nat) : Int) by omega, hlast]
      refine ev_pos (by omega) (ev_pos (by omega) (ev_neg (by omega) ?_))
      exact spec_harm_l1 G _ hG (great G).toNat (by omega) (by omega) _ 0 _ rfl (by omega) H (fun h _ => start_place _ _) List.length_replicate
    | succ d ih =>
      intro n hn
      have ih := ih (n + 1) (by omega)
      rw [List.replicate_succ'] at ih
      refine Ev.step (fun k => by rw [spec_l03Turns.l0]) ?_
      rw [ho, wrap_id (x := (G.length : Int) - 1) (by omega) (by omega), show (G.length : Int) - 1 = ((G.length - 1 : Nat) : Int) by omega, hlast, wrap_succ (n := n) (by omega)]
      exact ev_pos (by omega) (ev_pos (by omega) (ev_pos (by omega) (ev_pos (by rw [List.length_replicate]; omega) ih)))
  unfold spec_l03Turns.f
  exact ev_bind (l01Sorted_ev G hG h8.2) (main (great G).toNat 0 (by omega))
theorem gre_length (G : List Int) (N : Nat) : ∀ ts out r, gre G N ts out = some r → r.length = out.length := by
  intro ts
  induction ts with
  | nil => intro out r h; rw [gre] at h; obtain rfl := Option.some.inj h; rfl
  | cons t ts ih =>
    intro out r h
    rw [gre] at h
    split at h
    · rw [ih _ _ h, fillM_length]
    · exact absurd h (by simp)
end Go.Proofs.Ytjijiaejkcaflaa.Pure
end
section
namespace Go.Proofs.Ytjijiaejkcaflaa.Pure
open Go.RowKit Go.Proofs.Ytjijiaejkcaflaa.P Go.Proofs.YtjijiaejkcaflaaW.PrintWords Go.Proofs.YtjijiaejkcaflaaW.PrintLast Go.Proofs.YtjijiaejkcaflaaW.PrintMore
set_option linter.unusedVariables false
set_option linter.unusedSimpArgs false
/-- tasks: 1 to 8 gaps in 1..40 -/
def isTasks (l : List Int) : Bool := decide (1 ≤ (l.length : Int) ∧ (l.length : Int) ≤ 8) && l.all fun g => decide (1 ≤ g ∧ g ≤ 40)
theorem IsTasks_f (l : List Int) : impl_IsTasks.f l = some (isTasks l) := rfl
theorem isTasks_iff (l : List Int) : isTasks l = true ↔ (1 ≤ l.length ∧ l.length ≤ 8) ∧ (∀ x ∈ l, 1 ≤ x ∧ x ≤ 40) := by
  unfold isTasks
  rw [Bool.and_eq_true, List.all_eq_true, decide_eq_true_iff]
  simp only [decide_eq_true_iff]
  constructor
  · rintro ⟨h1, h2⟩; exact ⟨by omega, h2⟩
  · rintro ⟨h1, h2⟩; exact ⟨by omega, h2⟩
theorem l01Is_l0 (l : List Int) (hl : l.length ≤ 1048576) : ∀ d n : Nat, n + d = l.length → (l.take n).all (fun g => decide (1 ≤ g ∧ g ≤ 40)) = true → Ev (fun k => spec_l01Is.l0 k (n : Int) l) (isTasks l) := by
  intro d
  induction d with
  | zero =>
    intro n hn ha
    refine Ev.step (fun k => by rw [spec_l01Is.l0]) ?_
    refine ev_neg (by omega) (ev_fix (show spec_l01K.f l = some (l.length : Int) from rfl) (ev_fix (l01In_f _ _ _) (ev_is ?_)))
    rw [List.take_of_length_le (by omega)] at ha
    rw [isTasks, ha, Bool.and_true]
  | succ d ih =>
    intro n hn ha
    have hlt : n < l.length := by omega
    refine Ev.step (fun k => by rw [spec_l01Is.l0]) (ev_pos (by omega) (ev_pos (by omega) (ev_fix (l01In_f _ _ _) ?_)))
    rw [rd_nat hlt]
    cases hq : decide (1 ≤ l[n] ∧ l[n] ≤ 40) with
    | true =>
      refine ev_pos rfl ?_
      rw [wrap_succ (by omega)]
      exact ih (n + 1) (by omega) (by rw [all_take_succ _ _ _ hlt, ha, hq]; rfl)
    | false =>
      refine ev_neg (by simp) (ev_is ?_)
      rw [isTasks, all_false_at _ l n hlt hq, Bool.and_false]
theorem l01Is_ev (l : List Int) (hl : l.length ≤ 1048576) : Ev (fun k => spec_l01Is.f k l) (isTasks l) := by
  unfold spec_l01Is.f
  exact l01Is_l0 l hl l.length 0 (by omega) (by simp)
end Go.Proofs.Ytjijiaejkcaflaa.Pure
end
section
namespace Go.Proofs.Ytjijiaejkcaflaa.Pure
open Go.RowKit Go.Proofs.Ytjijiaejkcaflaa.P Go.Proofs.YtjijiaejkcaflaaW.PrintWords Go.Proofs.YtjijiaejkcaflaaW.PrintLast Go.Proofs.YtjijiaejkcaflaaW.PrintMore
set_option linter.unusedVariables false
set_option linter.unusedSimpArgs false
def dbl (g : Int) : Nat → Int → Int
  | 0, n => n
  | f + 1, n => if 2 * n ≤ g then dbl g f (2 * n) else n
theorem dbl_ok (g : Int) : ∀ (f : Nat) (n : Int), 1 ≤ n → n ≤ g → n ≤ dbl g f n ∧ dbl g f n ≤ g ∧ ∃ j : Nat, dbl g f n = n * ((2 ^ j : Nat) : Int) := by
  intro f
  induction f with
  | zero => intro n h1 h2; exact ⟨Int.le_refl _, h2, 0, by simp [dbl]⟩
  | succ f ih =>
    intro n h1 h2
    rw [dbl]
    by_cases c : 2 * n ≤ g
    · rw [if_pos c]
      obtain ⟨a, b, j, e⟩ := ih (2 * n) (by omega) c
      exact ⟨by omega, b, j + 1, by rw [e, Nat.pow_succ, Int.natCast_mul, Int.mul_comm 2 n, Int.mul_assoc, Int.mul_comm ((2 ^ j : Nat) : Int)]; rfl⟩
    · rw [if_neg c]
      exact ⟨Int.le_refl _, h2, 0, by simp⟩
def lesG (G : List Int) (x : Int) : List Int := G.map fun g => dbl g 40 x
theorem lesG_length (G : List Int) (x : Int) : (lesG G x).length = G.length := List.length_map _
theorem lesG_mem {G : List Int} {x : Int} (hG : ∀ g ∈ G, 1 ≤ g ∧ g ≤ 40) (h1 : 1 ≤ x) (hx : ∀ g ∈ G, x ≤ g) : ∀ y ∈ lesG G x, (1 ≤ y ∧ y ≤ 40) ∧ ∃ j : Nat, y = x * ((2 ^ j : Nat) : Int) := fun y hy => by
  obtain ⟨g, hg, rfl⟩ := List.mem_map.1 hy
  have hg2 := hG g hg
  obtain ⟨a, b, j, e⟩ := dbl_ok g 40 x h1 (hx g hg)
  exact ⟨by omega, j, e⟩
theorem lesG_ok {G : List Int} {x : Int} (hG : ∀ g ∈ G, 1 ≤ g ∧ g ≤ 40) (h1 : 1 ≤ x) (hx : ∀ g ∈ G, x ≤ g) : ∀ y ∈ lesG G x, 1 ≤ y ∧ y ≤ 40 := fun y hy => (lesG_mem hG h1 hx y hy).1
theorem pow_mod (x i j : Nat) (h : i ≤ j) : x * 2 ^ j % (x * 2 ^ i) = 0 := by
  apply Nat.mod_eq_zero_of_dvd
  exact Nat.mul_dvd_mul (Nat.dvd_refl _) (Nat.pow_dvd_pow 2 h)
theorem lesG_harm {G : List Int} {x : Int} (hG : ∀ g ∈ G, 1 ≤ g ∧ g ≤ 40) (h1 : 1 ≤ x) (hx : ∀ g ∈ G, x ≤ g) : harmB (lesG G x) = true := by
  unfold harmB
  rw [List.all_eq_true]
  intro a ha
  rw [List.all_eq_true]
  intro b hb
  obtain ⟨⟨a1, a2⟩, i, ea⟩ := lesG_mem hG h1 hx a ha
  obtain ⟨⟨b1, b2⟩, j, eb⟩ := lesG_mem hG h1 hx b hb
  rw [harmP_iff a1 b1]
  obtain ⟨n, rfl⟩ : ∃ n : Nat, x = n := ⟨x.toNat, by omega⟩
  rw [← Int.natCast_mul] at ea eb
  rw [ea, eb, tmod_nat, tmod_nat]
  rcases Nat.le_total i j with h | h
  · right; rw [pow_mod n i j h]; rfl
  · left; rw [pow_mod n j i h]; rfl
theorem impl_les_l1 (G : List Int) (x g : Int) (hg : g ≤ 40) (i : Nat) (out R : List Int) (hi : i ≤ 1000) (ho : out.length ≤ 1000) : ∀ (f : Nat) (n : Int), 1 ≤ n → n ≤ g → g < n + f →
    Ev (fun k => impl_Tasks_lessened.l0 k x G (G.length : Int) ((i + 1 : Nat) : Int) (out ++ [dbl g f n])) R →
    Ev (fun k => impl_Tasks_lessened.l1 k x g n G (G.length : Int) (i : Int) out) R := by
  intro f
  induction f with
  | zero => intro n h1 h2 h3; omega
  | succ f ih =>
    intro n h1 h2 h3 hR
    rw [dbl] at hR
    refine Ev.step (fun k => by rw [impl_Tasks_lessened.l1]) ?_
    rw [wrap_id (x := 2 * n) (by omega) (by omega), wrap_id (x := n * 2) (by omega) (by omega), wrap_succ (n := i) (by omega)]
    by_cases c : 2 * n ≤ g
    · rw [if_pos c] at hR
      rw [Int.mul_comm n 2]
      exact ev_pos c (ih (2 * n) (by omega) c (by omega) hR)
    · rw [if_neg c] at hR
      exact ev_neg c (ev_pos (by omega) hR)
theorem lessened_ev (G : List Int) (hG : ∀ g ∈ G, 1 ≤ g ∧ g ≤ 40) (h8 : G.length ≤ 8) (x : Int) (h1 : 1 ≤ x) (hx : ∀ g ∈ G, x ≤ g) : Ev (fun k => impl_Tasks_lessened.f k G x) (lesG G x) := by
  have main : ∀ d n : Nat, n + d = G.length → Ev (fun k => impl_Tasks_lessened.l0 k x G (G.length : Int) (n : Int) (lesG (G.take n) x)) (lesG G x) := by
    intro d
    induction d with
    | zero =>
      intro n hn
      rw [List.take_of_length_le (by omega)]
      exact Ev.step (fun k => by rw [impl_Tasks_lessened.l0]) (ev_neg (by omega) (ev_now _))
    | succ d ih =>
      intro n hn
      have hlt : n < G.length := by omega
      have hg := hG _ (List.getElem_mem hlt)
      have hxg := hx _ (List.getElem_mem hlt)
      have ih := ih (n + 1) (by omega)
      have e : lesG (G.take (n + 1)) x = lesG (G.take n) x ++ [dbl G[n] 40 x] := by
        rw [List.take_succ_eq_append_getElem hlt, lesG, List.map_append]; rfl
      rw [e] at ih
      have hl : (lesG (G.take n) x).length ≤ 8 := by rw [lesG_length, List.length_take]; omega
      refine Ev.step (fun k => by rw [impl_Tasks_lessened.l0]) ?_
      rw [rd_nat hlt]
      exact ev_pos (by omega) (ev_pos (by omega) (ev_pos (by omega) (impl_les_l1 G x _ hg.2 n _ _ (by omega) (by omega) 40 x h1 hxg (by omega) ih)))
  unfold impl_Tasks_lessened.f
  exact main G.length 0 (by omega)
theorem spec_les_l1 (G : List Int) (x : Int) (i : Nat) (hi : i < G.length) (hg : G[i] ≤ 40) (out : List Int) (R : List Int × Bool) (hi : i ≤ 1000) (ho : out.length ≤ 1000) : ∀ (f : Nat) (n : Int), 1 ≤ n → n ≤ G[i] → G[i] < n + f →
    Ev (fun k => spec_l03Lessened.l0 k x ((i + 1 : Nat) : Int) G (out ++ [dbl G[i] f n])) R →
    Ev (fun k => spec_l03Lessened.l1 k x (i : Int) n G out) R := by
  intro f
  induction f with
  | zero => intro n h1 h2 h3; omega
  | succ f ih =>
    intro n h1 h2 h3 hR
    rw [dbl] at hR
    refine Ev.step (fun k => by rw [spec_l03Lessened.l1]) ?_
    rw [wrap_id (x := 2 * n) (by omega) (by omega), wrap_succ (n := i) (by omega), rd_nat (by omega)]
    refine ev_pos (by omega) (ev_pos (by omega) ?_)
    by_cases c : 2 * n ≤ G[i]
    · rw [if_pos c] at hR
      exact ev_pos c (ih (2 * n) (by omega) c (by omega) hR)
    · rw [if_neg c] at hR
      exact ev_neg c (ev_pos (by omega) hR)
theorem l03Lessened_ev (G : List Int) (hG : ∀ g ∈ G, 1 ≤ g ∧ g ≤ 40) (h8 : G.length ≤ 8) (x : Int) (h1 : 1 ≤ x) (hx : ∀ g ∈ G, x ≤ g) : Ev (fun k => spec_l03Lessened.f k G x) (lesG G x, true) := by
  have main : ∀ d n : Nat, n + d = G.length → Ev (fun k => spec_l03Lessened.l0 k x (n : Int) G (lesG (G.take n) x)) (lesG G x, true) := by
    intro d
    induction d with
    | zero =>
      intro n hn
      rw [List.take_of_length_le (by omega)]
      exact Ev.step (fun k => by rw [spec_l03Lessened.l0]) (ev_neg (by omega) (ev_now _))
    | succ d ih =>
      intro n hn
      have hlt : n < G.length := by omega
      have hg := hG _ (List.getElem_mem hlt)
      have hxg := hx _ (List.getElem_mem hlt)
      have ih := ih (n + 1) (by omega)
      have e : lesG (G.take (n + 1)) x = lesG (G.take n) x ++ [dbl G[n] 40 x] := by
        rw [List.take_succ_eq_append_getElem hlt, lesG, List.map_append]; rfl
      rw [e] at ih
      have hl : (lesG (G.take n) x).length ≤ 8 := by rw [lesG_length, List.length_take]; omega
      refine Ev.step (fun k => by rw [spec_l03Lessened.l0]) ?_
      rw [rd_nat hlt]
      exact ev_pos (by omega) (ev_pos (by omega) (ev_neg (by omega) (spec_les_l1 G x n hlt hg.2 _ _ (by omega) (by omega) 40 x h1 hxg (by omega) ih)))
  unfold spec_l03Lessened.f
  exact main G.length 0 (by omega)
theorem l03Lessened_one (G : List Int) (hG : ∀ g ∈ G, 1 ≤ g ∧ g ≤ 40) (h8 : G.length ≤ 8) : Ev (fun k => spec_l03Lessened.f k G 1) (lesG G 1, true) := l03Lessened_ev G hG h8 1 (by omega) (fun g hg => (hG g hg).1)
/-- harmonic turns of lessened gaps, by the program -/
theorem thin_les {G : List Int} (hG : ∀ x ∈ G, 1 ≤ x ∧ x ≤ 40) (h8 : 1 ≤ G.length ∧ G.length ≤ 8) {x : Int} (h1 : 1 ≤ x) (hx : ∀ g ∈ G, x ≤ g) :
    Ev (fun k => impl_Tasks_isThin.f k (lesG G x)) (harmT (lesG G x)).isSome ∧ (∀ r, harmT (lesG G x) = some r → Ev (fun k => impl_Tasks_harmonic.f k (lesG G x)) r) ∧
    Ev (fun k => spec_l03Turns.f k (lesG G x)) (match harmT (lesG G x) with | some r => (r, true) | none => ([], false)) := by
  have hh := lesG_harm hG h1 hx
  have hm := lesG_ok hG h1 hx
  have hl : 1 ≤ (lesG G x).length ∧ (lesG G x).length ≤ 8 := by rw [lesG_length]; exact h8
  have hn := harmT_none _ hm hl hh
  refine ⟨ev_eq (isThin_ev _ hm hl hh) ?_, fun r hr => harmonic_ev _ hm hl hh r hr, l03Turns_ev _ hm hl hh⟩
  cases hr : harmT (lesG G x) with
  | none => rw [Option.isSome_none]; exact decide_eq_false (hn.1 hr)
  | some r =>
    rw [Option.isSome_some]
    refine decide_eq_true ?_
    by_cases c : sumG (great (lesG G x)).toNat (lesG G x) ≤ (great (lesG G x)).toNat
    · exact c
    · exact absurd (hn.2 c) (by rw [hr]; simp)
theorem harmT_length {G : List Int} (hG : ∀ x ∈ G, 1 ≤ x ∧ x ≤ 40) (h1 : 1 ≤ G.length) {r : List Int} (hr : harmT G = some r) : r.length ≤ 40 := by
  obtain ⟨_, g1, g2⟩ := harm_great hG h1
  have := gre_length G _ _ _ _ hr
  rw [List.length_replicate] at this
  omega
theorem tasksCode_f (G : List Int) : impl_tasksCode.f G true = some (if isTasks G = true then 0 else 1) := by
  unfold impl_tasksCode.f
  rw [IsTasks_f, Option.bind_some]
  cases isTasks G <;> rfl
/-- turns by powers -/
def powR (G : List Int) : List Int × Int := if isTasks G = true then (match harmT (lesG G 1) with | some r => (r, 0) | none => ([], 4)) else ([], 1)
theorem TurnsByPowers_spec (G : List Int) (hl : G.length ≤ 1048576) : Ev (fun k => spec_TurnsByPowers.f k G) (powR G) := by
  unfold spec_TurnsByPowers.f powR
  refine ev_bind (l01Is_ev G hl) ?_
  cases ht : isTasks G with
  | false => exact ev_neg (by simp) (ev_now _)
  | true =>
    obtain ⟨h8, hG⟩ := (isTasks_iff G).1 ht
    obtain ⟨_, _, h3⟩ := thin_les hG h8 (x := 1) (by omega) (fun g hg => (hG g hg).1)
    rw [if_pos rfl]
    refine ev_pos rfl (ev_bind (l03Lessened_one G hG h8.2) (ev_bind h3 ?_))
    cases harmT (lesG G 1) with
    | none => exact ev_neg (by simp) (ev_now _)
    | some r => exact ev_pos rfl (ev_now _)
theorem TurnsByPowers_impl (G : List Int) : Ev (fun k => impl_TurnsByPowers.f k G) (powR G) := by
  unfold impl_TurnsByPowers.f powR
  refine ev_fix (tasksCode_f G) ?_
  cases ht : isTasks G with
  | false => exact ev_neg (by simp) (ev_now _)
  | true =>
    obtain ⟨h8, hG⟩ := (isTasks_iff G).1 ht
    obtain ⟨h1, h2, _⟩ := thin_les hG h8 (x := 1) (by omega) (fun g hg => (hG g hg).1)
    rw [if_pos rfl, if_pos rfl]
    refine ev_pos rfl (ev_bind (lessened_ev G hG h8.2 1 (by omega) (fun g hg => (hG g hg).1)) (ev_bind h1 ?_))
    cases hr : harmT (lesG G 1) with
    | none => exact ev_neg (by simp) (ev_now _)
    | some r => exact ev_pos rfl (ev_bind (h2 r hr) (ev_now _))
theorem powR_length (G : List Int) : (powR G).1.length ≤ 40 := by
  unfold powR
  split
  · next ht =>
    obtain ⟨h8, hG⟩ := (isTasks_iff G).1 ht
    split
    · next r hr => exact harmT_length (lesG_ok hG (by omega) (fun g hg => (hG g hg).1)) (by rw [lesG_length]; exact h8.1) hr
    · simp
  · simp
end Go.Proofs.Ytjijiaejkcaflaa.Pure
end
section
namespace Go.Proofs.Ytjijiaejkcaflaa.Pure
open Go.RowKit Go.Proofs.Ytjijiaejkcaflaa.P Go.Proofs.YtjijiaejkcaflaaW.PrintWords Go.Proofs.YtjijiaejkcaflaaW.PrintLast Go.Proofs.YtjijiaejkcaflaaW.PrintMore
set_option linter.unusedVariables false
set_option linter.unusedSimpArgs false
theorem markTasks_ev (l : List Int) (hl : l.length ≤ 1048576) : Ev (fun k => laws_markTasks.f k l 1) (1 + (l.length : Int), upFrom 1 l.length) := by
  unfold laws_markTasks.f
  exact ev_bind (markInt64S_ev l 1 (by omega) (by omega)) (ev_now _)
end Go.Proofs.Ytjijiaejkcaflaa.Pure
end
section
namespace Go.Proofs.Ytjijiaejkcaflaa.Pure
open Go.RowKit Go.Proofs.Ytjijiaejkcaflaa.P Go.Proofs.YtjijiaejkcaflaaW.PrintWords Go.Proofs.YtjijiaejkcaflaaW.PrintLast Go.Proofs.YtjijiaejkcaflaaW.PrintMore
set_option linter.unusedVariables false
set_option linter.unusedSimpArgs false
theorem TurnsByPowers_j2 (N : Nat) (hN : 1 + (N : Int) ≤ 9223372036854775807) : Ev (fun k => laws_FnExactTurnsByPowers.j2 k (upFrom 1 N) (1 + N) false) true := by
  refine Ev.step (fun k => by rw [laws_FnExactTurnsByPowers.j2]) ?_
  refine ev_neg (by simp) (ev_bind (heldInt64S_ev 1 (by omega) N hN) ?_)
  exact ev_neg (by omega) (ev_pos rfl (ev_now _))
theorem TurnsByPowers_j1 (l : List Int) (hl : l.length ≤ 1048576) : Ev (fun k => laws_FnExactTurnsByPowers.j1 k (powR l).1 (powR l).2 (powR l).1 false l) true := by
  have hr := powR_length l
  refine Ev.step (fun k => by rw [laws_FnExactTurnsByPowers.j1]) ?_
  refine ev_neg (by simp) (ev_bind (markInt64S_ev _ 1 (by omega) (by omega)) (ev_bind (heldInt64S_ev 1 (by omega) _ (by omega)) ?_))
  refine ev_neg (by omega) (ev_pos rfl (ev_bind (toTasks_ev l hl) (ev_bind (TurnsByPowers_impl l) (ev_bind (eqInt64S_ev _ (by omega)) (ev_pos rfl ?_)))))
  rw [bne_self_eq_false]
  exact TurnsByPowers_j2 _ (by omega)
theorem TurnsByPowers_j0 (l : List Int) (hl : l.length ≤ 1048576) : Ev (fun k => laws_FnExactTurnsByPowers.j0 k (powR l).1 (powR l).2 (powR l).1 (powR l).2 false l l) true := by
  have hr := powR_length l
  refine Ev.step (fun k => by rw [laws_FnExactTurnsByPowers.j0]) ?_
  refine ev_neg (by simp) (ev_bind (toTasks_ev l hl) (ev_bind (eqTasks_ev l hl) (ev_pos rfl (ev_bind (markTasks_ev l hl) ?_))))
  refine ev_neg (by omega) (ev_bind (eqInt64S_ev _ (by omega)) (ev_pos rfl ?_))
  rw [bne_self_eq_false]
  exact TurnsByPowers_j1 l hl
theorem FnExactTurnsByPowers : laws_FnExactTurnsByPowers.Pure := by
  intro l hl0
  refine ev_rounds (g := fun k => laws_FnExactTurnsByPowers.f k l) ?_
  unfold laws_FnExactTurnsByPowers.f
  obtain ⟨r, hr, h⟩ := szTasks_f l hl0.1
  refine ev_fix hr ?_
  rcases h with h | ⟨h0, hl⟩
  · exact ev_pos h (ev_now _)
  · have hr := powR_length l
    refine ev_neg (by omega) (ev_bind (toTasks_ev l hl) (ev_bind (TurnsByPowers_spec l hl) (ev_bind (toTasks_ev l hl) (ev_bind (TurnsByPowers_impl l) (ev_bind (eqInt64S_ev _ (by omega)) (ev_pos rfl ?_))))))
    rw [bne_self_eq_false]
    exact TurnsByPowers_j0 l hl
end Go.Proofs.Ytjijiaejkcaflaa.Pure
end
section
namespace Go.Proofs.Ytjijiaejkcaflaa.fnExactTurnsByPowers
open Go.ChangeShapes Go.WideShapes Go.ChangeAt Go.RowKit Go.Deep Go.Proofs.Ytjijiaejkcaflaa.P
open Go.ChangeMaps (open_string shut_string)
set_option linter.unusedVariables false
theorem own : ownKnob Try.prog.godebug = none := by kernel_rfl
theorem laidOut : laidOutB Try.prog = true := by kernel_rfl
set_option maxRecDepth 100000 in
theorem lifted (os : Os) (started : os.Started) (H : Type) (enc : TypeId × Value → H) :
    ReturnsInHanded {} Try.checked os 3 .any (Rows.fnExactTurnsByPowersSpec.pre6 enc Try.prog Try.f3 Rows.fnExactTurnsByPowersRow.domain false) (Rows.fnExactTurnsByPowersSpec.post enc Try.prog Try.f3 false true false false) := by
  refine returnsInHanded_of_change_sized (C := Try.checked) own started (by kernel_rfl) Try.func3
    (ChangeSpec.witness6 (enc := enc) (C := Try.checked) false ⟨#[], #[.agg #[.slice none 0 0]], []⟩ 8 (by kernel_rfl) (by kernel_rfl) (by kernel_rfl) (by kernel_rfl)) ?_
  intro W base args ds gs before hval0 hW hcnd hsz0 _
  have hsz : (DataW.weightsEach Try.prog (Try.f3.params.toList ++ Rows.fnExactTurnsByPowersSpec.plain.varTypes Try.prog) (ds ++ gs)).all (· ≤ reachBytes) = true := hsz0
  have hval : ∀ (j : Nat) t v, Try.f3.params[j]? = some t → args[j]? = some v → Value.okWide Try.prog W .any base t v := hval0
  have hW' := hW
  obtain ⟨p, q, hA0, hV, rfl, hfz, hnd⟩ := hW
  have hA : DataW.TrodAll enc Try.prog W 0 (fun _ => true) true Try.f3.params.toList args.toList ds p := hA0
  rw [Try.params3] at hA hval hsz
  obtain ⟨v0, vs0, d0, ds0, p0, q0, hargs, rfl, rfl, h0, r0⟩ := trodAll_cons hA
  obtain ⟨rfl, rfl, rfl⟩ := trodAll_nil r0
  obtain rfl : args = #[v0] := by cases args; simp_all
  obtain ⟨rfl, rfl⟩ := trodVars_none hV
  have k0 := h0
  have lt0 : ∀ x ∈ p0, x.block < W.heap.size := by obtain ⟨m, hm⟩ := k0; exact DataW.trod_lt m _ _ _ hm
  obtain ⟨v0_0, y0_0, n0, rfl, t0_0⟩ := agg1 Try.underlying24 (by kernel_rfl) (by kernel_rfl) (hval 0 24 v0 rfl rfl) h0
  obtain ⟨l0_0, e0_0, w0_0⟩ := open_cell (opens_slice (opens_int Try.underlying2) Try.underlying22 (by kernel_rfl) rfl) t0_0
  obtain ⟨A0_0, c0_0, rfl, hc0_0, hr0_0⟩ := row_cell e0_0
  clear hA0 hval0 hsz0 hsz
  refine (P.laws_FnExactTurnsByPowers.walk Pure.FnExactTurnsByPowers A0_0 c0_0 l0_0 W hr0_0 hc0_0 w0_0).mono fun e W' ⟨he, bel⟩ => ?_
  subst he
  exact ⟨_, rfl, _, _, _, [], _, [], hW', trodAll_mk1 (shut_bool Try.underlying4 _), (trodAll_cons_mk (Below.trod laidOut (by kernel_rfl) (of_decide_eq_true (by kernel_rfl)) k0 bel lt0) trodAll_mk0), rfl, bel.frame _, fun h => by cases h⟩
theorem over : Rows.fnExactTurnsByPowersRow.holds Try.pinned (OpenSpec.ofChange Rows.fnExactTurnsByPowersSpec) :=
  OpenClaim.holds_of_wide 3 Try.f3 rfl rfl rfl rfl rfl rfl rfl ⟨rfl, rfl, rfl, rfl, rfl⟩ rfl rfl rfl rfl rfl (by kernel_rfl) Try.func3 (by kernel_rfl)
    (of_decide_eq_true (by kernel_rfl)) (by unfold Func.isWrapper; first | (rw [if_pos (by decide +kernel)]; kernel_rfl) | (rw [if_neg (by decide +kernel)]; exact ⟨rfl, rfl⟩))
    (fun os started H enc _ => lifted os started H enc)
theorem proved : Rows.FnExactTurnsByPowersSaid := over
end Go.Proofs.Ytjijiaejkcaflaa.fnExactTurnsByPowers
namespace Go.Proofs.Ytjijiaejkcaflaa
/-- The row, under a short name, for the claim. -/
theorem fnExactTurnsByPowers_holds : Rows.FnExactTurnsByPowersSaid := fnExactTurnsByPowers.proved
end Go.Proofs.Ytjijiaejkcaflaa
end
