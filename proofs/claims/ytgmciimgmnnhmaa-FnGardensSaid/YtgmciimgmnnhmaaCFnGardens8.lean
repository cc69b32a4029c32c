/- Towers are at least the sum of the rates, and heights are those that cuts leave. -/
import Derived.Test.YtgmciimgmnnhmaaCFnGardens7
import Derived.Test.YtgmciimgmnnhmaaRows
section
namespace Go.Proofs.Ytgmciimgmnnhmaa.Pure
open Go.RowKit Go.Proofs.Ytgmciimgmnnhmaa.P Go.Proofs.YtgmciimgmnnhmaaW.PrintWords Go.Proofs.YtgmciimgmnnhmaaW.PrintLast Go.Proofs.YtgmciimgmnnhmaaW.PrintMore
set_option linter.unusedVariables false
set_option linter.unusedSimpArgs false
theorem evp_pick {β : Type} {b : List Int} (hb : Bytes b) {i : Int} (hi : Ok b i) {h : Int} {l : List Int} (hl : 1 ≤ l.length) {f : Nat → Int × Int × Int → Option β} {P : β → Prop}
    (k : ∀ v i2 h2, v ∈ l → Ok b i2 → EvP (fun m => f m (v, i2, h2)) P) : EvP (fun m => (spec_l01Pick.f b i h l).bind (f m)) P := by
  obtain ⟨v, i2, h2, e, h1, h3, h4, h5⟩ := next_f hb hi h (l.length : Int)
  refine evp_fix (a := (rd l v, i2, h2)) ?_ (k _ i2 h2 (rd_mem h1 (h3 (by omega))) h5)
  unfold spec_l01Pick.f
  rw [e, Option.bind_some, if_pos h1, if_pos (h3 (by omega))]
theorem l01From_evp (b : List Int) (hl : b.length ≤ 4096) : EvP (fun k => spec_l01From.f k b) (fun r => r.1 = b ∧ r.2.1 = 0) := by
  have main : ∀ d n : Nat, n + d = b.length → ∀ h : Int, EvP (fun k => spec_l01From.l0 k b (n : Int) b 0 h) (fun r => r.1 = b ∧ r.2.1 = 0) := by
    intro d
    induction d with
    | zero =>
      intro n hn h
      exact evp_step (fun k => by rw [spec_l01From.l0]) (evp_neg (by omega) (evp_now ⟨rfl, rfl⟩))
    | succ d ih =>
      intro n hn h
      refine evp_step (fun k => by rw [spec_l01From.l0]) (evp_pos (by omega) (evp_pos (by omega) (evp_pos (by omega) ?_)))
      rw [wrap_succ (n := n) (by omega)]
      exact ih (n + 1) (by omega) _
  unfold spec_l01From.f
  exact main b.length 0 (by omega) _
theorem evp_from {β : Type} {b : List Int} (hb : Bytes b) {f : Nat → List Int × Int × Int → Option β} {P : β → Prop}
    (k : ∀ h, EvP (fun m => f m (b, 0, h)) P) : EvP (fun m => (spec_l01From.f m b).bind (f m)) P := by
  refine evp_bind (l01From_evp b hb.2) ?_
  rintro ⟨b2, i, h⟩ ⟨h1, h2⟩
  cases h1; cases h2
  exact k h
theorem ok_start (b : List Int) : Ok b 0 := by constructor <;> omega
theorem DrawTurns_l0 {b : List Int} (hb : Bytes b) (x1 x6 : Int) : ∀ (d : Nat) (l : List Int) (i h : Int), d ≤ 100000 → l.length + d ≤ 100000 → Ok b i →
    EvP (fun k => spec_l01DrawTurns.l0 k x1 l x6 (d : Int) b i h) (fun r => r.1.length = l.length + d ∧ Ok b r.2.1 ∧ ∀ x ∈ r.1, x ∈ l ∨ -1 ≤ x ∧ (x < x1 ∨ x ≤ 0)) := by
  intro d
  induction d with
  | zero =>
    intro l i h _ _ hi
    exact evp_step (fun k => by rw [spec_l01DrawTurns.l0]) (evp_neg (by omega) (evp_now ⟨rfl, hi, fun x hx => .inl hx⟩))
  | succ d ih =>
    intro l i h hd hl hi
    refine evp_step (fun k => by rw [spec_l01DrawTurns.l0]) ?_
    refine evp_pos (by omega) (evp_next hb hi fun v i2 h2 v0 v1 v2 hi2 => evp_next hb hi2 fun u i3 h3 u0 u1 u2 hi3 => ?_)
    rw [wrap_id (x := ((d + 1 : Nat) : Int) - 1) (by omega) (by omega), show ((d + 1 : Nat) : Int) - 1 = (d : Int) by omega]
    have fin : ∀ z : Int, -1 ≤ z ∧ (z < x1 ∨ z ≤ 0) → EvP (fun k => spec_l01DrawTurns.l0 k x1 (l ++ [z]) x6 (d : Int) b i3 h3) (fun r => r.1.length = l.length + (d + 1) ∧ Ok b r.2.1 ∧ ∀ x ∈ r.1, x ∈ l ∨ -1 ≤ x ∧ (x < x1 ∨ x ≤ 0)) := fun z hz => by
      refine evp_mono (ih (l ++ [z]) i3 h3 (by omega) (by rw [List.length_append, List.length_singleton]; omega) hi3) ?_
      rintro r ⟨r1, r2, r3⟩
      rw [List.length_append, List.length_singleton] at r1
      refine ⟨by omega, r2, fun x hx => ?_⟩
      rcases r3 x hx with hx | hx
      · rcases List.mem_append.1 hx with hx | hx
        · exact .inl hx
        · rw [List.mem_singleton.1 hx]; exact .inr hz
      · exact .inr hx
    refine evp_ite (fun _ => evp_pos (by omega) (fin _ (by omega))) (fun _ => evp_pos (by omega) (fin _ ?_))
    show -1 ≤ v ∧ (v < x1 ∨ v ≤ 0)
    by_cases c : 1 ≤ x1
    · have := v1 c; omega
    · have := v2 (by omega); omega
theorem DrawTurns_evp {b : List Int} (hb : Bytes b) {i : Int} (hi : Ok b i) (h x1 : Int) : EvP (fun k => spec_l01DrawTurns.f k b i h x1) (fun r => (1 ≤ r.1.length ∧ r.1.length ≤ 120) ∧ Ok b r.2.1 ∧ ∀ x ∈ r.1, -1 ≤ x ∧ (x < x1 ∨ x ≤ 0)) := by
  unfold spec_l01DrawTurns.f
  refine evp_pick hb hi (by decide) fun v i2 h2 hv hi2 => evp_pick hb hi2 (by decide) fun u i3 h3 hu hi3 => evp_next hb hi3 fun t i4 h4 t0 t1 t2 hi4 => ?_
  have hu2 : 1 ≤ u ∧ u ≤ 120 := by simp at hu; omega
  have ht := t1 (by omega)
  obtain ⟨m, rfl⟩ : ∃ m : Nat, t = m := ⟨t.toNat, by omega⟩
  show EvP (fun k => spec_l01DrawTurns.l0 k x1 [] v (wrap64 (1 + (m : Int))) b i4 h4) _
  rw [wrap_id (by omega) (by omega), show 1 + (m : Int) = ((m + 1 : Nat) : Int) by omega]
  refine evp_mono (DrawTurns_l0 hb x1 v (m + 1) [] i4 h4 (by omega) (by simp; omega) hi4) ?_
  rintro r ⟨r1, r2, r3⟩
  simp only [List.length_nil] at r1
  exact ⟨by omega, r2, fun x hx => by rcases r3 x hx with h | h; exact absurd h (by simp); exact h⟩
theorem evp_near {β : Type} {b : List Int} (hb : Bytes b) {i : Int} (hi : Ok b i) {h : Int} {a : Int} {f : Nat → Int × Int × Int → Option β} {P : β → Prop}
    (k : ∀ v i2 h2, Ok b i2 → (v = -1 ∨ v = wrap64 (a + 1) ∨ v = 1099511627776 ∨ v = -4611686018427387904 ∨ (0 ≤ v ∧ (1 ≤ wrap64 (a + 1) → v < wrap64 (a + 1)) ∧ (wrap64 (a + 1) < 1 → v = 0))) → EvP (fun m => f m (v, i2, h2)) P) : EvP (fun m => (spec_l01Near.f b i h a).bind (f m)) P := by
  obtain ⟨v, i2, h2, e, h1, h3, h4, h5⟩ := next_f hb hi h 14
  by_cases c : v = 0
  · obtain ⟨u, i3, h6, e2, q1, q3, q4, q5⟩ := next_f hb h5 h2 (([(-1), wrap64 (a + 1), 1099511627776, (-4611686018427387904)] : List Int).length : Int)
    have hu : u < 4 := q3 (by show (1 : Int) ≤ 4; decide)
    refine evp_fix (a := (rd [(-1), wrap64 (a + 1), 1099511627776, (-4611686018427387904)] u, i3, h6)) ?_ (k _ i3 h6 q5 ?_)
    · unfold spec_l01Near.f
      rw [e, Option.bind_some, if_pos c]
      unfold spec_l01Pick.f
      rw [e2, Option.bind_some, if_pos q1, if_pos (show u < (([(-1), wrap64 (a + 1), 1099511627776, (-4611686018427387904)] : List Int).length : Int) from hu), Option.bind_some]
    · have hm := rd_mem (l := [(-1), wrap64 (a + 1), 1099511627776, (-4611686018427387904)]) q1 (show u < (([(-1), wrap64 (a + 1), 1099511627776, (-4611686018427387904)] : List Int).length : Int) from hu)
      simp only [List.mem_cons, List.mem_nil_iff, or_false] at hm
      rcases hm with h | h | h | h
      · exact .inl h
      · exact .inr (.inl h)
      · exact .inr (.inr (.inl h))
      · exact .inr (.inr (.inr (.inl h)))
  · obtain ⟨u, i3, h6, e2, q1, q3, q4, q5⟩ := next_f hb h5 h2 (wrap64 (a + 1))
    refine evp_fix (a := (u, i3, h6)) ?_ (k _ i3 h6 q5 (.inr (.inr (.inr (.inr ⟨q1, q3, q4⟩)))))
    unfold spec_l01Near.f
    rw [e, Option.bind_some, if_neg c, e2, Option.bind_some]
end Go.Proofs.Ytgmciimgmnnhmaa.Pure
end
section
namespace Go.Proofs.Ytgmciimgmnnhmaa.Pure
open Go.RowKit Go.Proofs.Ytgmciimgmnnhmaa.P Go.Proofs.YtgmciimgmnnhmaaW.PrintWords Go.Proofs.YtgmciimgmnnhmaaW.PrintLast Go.Proofs.YtgmciimgmnnhmaaW.PrintMore
set_option linter.unusedVariables false
set_option linter.unusedSimpArgs false
theorem l01Own_f (l : List Int) (hl : l.length < 17592186044416) : spec_l01Own.f l = some l := by
  unfold spec_l01Own.f
  simp only [Option.bind_some, List.nil_append, List.length_nil, Nat.zero_add]
  rw [if_pos hl]
end Go.Proofs.Ytgmciimgmnnhmaa.Pure
end
section
namespace Go.Proofs.Ytgmciimgmnnhmaa.Pure
set_option linter.unusedVariables false
set_option linter.unusedSimpArgs false
theorem mem_of_mem_take {α : Type} {l : List α} {n : Nat} {x : α} (h : x ∈ l.take n) : x ∈ l := List.mem_of_mem_take h
end Go.Proofs.Ytgmciimgmnnhmaa.Pure
end
section
namespace Go.Proofs.Ytgmciimgmnnhmaa.Pure
open Go.RowKit Go.Proofs.Ytgmciimgmnnhmaa.P Go.Proofs.YtgmciimgmnnhmaaW.PrintWords Go.Proofs.YtgmciimgmnnhmaaW.PrintLast Go.Proofs.YtgmciimgmnnhmaaW.PrintMore
set_option linter.unusedVariables false
set_option linter.unusedSimpArgs false
theorem BadTurns_evp {b : List Int} (hb : Bytes b) {i : Int} (hi : Ok b i) (h : Int) (l : List Int) (hl : 1 ≤ l.length ∧ l.length ≤ 1000) : EvP (fun k => spec_l01BadTurns.f k b i h l) (fun r => r.1.length ≤ 1000 ∧ Ok b r.2.1) := by
  have loop : ∀ (d : Nat) (x : List Int) (i h : Int), x.length ≤ 1000 → x.length + d ≥ 121 → Ok b i → EvP (fun k => spec_l01BadTurns.l0 k x b i h) (fun r => r.1.length ≤ 1000 ∧ Ok b r.2.1) := by
    intro d
    induction d with
    | zero =>
      intro x i h hx h9 hi
      exact evp_step (fun k => by rw [spec_l01BadTurns.l0]) (evp_neg (by omega) (evp_now ⟨hx, hi⟩))
    | succ d ih =>
      intro x i h hx h9 hi
      refine evp_step (fun k => by rw [spec_l01BadTurns.l0]) (evp_ite (fun c => evp_pos (by omega) ?_) (fun c => evp_now ⟨hx, hi⟩))
      exact ih _ i h (by rw [List.length_append, List.length_singleton]; omega) (by rw [List.length_append, List.length_singleton]; omega) hi
  unfold spec_l01BadTurns.f
  refine evp_fix (l01Own_f l (by omega)) (evp_next hb hi fun v i2 h2 v0 v1 v2 hi2 => evp_ite (fun _ => evp_now ⟨by simp, hi2⟩) (fun _ => evp_ite (fun _ => ?_) (fun _ => evp_ite (fun _ => loop 121 l i2 h2 hl.2 (by omega) hi2) (fun _ => evp_now ⟨hl.2, hi2⟩))))
  refine evp_next hb hi2 fun u i3 h3 u0 u1 u2 hi3 => evp_pick hb hi3 (by decide) fun t i4 h4 ht hi4 => evp_pos u0 (evp_pos (u1 (by omega)) (evp_now ⟨?_, hi4⟩))
  show (l.set _ _).length ≤ 1000
  rw [List.length_set]; omega
end Go.Proofs.Ytgmciimgmnnhmaa.Pure
end
section
namespace Go.Proofs.Ytgmciimgmnnhmaa.Pure
open Go.RowKit Go.Proofs.Ytgmciimgmnnhmaa.P Go.Proofs.YtgmciimgmnnhmaaW.PrintWords Go.Proofs.YtgmciimgmnnhmaaW.PrintLast Go.Proofs.YtgmciimgmnnhmaaW.PrintMore
set_option linter.unusedVariables false
set_option linter.unusedSimpArgs false
theorem Index_l0 (l : List Int) (x : Int) (hl : l.length ≤ 9223372036854775807) : ∀ d n : Nat, n + d = l.length → (∀ y ∈ l.take n, y ≠ x) → Ev (fun k => slices_Index_Sint64_int64.l0 k l x (l.length : Int) (n : Int)) (if x ∈ l then (l.idxOf x : Int) else -1) := by
  intro d
  induction d with
  | zero =>
    intro n hn hno
    refine Ev.step (fun k => by rw [slices_Index_Sint64_int64.l0]) (ev_neg (by omega) (ev_is ?_))
    rw [List.take_of_length_le (by omega)] at hno
    rw [if_neg (fun h => hno x h rfl)]
  | succ d ih =>
    intro n hn hno
    have hlt : n < l.length := by omega
    refine Ev.step (fun k => by rw [slices_Index_Sint64_int64.l0]) (ev_pos (by omega) (ev_pos (by omega) (ev_pos (by omega) ?_)))
    rw [rd_nat hlt]
    by_cases h : x = l[n]
    · refine ev_pos h (ev_is ?_)
      rw [if_pos (h ▸ List.getElem_mem hlt)]
      congr 2
      symm
      rw [List.idxOf, List.findIdx_eq hlt]
      refine ⟨by simp [h], fun j hj => ?_⟩
      have := hno l[j] (List.mem_take_iff_getElem.2 ⟨j, by omega, rfl⟩)
      simpa using this
    · refine ev_neg h ?_
      rw [wrap_succ (by omega)]
      refine ih (n + 1) (by omega) ?_
      rw [List.take_succ_eq_append_getElem hlt]
      intro y hy
      rcases List.mem_append.1 hy with hy | hy
      · exact hno y hy
      · rw [List.mem_singleton.1 hy]; exact fun e => h e.symm
theorem Index_ev (l : List Int) (x : Int) (hl : l.length ≤ 9223372036854775807) : Ev (fun k => slices_Index_Sint64_int64.f k l x) (if x ∈ l then (l.idxOf x : Int) else -1) := by
  unfold slices_Index_Sint64_int64.f
  exact Index_l0 l x hl l.length 0 (by omega) (by simp)
end Go.Proofs.Ytgmciimgmnnhmaa.Pure
end
section
namespace Go.Proofs.Ytgmciimgmnnhmaa.Pure
open Go.RowKit Go.Proofs.Ytgmciimgmnnhmaa.P Go.Proofs.YtgmciimgmnnhmaaW.PrintWords Go.Proofs.YtgmciimgmnnhmaaW.PrintLast Go.Proofs.YtgmciimgmnnhmaaW.PrintMore
set_option linter.unusedVariables false
set_option linter.unusedSimpArgs false
def isGarden (l : List Int) : Bool := decide (1 ≤ (l.length : Int) ∧ (l.length : Int) ≤ 8) && l.all fun g => decide (1 ≤ g ∧ g ≤ 20)
theorem IsGarden_f (l : List Int) : impl_IsGarden.f l = some (isGarden l) := rfl
theorem isGarden_iff (l : List Int) : isGarden l = true ↔ (1 ≤ l.length ∧ l.length ≤ 8) ∧ (∀ x ∈ l, 1 ≤ x ∧ x ≤ 20) := by
  unfold isGarden
  rw [Bool.and_eq_true, List.all_eq_true, decide_eq_true_iff]
  simp only [decide_eq_true_iff]
  constructor
  · rintro ⟨h1, h2⟩; exact ⟨by omega, h2⟩
  · rintro ⟨h1, h2⟩; exact ⟨by omega, h2⟩
theorem l06Is_l0 (l : List Int) (hl : l.length ≤ 1048576) : ∀ d n : Nat, n + d = l.length → (l.take n).all (fun g => decide (1 ≤ g ∧ g ≤ 20)) = true → Ev (fun k => spec_l06Is.l0 k (n : Int) l) (isGarden l) := by
  intro d
  induction d with
  | zero =>
    intro n hn ha
    refine Ev.step (fun k => by rw [spec_l06Is.l0]) ?_
    refine ev_neg (by omega) ?_
    rw [List.take_of_length_le (by omega)] at ha
    by_cases h0 : (l.length : Int) > 0
    · refine ev_pos h0 (ev_is ?_)
      rw [isGarden, ha, Bool.and_true]
      congr 1
      rw [decide_eq_decide]
      omega
    · refine ev_neg h0 (ev_is ?_)
      rw [isGarden, decide_eq_false (by omega), Bool.false_and]
  | succ d ih =>
    intro n hn ha
    have hlt : n < l.length := by omega
    refine Ev.step (fun k => by rw [spec_l06Is.l0]) (ev_pos (by omega) (ev_pos (by omega) (ev_fix (l01In_f _ _ _) ?_)))
    rw [rd_nat hlt]
    cases hq : decide (1 ≤ l[n] ∧ l[n] ≤ 20) with
    | true =>
      refine ev_pos rfl ?_
      rw [wrap_succ (by omega)]
      exact ih (n + 1) (by omega) (by rw [all_take_succ _ _ _ hlt, ha, hq]; rfl)
    | false =>
      refine ev_neg (by simp) (ev_is ?_)
      rw [isGarden, all_false_at _ l n hlt hq, Bool.and_false]
theorem l06Is_ev (l : List Int) (hl : l.length ≤ 1048576) : Ev (fun k => spec_l06Is.f k l) (isGarden l) := by
  unfold spec_l06Is.f
  exact l06Is_l0 l hl l.length 0 (by omega) (by simp)
theorem gardenCode_f (l : List Int) (c : Bool) : impl_gardenCode.f l c = some (if isGarden l = true then (if c = true then 0 else 2) else 1) := by
  unfold impl_gardenCode.f
  rw [IsGarden_f, Option.bind_some]
  cases isGarden l <;> cases c <;> rfl
def heightsOk (R H : List Int) : Bool := decide ((H.length : Int) = (R.length : Int)) && H.all fun g => decide (0 ≤ g ∧ g ≤ 100000)
theorem areHeights_f (R H : List Int) : impl_Garden_areHeights.f R H = some (heightsOk R H) := rfl
theorem heightsOk_iff (R H : List Int) : heightsOk R H = true ↔ H.length = R.length ∧ (∀ x ∈ H, 0 ≤ x ∧ x ≤ 100000) := by
  unfold heightsOk
  rw [Bool.and_eq_true, List.all_eq_true, decide_eq_true_iff]
  simp only [decide_eq_true_iff]
  constructor
  · rintro ⟨h1, h2⟩; exact ⟨by omega, h2⟩
  · rintro ⟨h1, h2⟩; exact ⟨by omega, h2⟩
def hCode (R H : List Int) : Int := if isGarden R = true then (if heightsOk R H = true then 0 else 2) else 1
theorem l06Heights_l0 (R H : List Int) (hl : H.length ≤ 1048576) (he : (H.length : Int) = (R.length : Int)) : ∀ d n : Nat, n + d = H.length → (H.take n).all (fun g => decide (0 ≤ g ∧ g ≤ 100000)) = true → Ev (fun k => spec_l06Heights.l0 k H (n : Int)) (if heightsOk R H = true then 0 else 2) := by
  intro d
  induction d with
  | zero =>
    intro n hn ha
    refine Ev.step (fun k => by rw [spec_l06Heights.l0]) ?_
    refine ev_neg (by omega) (ev_is ?_)
    rw [List.take_of_length_le (by omega)] at ha
    rw [heightsOk, ha, decide_eq_true he]
    rfl
  | succ d ih =>
    intro n hn ha
    have hlt : n < H.length := by omega
    refine Ev.step (fun k => by rw [spec_l06Heights.l0]) (ev_pos (by omega) (ev_pos (by omega) (ev_fix (l01In_f _ _ _) ?_)))
    rw [rd_nat hlt]
    cases hq : decide (0 ≤ H[n] ∧ H[n] ≤ 100000) with
    | true =>
      refine ev_pos rfl ?_
      rw [wrap_succ (by omega)]
      exact ih (n + 1) (by omega) (by rw [all_take_succ _ _ _ hlt, ha, hq]; rfl)
    | false =>
      refine ev_neg (by simp) (ev_is ?_)
      rw [heightsOk, all_false_at _ H n hlt hq, Bool.and_false]
      rfl
theorem l06Heights_ev (R H : List Int) (hR : R.length ≤ 1048576) (hl : H.length ≤ 1048576) : Ev (fun k => spec_l06Heights.f k R H) (hCode R H) := by
  unfold spec_l06Heights.f hCode
  refine ev_bind (l06Is_ev R hR) ?_
  cases hg : isGarden R with
  | false => exact ev_neg (by simp) (ev_now _)
  | true =>
    rw [if_pos rfl]
    refine ev_pos rfl ?_
    by_cases he : (H.length : Int) = (R.length : Int)
    · exact ev_pos he (l06Heights_l0 R H hl he H.length 0 (by omega) (by simp))
    · refine ev_neg he (ev_is ?_)
      rw [heightsOk, decide_eq_false he, Bool.false_and]
      rfl
theorem l06Grow_l0 (R H : List Int) (a : Int) (hs : H.length ≤ 1048576) (hl : H.length ≤ R.length) : ∀ d n : Nat, n + d = H.length → Ev (fun k => spec_l06Grow.l0 k H a (grT (R.take n) (H.take n) a) (n : Int) R) (grT R H a) := by
  intro d
  induction d with
  | zero =>
    intro n hn
    refine Ev.step (fun k => by rw [spec_l06Grow.l0]) (ev_neg (by omega) (ev_is ?_))
    congr 1
    rw [List.take_of_length_le (l := H) (by omega)]
    unfold grT
    apply List.ext_getElem
    · simp; omega
    · intro i h1 h2
      simp
  | succ d ih =>
    intro n hn
    have h1 : n < H.length := by omega
    have h2 : n < R.length := by omega
    refine Ev.step (fun k => by rw [spec_l06Grow.l0]) (ev_pos (by omega) (ev_pos (by omega) (ev_pos (by omega) (ev_pos ?_ ?_))))
    · unfold grT
      simp
      omega
    rw [rd_nat h1, rd_nat h2, wrap_succ (by omega)]
    have ih := ih (n + 1) (by omega)
    rw [List.take_succ_eq_append_getElem h1, List.take_succ_eq_append_getElem h2] at ih
    have e : grT (R.take n ++ [R[n]]) (H.take n ++ [H[n]]) a = grT (R.take n) (H.take n) a ++ [wrap64 (H[n] + wrap64 (a * R[n]))] := by
      unfold grT
      rw [List.zipWith_append (by simp; omega), Int.mul_comm a]
      rfl
    rw [e] at ih
    exact ih
theorem l06Grow_ev (R H : List Int) (a : Int) (hs : H.length ≤ 1048576) (hl : H.length ≤ R.length) : Ev (fun k => spec_l06Grow.f k R H a) (grT R H a) := by
  unfold spec_l06Grow.f
  exact l06Grow_l0 R H a hs hl H.length 0 (by omega)
theorem grown_ev (R H : List Int) (a : Int) (hl : H.length = R.length) (hs : H.length ≤ 1048576) : Ev (fun k => impl_Garden_grown.f k R H a) (grT R H a) := by
  refine ⟨R.length + 1, fun n hn => ?_⟩
  obtain ⟨m, rfl⟩ : ∃ m, n = R.length + 1 + m := ⟨n - (R.length + 1), by omega⟩
  clear hn
  induction m with
  | zero => exact grown_f R H a hl (by omega)
  | succ m ih => exact impl_Garden_grown.mono _ _ _ _ _ ih
/-- the first highest plant -/
def hiI (H : List Int) : Int := (H.idxOf (great H) : Int)
theorem great_mem {l : List Int} (h0 : l ≠ []) (hp : ∀ x ∈ l, 0 ≤ x) : great l ∈ l := by
  have main : ∀ (l : List Int) (a : Int), l.foldl mx a = a ∨ l.foldl mx a ∈ l := by
    intro l
    induction l with
    | nil => intro a; exact .inl rfl
    | cons y l ih =>
      intro a
      rw [List.foldl_cons]
      rcases ih (mx a y) with h | h
      · rw [h]
        unfold mx
        split
        · exact .inr List.mem_cons_self
        · exact .inl rfl
      · exact .inr (List.mem_cons_of_mem _ h)
  rcases main l 0 with h | h
  · cases l with
    | nil => exact absurd rfl h0
    | cons y l =>
      have h1 := great_pos (l := y :: l) List.mem_cons_self
      have h2 := hp y List.mem_cons_self
      have h3 : great (y :: l) = 0 := h
      rw [h3] at h1
      have : y = 0 := by omega
      rw [h3, this]
      exact List.mem_cons_self
  · exact h
theorem hiI_rd {H : List Int} (h0 : H ≠ []) (hp : ∀ x ∈ H, 0 ≤ x) : 0 ≤ hiI H ∧ hiI H < (H.length : Int) ∧ rd H (hiI H) = great H := by
  have h := great_mem h0 hp
  have hlt : H.idxOf (great H) < H.length := List.idxOf_lt_length_iff.2 h
  refine ⟨by unfold hiI; omega, by unfold hiI; omega, ?_⟩
  rw [hiI, rd_nat hlt]
  exact List.getElem_idxOf hlt
theorem byHeight_ev (H : List Int) (hl : H.length ≤ 1048576) (h0 : 1 ≤ H.length) (hp : ∀ x ∈ H, 0 ≤ x) : Ev (fun k => impl_byHeight.f k H) (hiI H) := by
  unfold impl_byHeight.f
  refine ev_bind (Max_ev H hl h0 hp) (ev_bind (Index_ev H (great H) (by omega)) (ev_is ?_))
  rw [if_pos (great_mem (by intro e; subst e; simp at h0) hp)]
  rfl
theorem l06Highest_l0 (H : List Int) (hl : H.length ≤ 1048576) (hp : ∀ x ∈ H, 0 ≤ x) : ∀ d n : Nat, n + d = H.length → 1 ≤ n → Ev (fun k => spec_l06Highest.l0 k H (hiI (H.take n)) (n : Int)) (hiI H) := by
  intro d
  induction d with
  | zero =>
    intro n hn h1
    refine Ev.step (fun k => by rw [spec_l06Highest.l0]) (ev_neg (by omega) (ev_is ?_))
    rw [List.take_of_length_le (by omega)]
  | succ d ih =>
    intro n hn h1
    have hlt : n < H.length := by omega
    have hne : H.take n ≠ [] := by intro e; have := congrArg List.length e; rw [List.length_take] at this; simp only [List.length_nil] at this; omega
    have hpt : ∀ x ∈ H.take n, 0 ≤ x := fun x hx => hp x (List.mem_of_mem_take hx)
    obtain ⟨q0, q1, q2⟩ := hiI_rd hne hpt
    rw [List.length_take] at q1
    have hb : hiI (H.take n) < (n : Int) := by omega
    obtain ⟨b, hbb⟩ : ∃ b : Nat, hiI (H.take n) = b := ⟨(hiI (H.take n)).toNat, by omega⟩
    have e1 : rd H (hiI (H.take n)) = great (H.take n) := by
      rw [← q2, hbb, rd_nat (by omega), rd_nat (by rw [List.length_take]; omega)]
      simp
    have hg := great_take_succ H n hlt
    have ht := List.take_succ_eq_append_getElem hlt
    refine Ev.step (fun k => by rw [spec_l06Highest.l0]) (ev_pos (by omega) (ev_pos (by omega) (ev_pos (by omega) (ev_pos (by omega) ?_))))
    rw [e1, rd_nat hlt, wrap_succ (by omega)]
    have ih := ih (n + 1) (by omega) (by omega)
    by_cases h : H[n] > great (H.take n)
    · refine ev_pos h ?_
      have e2 : great (H.take (n + 1)) = H[n] := by rw [hg]; unfold mx; split <;> omega
      have e3 : hiI (H.take (n + 1)) = (n : Int) := by
        rw [hiI, e2, ht]
        have hno : H[n] ∉ H.take n := fun hm => by have := great_pos hm; omega
        rw [List.idxOf_append, if_neg hno]
        simp
        omega
      rw [e3] at ih
      exact ih
    · refine ev_neg h ?_
      have e2 : great (H.take (n + 1)) = great (H.take n) := by rw [hg]; unfold mx; split <;> omega
      have e3 : hiI (H.take (n + 1)) = hiI (H.take n) := by
        rw [hiI, e2, ht, List.idxOf_append, if_pos (great_mem hne hpt)]
        rfl
      rw [e3] at ih
      exact ih
theorem l06Highest_ev (H : List Int) (hl : H.length ≤ 1048576) (h0 : 1 ≤ H.length) (hp : ∀ x ∈ H, 0 ≤ x) : Ev (fun k => spec_l06Highest.f k H) (hiI H) := by
  unfold spec_l06Highest.f
  have := l06Highest_l0 H hl hp (H.length - 1) 1 (by omega) (by omega)
  have e : hiI (H.take 1) = 0 := by
    cases H with
    | nil => simp at h0
    | cons y l =>
      have hy := hp y List.mem_cons_self
      have : great [y] = y := by show mx 0 y = y; unfold mx; split <;> omega
      simp [hiI, this]
  rw [e] at this
  exact this
theorem l06Fastest_l0 (R H : List Int) (x : Int) (hs : H.length ≤ 1048576) (hl : H.length ≤ R.length) (r : Int) : ∀ (d n : Nat) (b : Int), n + d = H.length → (b = -1 ∨ (0 ≤ b ∧ b < (n : Int))) → speedT R x (H.drop n) (n : Int) b = r → Ev (fun k => spec_l06Fastest.l0 k H x b (n : Int) R) r := by
  intro d
  induction d with
  | zero =>
    intro n b hn hb hr
    refine Ev.step (fun k => by rw [spec_l06Fastest.l0]) (ev_neg (by omega) (ev_is ?_))
    rw [List.drop_of_length_le (by omega), speedT] at hr
    rw [hr]
  | succ d ih =>
    intro n b hn hb hr
    have hlt : n < H.length := by omega
    rw [drop_rdG hlt, speedT] at hr
    refine Ev.step (fun k => by rw [spec_l06Fastest.l0]) (ev_pos (by omega) (ev_pos (by omega) ?_))
    rw [wrap_succ (by omega)]
    have hc : ((n : Int) + 1) = ((n + 1 : Nat) : Int) := by omega
    rw [hc] at hr
    by_cases h1 : rd H (n : Int) ≥ x
    · refine ev_pos h1 ?_
      by_cases h2 : b < 0
      · have hb1 : b = -1 := by omega
        rw [if_pos ⟨h1, .inl hb1⟩] at hr
        exact ev_pos h2 (ih (n + 1) _ (by omega) (.inr ⟨by omega, by omega⟩) hr)
      · refine ev_neg h2 (ev_pos (by omega) (ev_pos (by omega) (ev_pos (by omega) ?_)))
        by_cases h3 : rd R (n : Int) > rd R b
        · rw [if_pos ⟨h1, .inr h3⟩] at hr
          exact ev_pos h3 (ih (n + 1) _ (by omega) (.inr ⟨by omega, by omega⟩) hr)
        · rw [if_neg (by rintro ⟨_, q | q⟩; omega; exact h3 q)] at hr
          exact ev_neg h3 (ih (n + 1) _ (by omega) (by omega) hr)
    · rw [if_neg (fun q => h1 q.1)] at hr
      exact ev_neg h1 (ih (n + 1) _ (by omega) (by omega) hr)
theorem l06Fastest_ev (R H : List Int) (x : Int) (hs : H.length ≤ 1048576) (hl : H.length ≤ R.length) : Ev (fun k => spec_l06Fastest.f k R H x) (speedT R x H 0 (-1)) := by
  unfold spec_l06Fastest.f
  exact l06Fastest_l0 R H x hs hl _ H.length 0 (-1) (by omega) (.inl rfl) rfl
/-- what the rule of speed cuts: none exactly if no plant is high enough -/
theorem speedT_spec (R H : List Int) (x : Int) : ∀ (d n : Nat) (b : Int), n + d = H.length → ((b = -1 ∧ ∀ i : Nat, i < n → rd H (i : Int) < x) ∨ (0 ≤ b ∧ b < (n : Int) ∧ x ≤ rd H b)) →
    (speedT R x (H.drop n) (n : Int) b = -1 ∧ ∀ i : Nat, i < H.length → rd H (i : Int) < x) ∨ (0 ≤ speedT R x (H.drop n) (n : Int) b ∧ speedT R x (H.drop n) (n : Int) b < (H.length : Int) ∧ x ≤ rd H (speedT R x (H.drop n) (n : Int) b)) := by
  intro d
  induction d with
  | zero =>
    intro n b hn h
    rw [List.drop_of_length_le (by omega), speedT]
    have : n = H.length := by omega
    rw [this] at h
    exact h
  | succ d ih =>
    intro n b hn h
    have hlt : n < H.length := by omega
    rw [drop_rdG hlt, speedT, show ((n : Int) + 1) = ((n + 1 : Nat) : Int) by omega]
    by_cases c : x ≤ rd H (n : Int) ∧ (b = -1 ∨ rd R b < rd R (n : Int))
    · rw [if_pos c]
      exact ih (n + 1) _ (by omega) (.inr ⟨by omega, by omega, c.1⟩)
    · rw [if_neg c]
      refine ih (n + 1) _ (by omega) ?_
      rcases h with ⟨h1, h2⟩ | ⟨h1, h2, h3⟩
      · refine .inl ⟨h1, fun i hi => ?_⟩
        by_cases e : i = n
        · subst e
          have : ¬ x ≤ rd H (i : Int) := fun q => c ⟨q, .inl h1⟩
          omega
        · exact h2 i (by omega)
      · exact .inr ⟨h1, by omega, h3⟩
theorem speed_rd (R H : List Int) (x : Int) : (speedT R x H 0 (-1) = -1 ∧ ∀ y ∈ H, y < x) ∨ (0 ≤ speedT R x H 0 (-1) ∧ speedT R x H 0 (-1) < (H.length : Int) ∧ x ≤ rd H (speedT R x H 0 (-1))) := by
  have h := speedT_spec R H x H.length 0 (-1) (by omega) (.inl ⟨rfl, fun i hi => by omega⟩)
  rw [List.drop_zero] at h
  rcases h with ⟨h1, h2⟩ | h
  · refine .inl ⟨h1, fun y hy => ?_⟩
    obtain ⟨i, hi, rfl⟩ := List.getElem_of_mem hy
    have := h2 i hi
    rwa [rd_nat hi] at this
  · exact .inr h
end Go.Proofs.Ytgmciimgmnnhmaa.Pure
end
section
namespace Go.Proofs.Ytgmciimgmnnhmaa.Pure
open Go.RowKit Go.Proofs.Ytgmciimgmnnhmaa.P Go.Proofs.YtgmciimgmnnhmaaW.PrintWords Go.Proofs.YtgmciimgmnnhmaaW.PrintLast Go.Proofs.YtgmciimgmnnhmaaW.PrintMore
set_option linter.unusedVariables false
set_option linter.unusedSimpArgs false
theorem GardenOf_l0 {b : List Int} (hb : Bytes b) (x4 : Int) (h4 : 1 ≤ x4 ∧ x4 ≤ 20) : ∀ (d : Nat) (l : List Int) (i h : Int), d ≤ 1000 → l.length + d ≤ 1000 → (∀ y ∈ l, 1 ≤ y ∧ y ≤ 20) → Ok b i →
    EvP (fun k => spec_l06DrawOf.l0 k x4 (d : Int) b i h l) (fun r => r.1.length = l.length + d ∧ (∀ y ∈ r.1, 1 ≤ y ∧ y ≤ 20) ∧ Ok b r.2.1) := by
  intro d
  induction d with
  | zero =>
    intro l i h _ _ hy hi
    exact evp_step (fun k => by rw [spec_l06DrawOf.l0]) (evp_neg (by omega) (evp_now ⟨rfl, hy, hi⟩))
  | succ d ih =>
    intro l i h hd hl hy hi
    refine evp_step (fun k => by rw [spec_l06DrawOf.l0]) (evp_pos (by omega) (evp_next hb hi fun v i2 h2 v0 v1 v2 hi2 => evp_pos (show l.length < 17592186044416 by omega) ?_))
    have hv := v1 h4.1
    rw [wrap_id (x := ((d + 1 : Nat) : Int) - 1) (by omega) (by omega), show ((d + 1 : Nat) : Int) - 1 = (d : Int) by omega, wrap_id (x := 1 + v) (by omega) (by omega)]
    refine evp_mono (ih _ i2 h2 (by omega) (by rw [List.length_append, List.length_singleton]; omega) (fun y hm => by
      rcases List.mem_append.1 hm with hm | hm
      · exact hy y hm
      · rw [List.mem_singleton.1 hm]; omega) hi2) ?_
    rintro r ⟨r1, r2⟩
    rw [List.length_append, List.length_singleton] at r1
    exact ⟨by omega, r2⟩
theorem GardenOf_evp {b : List Int} (hb : Bytes b) {i : Int} (hi : Ok b i) (h : Int) : EvP (fun k => spec_l06DrawOf.f k b i h) (fun r => (1 ≤ r.1.length ∧ r.1.length ≤ 8) ∧ (∀ y ∈ r.1, 1 ≤ y ∧ y ≤ 20) ∧ Ok b r.2.1) := by
  unfold spec_l06DrawOf.f
  refine evp_pick hb hi (by decide) fun p i2 h2 hp hi2 => evp_pick hb hi2 (by decide) fun q i3 h3 hq hi3 => evp_next hb hi3 fun v i4 h4 v0 v1 v2 hi4 => ?_
  have hp2 : 1 ≤ p ∧ p ≤ 20 := by simp at hp; omega
  have hq2 : 1 ≤ q ∧ q ≤ 8 := by simp at hq; omega
  have hv := v1 (by omega)
  obtain ⟨m, rfl⟩ : ∃ m : Nat, v = m := ⟨v.toNat, by omega⟩
  show EvP (fun k => spec_l06DrawOf.l0 k p (wrap64 (1 + (m : Int))) b i4 h4 []) _
  rw [wrap_id (by omega) (by omega), show 1 + (m : Int) = ((m + 1 : Nat) : Int) by omega]
  refine evp_mono (GardenOf_l0 hb p hp2 (m + 1) [] i4 h4 (by omega) (by simp; omega) (fun y hy => by cases hy) hi4) ?_
  rintro r ⟨r1, r2, r3⟩
  rw [List.length_nil] at r1
  exact ⟨by omega, r2, r3⟩
theorem GardenBad_evp {b : List Int} (hb : Bytes b) {i : Int} (hi : Ok b i) (h : Int) (l : List Int) (hl : l.length ≤ 8) {β : Type} {f : Nat → List Int × Int × Int → Option β} {P : β → Prop}
    (k : ∀ r : List Int × Int × Int, r.1.length ≤ 1000 → Ok b r.2.1 → EvP (fun m => f m r) P) : EvP (fun m => (spec_l06Bad.f b i h l).bind (f m)) P := by
  obtain ⟨v, i2, h2, e, v0, v1, v2, hi2⟩ := next_f hb hi h 40
  by_cases c0 : v = 0
  · obtain ⟨u, i3, h3, e2, u0, u1, u2, hi3⟩ := next_f hb hi2 h2 (([0, 21, (-1)] : List Int).length : Int)
    have hu : u < 3 := u1 (by show (1 : Int) ≤ 3; decide)
    refine evp_fix (a := (l ++ [rd [0, 21, (-1)] u], i3, h3)) ?_ (k _ (by show (l ++ [rd [0, 21, (-1)] u]).length ≤ 1000; rw [List.length_append, List.length_singleton]; omega) hi3)
    unfold spec_l06Bad.f
    rw [e, Option.bind_some, if_pos c0, l01Own_f l (by omega), Option.bind_some]
    unfold spec_l01Pick.f
    rw [e2, Option.bind_some, if_pos u0, if_pos (show u < (([0, 21, (-1)] : List Int).length : Int) from hu), Option.bind_some, if_pos (by omega)]
  · by_cases c1 : v = 1
    · refine evp_fix (a := ([], i2, h2)) ?_ (k _ (by simp) hi2)
      unfold spec_l06Bad.f
      rw [e, Option.bind_some, if_neg c0, if_pos c1]
    · refine evp_fix (a := (l, i2, h2)) ?_ (k _ (by show l.length ≤ 1000; omega) hi2)
      unfold spec_l06Bad.f
      rw [e, Option.bind_some, if_neg c0, if_neg c1]
theorem l06Same_l0 (a c : List Int) (hl : a.length ≤ 1048576) (he : a.length = c.length) : ∀ d n : Nat, n + d = a.length → a.take n = c.take n → Ev (fun k => spec_l06Same.l0 k a c (n : Int)) (decide (a = c)) := by
  intro d
  induction d with
  | zero =>
    intro n hn ht
    refine Ev.step (fun k => by rw [spec_l06Same.l0]) (ev_neg (by omega) (ev_is ?_))
    rw [List.take_of_length_le (by omega), List.take_of_length_le (by omega)] at ht
    rw [decide_eq_true ht]
  | succ d ih =>
    intro n hn ht
    have h1 : n < a.length := by omega
    have h2 : n < c.length := by omega
    refine Ev.step (fun k => by rw [spec_l06Same.l0]) (ev_pos (by omega) (ev_pos (by omega) (ev_pos (by omega) ?_)))
    rw [rd_nat h1, rd_nat h2, wrap_succ (by omega)]
    by_cases h : a[n] = c[n]
    · refine ev_pos h (ih (n + 1) (by omega) ?_)
      rw [List.take_succ_eq_append_getElem h1, List.take_succ_eq_append_getElem h2, ht, h]
    · refine ev_neg h (ev_is ?_)
      rw [decide_eq_false]
      intro e
      subst e
      exact h rfl
theorem l06Same_ev (a c : List Int) (hl : a.length ≤ 1048576) (he : a.length = c.length) : Ev (fun k => spec_l06Same.f k a c) (decide (a = c)) := by
  unfold spec_l06Same.f
  exact l06Same_l0 a c hl he a.length 0 (by omega) (by simp)
theorem Round_l1 (R : List Int) (x : Int) (all : List (List Int)) (cuts t : List Int) (n : Nat) (hn : n < 200) (hR : R.length ≤ 1000) (ht : t.length = R.length) (ha : all.length = n + 1) (hr : ∀ y ∈ all, y.length = R.length) (hc : cuts.length = n + 1)
    (P : List Int × Int × Bool → Prop) (hP : ∀ j : Nat, j ≤ n → P (cuts.drop j, (j : Int), true)) (hnext : EvP (fun k => spec_l06Round.l0 k x (all ++ [t]) cuts ((n + 1 : Nat) : Int) R) P) :
    ∀ d j : Nat, j + d = n + 1 → EvP (fun k => spec_l06Round.l1 k x all cuts (n : Int) t (j : Int) R) P := by
  intro d
  induction d with
  | zero =>
    intro j hj
    refine evp_step (fun k => by rw [spec_l06Round.l1]) (evp_neg (by omega) (evp_pos (by omega) ?_))
    rw [wrap_succ (by omega)]
    exact hnext
  | succ d ih =>
    intro j hj
    have hlt : j < all.length := by omega
    have e : rd_L2 all (j : Int) = all[j] := by simp [rd_L2, hlt]
    have hy := hr all[j] (List.getElem_mem hlt)
    refine evp_step (fun k => by rw [spec_l06Round.l1]) (evp_pos (by omega) (evp_pos (by omega) (evp_pos (by omega) ?_)))
    rw [e, wrap_succ (by omega)]
    refine evp_ev (l06Same_ev all[j] t (by omega) (by omega)) (evp_ite (fun _ => evp_pos (by omega) ?_) (fun _ => ih (j + 1) (by omega)))
    rw [Int.toNat_natCast]
    exact evp_fix (l01Own_f _ (by rw [List.length_drop]; omega)) (evp_now (hP j (by omega)))
theorem Round_l0 (R : List Int) (x : Int) (hR : 1 ≤ R.length ∧ R.length ≤ 1000) (hb : ∀ y ∈ R, 1 ≤ y ∧ y ≤ 20) : ∀ (d n : Nat) (all : List (List Int)) (cuts : List Int), n + d = 200 → all.length = n + 1 → (∀ y ∈ all, y.length = R.length ∧ ∀ z ∈ y, 0 ≤ z ∧ z ≤ 20 * n) → cuts.length = n →
    EvP (fun k => spec_l06Round.l0 k x all cuts (n : Int) R) (fun r => r.2.2 = true → 1 ≤ r.1.length ∧ r.1.length ≤ 200) := by
  intro d
  induction d with
  | zero =>
    intro n all cuts hn _ _ _
    exact evp_step (fun k => by rw [spec_l06Round.l0]) (evp_neg (by omega) (evp_now (fun h => by cases h)))
  | succ d ih =>
    intro n all cuts hn ha hr hc
    have hlt : n < all.length := by omega
    have e : rd_L2 all (n : Int) = all[n] := by simp [rd_L2, hlt]
    obtain ⟨hy, hz⟩ := hr all[n] (List.getElem_mem hlt)
    have hg := l06Grow_ev R all[n] 1 (by omega) (by omega)
    have hgl := grT_length (R := R) (H := all[n]) 1 hy
    have hgn : ∀ z ∈ grT R all[n] 1, 0 ≤ z ∧ z ≤ 20 * ((n + 1 : Nat) : Int) := by
      intro z hz2
      unfold grT at hz2
      obtain ⟨i, hi, rfl⟩ := List.getElem_of_mem hz2
      rw [List.length_zipWith] at hi
      rw [List.getElem_zipWith]
      have q1 := hb R[i] (List.getElem_mem (by omega))
      have q2 := hz all[n][i] (List.getElem_mem (by omega))
      rw [Int.mul_one, wrap_id (x := R[i]) (by omega) (by omega), wrap_id (x := all[n][i] + R[i]) (by omega) (by omega)]
      omega
    generalize grT R all[n] 1 = t at hg hgl hgn
    have hh := l06Highest_ev t (by omega) (by omega) (fun z hz => (hgn z hz).1)
    have hhi := hiI_rd (H := t) (by intro e; subst e; simp at hgl; omega) (fun z hz => (hgn z hz).1)
    have next : ∀ (c : Int) (t2 : List Int), t2.length = R.length → (∀ z ∈ t2, 0 ≤ z ∧ z ≤ 20 * ((n + 1 : Nat) : Int)) → EvP (fun k => spec_l06Round.j2 k x all cuts (n : Int) t2 c R) (fun r => r.2.2 = true → 1 ≤ r.1.length ∧ r.1.length ≤ 200) := by
      intro c t2 h1 h2
      refine evp_step (fun k => by rw [spec_l06Round.j2]) (evp_pos (by omega) ?_)
      have := Round_l1 R x all (cuts ++ [c]) t2 n (by omega) hR.2 h1 ha (fun y hy => (hr y hy).1) (by simp; omega) (fun r => r.2.2 = true → 1 ≤ r.1.length ∧ r.1.length ≤ 200) (fun j hj _ => by
        show 1 ≤ ((cuts ++ [c]).drop j).length ∧ ((cuts ++ [c]).drop j).length ≤ 200
        rw [List.length_drop, List.length_append, List.length_singleton]
        omega) (ih (n + 1) _ _ (by omega) (by simp; omega) (fun y hy => by
        rcases List.mem_append.1 hy with hy | hy
        · obtain ⟨q1, q2⟩ := hr y hy
          exact ⟨q1, fun z hz => by have := q2 z hz; omega⟩
        · rw [List.mem_singleton.1 hy]
          exact ⟨h1, h2⟩) (by simp; omega)) (n + 1) 0 (by omega)
      exact this
    have cut : ∀ c : Int, (c = -1 ∨ (0 ≤ c ∧ c < (t.length : Int))) → EvP (fun k => spec_l06Round.j1 k x all cuts (n : Int) t c R) (fun r => r.2.2 = true → 1 ≤ r.1.length ∧ r.1.length ≤ 200) := by
      intro c h
      refine evp_step (fun k => by rw [spec_l06Round.j1]) (evp_ite (fun h0 => evp_pos (by omega) (evp_pos (by omega) (next c _ (by rw [List.length_set]; exact hgl) fun z hz => ?_))) (fun _ => next c t hgl hgn))
      rcases List.mem_or_eq_of_mem_set hz with hz | rfl
      · exact hgn z hz
      · omega
    refine evp_step (fun k => by rw [spec_l06Round.l0]) (evp_pos (by omega) (evp_pos (by omega) (evp_pos (by omega) ?_)))
    rw [e]
    refine evp_ev hg (evp_ev hh (evp_ite (fun _ => evp_ev (l06Fastest_ev R t x (by omega) (by omega)) (cut _ ?_)) (fun _ => cut _ (.inr ⟨hhi.1, hhi.2.1⟩))))
    rcases speed_rd R t x with q | q
    · exact .inl q.1
    · exact .inr ⟨q.1, q.2.1⟩
theorem Round_evp (R : List Int) (x : Int) (hR : 1 ≤ R.length ∧ R.length ≤ 1000) (hb : ∀ y ∈ R, 1 ≤ y ∧ y ≤ 20) : EvP (fun k => spec_l06Round.f k R x) (fun r => r.2.2 = true → 1 ≤ r.1.length ∧ r.1.length ≤ 200) := by
  unfold spec_l06Round.f
  refine evp_pos (by omega) (evp_pos (by omega) ?_)
  rw [Int.toNat_natCast]
  exact Round_l0 R x hR hb 200 0 _ _ (by omega) rfl (fun y hy => by
    rw [List.mem_singleton.1 hy]
    refine ⟨List.length_replicate, fun z hz => ?_⟩
    rw [List.eq_of_mem_replicate hz]
    omega) rfl
theorem Given_evp {b : List Int} (hb : Bytes b) : EvP (fun k => spec_l06Given.f k b) (fun r => r.1.length ≤ 1000 ∧ r.2.length ≤ 1000) := by
  unfold spec_l06Given.f
  refine evp_from hb fun h => evp_bind (GardenOf_evp hb (ok_start b) h) ?_
  rintro ⟨R, i2, h2⟩ ⟨hR, hR2, hi2⟩
  have hR : 1 ≤ R.length ∧ R.length ≤ 8 := hR
  refine evp_bind (DrawTurns_evp hb hi2 h2 (R.length : Int)) ?_
  rintro ⟨T, i3, h3⟩ ⟨hT, hi3, _⟩
  have hT : 1 ≤ T.length ∧ T.length ≤ 120 := hT
  refine evp_bind (Round_evp R 0 (by omega) hR2) ?_
  rintro ⟨O, day, ok⟩ hO
  have j0 : ∀ (c : Bool) (i h : Int), (c = true → ok = true) → Ok b i → EvP (fun k => spec_l06Given.j0 k T O c b i h R) (fun r => r.1.length ≤ 1000 ∧ r.2.length ≤ 1000) := by
    intro c i h hc hi
    refine evp_step (fun k => by rw [spec_l06Given.j0]) (evp_ite (fun hc2 => ?_) (fun _ => ?_))
    · have := hO (hc hc2)
      have hO1 : 1 ≤ O.length ∧ O.length ≤ 200 := this
      exact GardenBad_evp hb hi h R hR.2 fun r hr hi4 => evp_bind (BadTurns_evp hb hi4 _ O (by omega)) fun q hq => evp_now ⟨hr, hq.1⟩
    · exact GardenBad_evp hb hi h R hR.2 fun r hr hi4 => evp_bind (BadTurns_evp hb hi4 _ T (by omega)) fun q hq => evp_now ⟨hr, hq.1⟩
  refine evp_ite (fun hk => evp_ite (fun _ => evp_next hb hi3 fun v i4 h4 v0 v1 v2 hi4 => j0 _ i4 h4 (fun _ => hk) hi4) (fun _ => j0 false i3 h3 (fun q => by cases q) hi3)) (fun _ => j0 false i3 h3 (fun q => by cases q) hi3)
theorem With_l0 {b : List Int} (hb : Bytes b) (x7 : Int) (R : List Int) (hR : 1 ≤ R.length ∧ R.length ≤ 8) : ∀ (d n : Nat) (H : List Int) (i h : Int), n + d = R.length → H.length = n → Ok b i →
    EvP (fun k => spec_l06With.l0 k H x7 (n : Int) b i h R) (fun r => r.1.length ≤ 1000 ∧ r.2.length ≤ 1000) := by
  intro d
  induction d with
  | zero =>
    intro n H i h hn hH hi
    refine evp_step (fun k => by rw [spec_l06With.l0]) (evp_neg (by omega) (evp_next hb hi fun v i2 h2 v0 v1 v2 hi2 => evp_ite (fun _ => ?_) (fun _ => ?_)))
    · refine evp_pick hb hi2 (by decide) fun p i3 h3 hp hi3 => evp_pos (by omega) (GardenBad_evp hb hi3 h3 R hR.2 fun r hr _ => evp_now ⟨hr, ?_⟩)
      show (H.set _ _).length ≤ 1000
      rw [List.length_set]
      omega
    · exact GardenBad_evp hb hi2 h2 R hR.2 fun r hr _ => evp_now ⟨hr, by show H.length ≤ 1000; omega⟩
  | succ d ih =>
    intro n H i h hn hH hi
    refine evp_step (fun k => by rw [spec_l06With.l0]) (evp_pos (by omega) (evp_next hb hi fun v i2 h2 v0 v1 v2 hi2 => evp_pos (show H.length < 17592186044416 by omega) ?_))
    rw [wrap_succ (by omega)]
    exact ih (n + 1) _ i2 h2 (by omega) (by simp; omega) hi2
theorem With_evp {b : List Int} (hb : Bytes b) : EvP (fun k => spec_l06With.f k b) (fun r => r.1.length ≤ 1000 ∧ r.2.length ≤ 1000) := by
  unfold spec_l06With.f
  refine evp_from hb fun h => evp_bind (GardenOf_evp hb (ok_start b) h) ?_
  rintro ⟨R, i2, h2⟩ ⟨hR, _, hi2⟩
  have hR : 1 ≤ R.length ∧ R.length ≤ 8 := hR
  exact evp_pick hb hi2 (by decide) fun p i3 h3 hp hi3 => With_l0 hb p R hR R.length 0 [] i3 h3 (by omega) rfl hi3
theorem DrawTowerOf_evp {b : List Int} (hb : Bytes b) : EvP (fun k => spec_DrawTowerOf.f k b) (fun r => r.1.length ≤ 1000 ∧ r.2.length ≤ 1000) := by
  unfold spec_DrawTowerOf.f
  exact evp_bind (Given_evp hb) fun r hr => evp_now hr
theorem DrawHeightsBehind_evp {b : List Int} (hb : Bytes b) : EvP (fun k => spec_DrawHeightsBehind.f k b) (fun r => r.1.length ≤ 1000 ∧ r.2.1.length ≤ 1000) := by
  unfold spec_DrawHeightsBehind.f
  exact evp_from hb fun h => evp_bind (Given_evp hb) fun r hr => evp_pick hb (ok_start b) (by decide) fun p i2 h2 hp hi2 => evp_near hb hi2 fun v i3 h3 _ _ => evp_now hr
theorem DrawGrowDays_evp {b : List Int} (hb : Bytes b) : EvP (fun k => spec_DrawGrowDays.f k b) (fun r => r.1.length ≤ 1000 ∧ r.2.1.length ≤ 1000) := by
  unfold spec_DrawGrowDays.f
  exact evp_from hb fun h => evp_bind (With_evp hb) fun r hr => evp_pick hb (ok_start b) (by decide) fun p i2 h2 hp hi2 => evp_near hb hi2 fun v i3 h3 _ _ => evp_now hr
theorem DrawCutBySpeed_evp {b : List Int} (hb : Bytes b) : EvP (fun k => spec_DrawCutBySpeed.f k b) (fun r => r.1.length ≤ 1000 ∧ r.2.1.length ≤ 1000) := by
  unfold spec_DrawCutBySpeed.f
  exact evp_from hb fun h => evp_bind (With_evp hb) fun r hr => evp_near hb (ok_start b) fun v i2 h2 hi2 _ => evp_pick hb hi2 (by simp) fun p i3 h3 hp hi3 => evp_now hr
end Go.Proofs.Ytgmciimgmnnhmaa.Pure
end
section
namespace Go.Proofs.Ytgmciimgmnnhmaa.Pure
open Go.RowKit Go.Proofs.Ytgmciimgmnnhmaa.P Go.Proofs.YtgmciimgmnnhmaaW.PrintWords Go.Proofs.YtgmciimgmnnhmaaW.PrintLast Go.Proofs.YtgmciimgmnnhmaaW.PrintMore
set_option linter.unusedVariables false
set_option linter.unusedSimpArgs false
theorem posOf_rd {x : Int} {l : List Int} {i : Nat} (h : i < (posOf x 0 l).length) : 0 ≤ rd (posOf x 0 l) i ∧ rd (posOf x 0 l) i < l.length := by
  rw [rd_nat h]
  have := posOf_range x l 0 _ (List.getElem_mem h)
  omega
theorem l01Waits_l0 (l : List Int) (x : Int) (hl : l.length ≤ 1048576) : ∀ d n : Nat, n + d = l.length →
    Ev (fun k => spec_l01Waits.l0 k l x (diffs (posOf x 0 (l.take n))) ((posOf x 0 (l.take n)).headD (-1)) ((posOf x 0 (l.take n)).getLastD (-1)) (n : Int)) (waitsOf l x) := by
  intro d
  induction d with
  | zero =>
    intro n hn
    rw [List.take_of_length_le (by omega)]
    refine Ev.step (fun k => by rw [spec_l01Waits.l0]) (ev_neg (by omega) ?_)
    have hlen := posOf_length x l 0
    by_cases hp : posOf x 0 l = []
    · rw [hp]
      refine ev_neg (by simp) (ev_is ?_)
      simp [waitsOf, hp, diffs]
    · have h1 := posOf_range x l 0 _ (headD_mem hp (-1))
      have h2 := posOf_range x l 0 _ (getLastD_mem hp (-1))
      refine ev_pos (by omega) (ev_pos (by rw [diffs_length]; omega) (ev_is ?_))
      rw [wrap_id (x := (l.length : Int) - _) (by omega) (by omega), wrap_id (by omega) (by omega), waitsOf, if_neg hp]
  | succ d ih =>
    intro n hn
    have hlt : n < l.length := by omega
    refine Ev.step (fun k => by rw [spec_l01Waits.l0]) (ev_pos (by omega) (ev_pos (by omega) ?_))
    rw [rd_nat hlt, wrap_succ (by omega)]
    have ih := ih (n + 1) (by omega)
    rw [posOf_take_succ x l n hlt] at ih
    have hlen := posOf_length x (l.take n) 0
    rw [List.length_take] at hlen
    by_cases hx : l[n] = x
    · rw [if_pos hx] at ih
      refine ev_pos hx ?_
      by_cases hp : posOf x 0 (l.take n) = []
      · rw [hp] at ih ⊢
        exact ev_pos (by simp) (by simpa [diffs] using ih)
      · have h1 := posOf_range x (l.take n) 0 _ (headD_mem hp (-1))
        have h2 := posOf_range x (l.take n) 0 _ (getLastD_mem hp (-1))
        rw [List.length_take] at h1 h2
        refine ev_neg (by omega) (ev_pos (by rw [diffs_length]; omega) ?_)
        rw [wrap_id (by omega) (by omega)]
        rw [diffs_snoc _ _ (-1) hp] at ih
        have e1 : (posOf x 0 (l.take n) ++ [(n : Int)]).headD (-1) = (posOf x 0 (l.take n)).headD (-1) := by
          cases h : posOf x 0 (l.take n) with
          | nil => exact absurd h hp
          | cons => rfl
        have e2 : (posOf x 0 (l.take n) ++ [(n : Int)]).getLastD (-1) = (n : Int) := by simp
        rw [e1, e2] at ih
        exact ih
    · rw [if_neg hx, List.append_nil] at ih
      exact ev_neg hx ih
theorem l01Waits_ev (l : List Int) (x : Int) (hl : l.length ≤ 1048576) : Ev (fun k => spec_l01Waits.f k l x) (waitsOf l x) := by
  unfold spec_l01Waits.f
  simpa [posOf, diffs] using l01Waits_l0 l x hl l.length 0 (by omega)
theorem Waits_impl_l1 (l : List Int) (x : Int) (hl : l.length ≤ 1048576) : ∀ d n : Nat, n + d = (posOf x 0 l).length →
    Ev (fun k => impl_waits.l1 k l (posOf x 0 l) ((waitsOf l x).take n) (posOf x 0 l) ((posOf x 0 l).length : Int) (n : Int)) (waitsOf l x) := by
  intro d
  induction d with
  | zero =>
    intro n hn
    rw [List.take_of_length_le (by rw [waitsOf_length]; omega)]
    exact Ev.step (fun k => by rw [impl_waits.l1]) (ev_neg (by omega) (ev_now _))
  | succ d ih =>
    intro n hn
    have hlen := posOf_length x l 0
    have hlt : n < (posOf x 0 l).length := by omega
    have hp : posOf x 0 l ≠ [] := fun h => by rw [h] at hlt; simp at hlt
    have hb := posOf_rd hlt
    have ht : ((waitsOf l x).take n).length < 17592186044416 := by rw [List.length_take, waitsOf_length]; omega
    refine Ev.step (fun k => by rw [impl_waits.l1]) (ev_pos (by omega) (ev_pos (by omega) (ev_pos (by omega) ?_)))
    rw [wrap_succ (by omega)]
    have hlt2 : n < (waitsOf l x).length := by rw [waitsOf_length]; exact hlt
    have ih := ih (n + 1) (by omega)
    rw [List.take_succ_eq_append_getElem hlt2] at ih
    by_cases h1 : n + 1 < (posOf x 0 l).length
    · have hb1 := posOf_rd h1
      refine ev_pos (by omega) (ev_pos (by omega) (ev_pos ht ?_))
      rw [wrap_id (by omega) (by omega)]
      have e : (waitsOf l x)[n] = rd (posOf x 0 l) ((n + 1 : Nat) : Int) - rd (posOf x 0 l) (n : Int) := by
        have h2 : (waitsOf l x)[n]? = some (rd (posOf x 0 l) ((n + 1 : Nat) : Int) - rd (posOf x 0 l) (n : Int)) := by
          rw [waitsOf, if_neg hp, List.getElem?_append_left (by rw [diffs_length]; omega), diffs_get _ _ h1]
          simp only [rd, Int.toNat_natCast]
        rw [List.getElem?_eq_getElem hlt2] at h2
        exact Option.some.inj h2
      rw [e] at ih
      exact ih
    · have hb0 := posOf_rd (x := x) (l := l) (i := 0) (by omega)
      refine ev_neg (by omega) (ev_pos (by omega) (ev_fix (show impl_length_int64.f l = some (l.length : Int) from rfl) (ev_pos ht ?_)))
      have hb0 : 0 ≤ rd (posOf x 0 l) 0 ∧ rd (posOf x 0 l) 0 < l.length := hb0
      rw [wrap_id (x := rd (posOf x 0 l) 0 + _) (by omega) (by omega), wrap_id (by omega) (by omega)]
      have e : (waitsOf l x)[n] = rd (posOf x 0 l) 0 + (l.length : Int) - rd (posOf x 0 l) (n : Int) := by
        have h2 : (waitsOf l x)[n]? = some (rd (posOf x 0 l) 0 + (l.length : Int) - rd (posOf x 0 l) (n : Int)) := by
          have hn1 : n = (diffs (posOf x 0 l)).length := by rw [diffs_length]; omega
          rw [waitsOf, if_neg hp, List.getElem?_append_right (by omega), show n - (diffs (posOf x 0 l)).length = 0 by omega, List.getElem?_cons_zero]
          congr 1
          have e1 : (posOf x 0 l).headD (-1) = rd (posOf x 0 l) 0 := by
            cases h : posOf x 0 l with
            | nil => exact absurd h hp
            | cons => rfl
          have e2 : (posOf x 0 l).getLastD (-1) = rd (posOf x 0 l) (n : Int) := by
            rw [rd_nat hlt, List.getLastD_eq_getLast?, List.getLast?_eq_getElem?, show (posOf x 0 l).length - 1 = n by omega, List.getElem?_eq_getElem hlt]
            rfl
          rw [e1, e2]
          omega
        rw [List.getElem?_eq_getElem hlt2] at h2
        exact Option.some.inj h2
      rw [e] at ih
      exact ih
theorem Waits_impl_l0 (l : List Int) (x : Int) (hl : l.length ≤ 1048576) : ∀ d n : Nat, n + d = l.length →
    Ev (fun k => impl_waits.l0 k l x (posOf x 0 (l.take n)) l (l.length : Int) (n : Int)) (waitsOf l x) := by
  intro d
  induction d with
  | zero =>
    intro n hn
    rw [List.take_of_length_le (by omega)]
    refine Ev.step (fun k => by rw [impl_waits.l0]) (ev_neg (by omega) ?_)
    exact Waits_impl_l1 l x hl (posOf x 0 l).length 0 (by omega)
  | succ d ih =>
    intro n hn
    have hlt : n < l.length := by omega
    refine Ev.step (fun k => by rw [impl_waits.l0]) (ev_pos (by omega) (ev_pos (by omega) (ev_pos (by omega) ?_)))
    rw [rd_nat hlt, wrap_succ (by omega)]
    have ih := ih (n + 1) (by omega)
    rw [posOf_take_succ x l n hlt] at ih
    have hlen := posOf_length x (l.take n) 0
    rw [List.length_take] at hlen
    by_cases hx : l[n] = x
    · rw [if_pos hx] at ih
      exact ev_pos hx (ev_pos (by omega) ih)
    · rw [if_neg hx, List.append_nil] at ih
      exact ev_neg hx ih
theorem waits_ev (l : List Int) (x : Int) (hl : l.length ≤ 1048576) : Ev (fun k => impl_waits.f k l x) (waitsOf l x) := by
  unfold impl_waits.f
  simpa [posOf] using Waits_impl_l0 l x hl l.length 0 (by omega)
end Go.Proofs.Ytgmciimgmnnhmaa.Pure
end
section
namespace Go.Proofs.Ytgmciimgmnnhmaa.Pure
open Go.RowKit Go.Proofs.Ytgmciimgmnnhmaa.P Go.Proofs.YtgmciimgmnnhmaaW.PrintWords Go.Proofs.YtgmciimgmnnhmaaW.PrintLast Go.Proofs.YtgmciimgmnnhmaaW.PrintMore
set_option linter.unusedVariables false
set_option linter.unusedSimpArgs false
theorem Greatest_spec_l0 (l : List Int) (hl : l.length ≤ 1048576) : ∀ d n : Nat, n + d = l.length →
    Ev (fun k => spec_l01Greatest.l0 k l (great (l.take n)) (n : Int)) (great l) := by
  intro d
  induction d with
  | zero =>
    intro n hn
    rw [List.take_of_length_le (by omega)]
    exact Ev.step (fun k => by rw [spec_l01Greatest.l0]) (ev_neg (by omega) (ev_now _))
  | succ d ih =>
    intro n hn
    have hlt : n < l.length := by omega
    refine Ev.step (fun k => by rw [spec_l01Greatest.l0]) (ev_pos (by omega) (ev_pos (by omega) ?_))
    rw [rd_nat hlt, wrap_succ (by omega), ← great_take_succ l n hlt]
    exact ih (n + 1) (by omega)
theorem waitsOf_len (l : List Int) (x : Int) : (waitsOf l x).length ≤ l.length := by rw [waitsOf_length]; exact posOf_length x l 0
theorem l01Greatest_ev (l : List Int) (x : Int) (hl : l.length ≤ 1048576) : Ev (fun k => spec_l01Greatest.f k l x) (great (waitsOf l x)) := by
  unfold spec_l01Greatest.f
  exact ev_bind (l01Waits_ev l x hl) (Greatest_spec_l0 _ (by have := waitsOf_len l x; omega) (waitsOf l x).length 0 (by omega))
theorem greatest_l0 (l : List Int) (hl : l.length ≤ 1048576) : ∀ d n : Nat, n + d = l.length →
    Ev (fun k => impl_greatest.l0 k (great (l.take n)) l (l.length : Int) (n : Int)) (great l) := by
  intro d
  induction d with
  | zero =>
    intro n hn
    rw [List.take_of_length_le (by omega)]
    exact Ev.step (fun k => by rw [impl_greatest.l0]) (ev_neg (by omega) (ev_now _))
  | succ d ih =>
    intro n hn
    have hlt : n < l.length := by omega
    refine Ev.step (fun k => by rw [impl_greatest.l0]) (ev_pos (by omega) (ev_pos (by omega) (ev_pos (by omega) ?_)))
    rw [rd_nat hlt, wrap_succ (by omega), ← great_take_succ l n hlt]
    exact ih (n + 1) (by omega)
theorem greatest_ev (l : List Int) (hl : l.length ≤ 1048576) : Ev (fun k => impl_greatest.f k l) (great l) := by
  unfold impl_greatest.f
  exact greatest_l0 l hl l.length 0 (by omega)
end Go.Proofs.Ytgmciimgmnnhmaa.Pure
end
section
namespace Go.Proofs.Ytgmciimgmnnhmaa.Pure
set_option linter.unusedVariables false
set_option linter.unusedSimpArgs false
/-- the sum of f over the numbers below n -/
def sumN (f : Nat → Nat) : Nat → Nat
  | 0 => 0
  | n + 1 => sumN f n + f n
theorem sumN_add (f g : Nat → Nat) : ∀ n, sumN (fun x => f x + g x) n = sumN f n + sumN g n
  | 0 => rfl
  | n + 1 => by simp only [sumN, sumN_add f g n]; omega
theorem sumN_zero : ∀ n, sumN (fun _ => 0) n = 0
  | 0 => rfl
  | n + 1 => by simp only [sumN, sumN_zero n]
end Go.Proofs.Ytgmciimgmnnhmaa.Pure
end
section
namespace Go.Proofs.Ytgmciimgmnnhmaa.Pure
open Go.RowKit Go.Proofs.Ytgmciimgmnnhmaa.P Go.Proofs.YtgmciimgmnnhmaaW.PrintWords Go.Proofs.YtgmciimgmnnhmaaW.PrintLast Go.Proofs.YtgmciimgmnnhmaaW.PrintMore
set_option linter.unusedVariables false
set_option linter.unusedSimpArgs false
def sumI : List Int → Int
  | [] => 0
  | x :: l => x + sumI l
theorem sumI_append (a b : List Int) : sumI (a ++ b) = sumI a + sumI b := by
  induction a with
  | nil => simp [sumI]
  | cons y a ih => simp only [List.cons_append, sumI, ih]; omega
theorem sumI_diffs : ∀ (p : List Int) (d : Int), p ≠ [] → sumI (diffs p) = p.getLastD d - p.headD d
  | [], _, h => absurd rfl h
  | [a], _, _ => by simp [diffs, sumI]
  | a :: b :: t, d, _ => by
    have := sumI_diffs (b :: t) d (by simp)
    simp only [diffs, sumI, this]
    simp
    omega
theorem sum_waits {l : List Int} {x : Int} (h : posOf x 0 l ≠ []) : sumI (waitsOf l x) = (l.length : Int) := by
  rw [waitsOf, if_neg h, sumI_append, sumI_diffs _ (-1) h]
  simp only [sumI]
  omega
theorem diffs_le {B : Int} : ∀ (p : List Int), (∀ y ∈ p, 0 ≤ y ∧ y ≤ B) → ∀ y ∈ diffs p, y ≤ B
  | [], _, y, hy => by simp [diffs] at hy
  | [a], _, y, hy => by simp [diffs] at hy
  | a :: b :: t, h, y, hy => by
    have ha := h a List.mem_cons_self
    have hb := h b (List.mem_cons_of_mem _ List.mem_cons_self)
    simp only [diffs, List.mem_cons] at hy
    rcases hy with rfl | hy
    · omega
    · exact diffs_le (b :: t) (fun z hz => h z (List.mem_cons_of_mem _ hz)) y hy
theorem great_wait_le (l : List Int) (x : Int) : great (waitsOf l x) ≤ 2 * (l.length : Int) := by
  refine great_le (by omega) fun y hy => ?_
  unfold waitsOf at hy
  split at hy
  · cases hy
  · next h =>
    rcases List.mem_append.1 hy with hy | hy
    · have := diffs_le (B := (l.length : Int)) (posOf x 0 l) (fun z hz => by have := posOf_range x l 0 z hz; omega) y hy
      omega
    · have h1 := posOf_range x l 0 _ (headD_mem h (-1))
      have h2 := posOf_range x l 0 _ (getLastD_mem h (-1))
      rw [List.mem_singleton.1 hy]
      omega
theorem sumI_le_great (l : List Int) : ∀ (m : List Int), (∀ x ∈ m, x ≤ great l) → sumI m ≤ (m.length : Int) * great l
  | [], _ => by simp [sumI]
  | x :: m, h => by
    have h1 := h x List.mem_cons_self
    have h2 := sumI_le_great l m (fun y hy => h y (List.mem_cons_of_mem _ hy))
    simp only [sumI, List.length_cons]
    rw [show ((m.length + 1 : Nat) : Int) * great l = (m.length : Int) * great l + great l by rw [Int.natCast_add, Int.add_mul]; simp]
    omega
theorem len_wait {l : List Int} {x : Int} (h : waitsOf l x ≠ []) : (l.length : Int) ≤ ((posOf x 0 l).length : Int) * great (waitsOf l x) := by
  have hp : posOf x 0 l ≠ [] := fun e => h (by rw [waitsOf, if_pos e])
  have h1 := sumI_le_great (waitsOf l x) (waitsOf l x) (fun y hy => great_pos hy)
  rw [sum_waits hp, waitsOf_length] at h1
  exact h1
theorem posOf_count (x : Int) (l : List Int) : ∀ o, (posOf x o l).length = l.countP (fun y => decide (y = x)) := by
  induction l with
  | nil => intro o; rfl
  | cons y l ih =>
    intro o
    rw [posOf]
    by_cases h : y = x
    · rw [if_pos h, List.length_cons, ih, List.countP_cons_of_pos (by simpa using h)]
    · rw [if_neg h, ih, List.countP_cons_of_neg (by simpa using h)]
theorem one_of (y : Int) : ∀ n, sumN (fun i => if y = (i : Int) then 1 else 0) n ≤ 1 ∧ ((n : Int) ≤ y → sumN (fun i => if y = (i : Int) then 1 else 0) n = 0)
  | 0 => ⟨Nat.zero_le _, fun _ => rfl⟩
  | n + 1 => by
    obtain ⟨h1, h2⟩ := one_of y n
    simp only [sumN]
    by_cases h : y = (n : Int)
    · rw [if_pos h, h2 (by omega)]
      exact ⟨Nat.le_refl _, fun q => by omega⟩
    · rw [if_neg h]
      exact ⟨h1, fun q => h2 (by omega)⟩
theorem counts_le (l : List Int) (n : Nat) : sumN (fun i => l.countP (fun y => decide (y = (i : Int)))) n ≤ l.length := by
  induction l with
  | nil => simp [sumN_zero]
  | cons y l ih =>
    have e : (fun i : Nat => (y :: l).countP (fun z => decide (z = (i : Int)))) = fun i : Nat => l.countP (fun z => decide (z = (i : Int))) + (if y = (i : Int) then 1 else 0) := by
      funext i
      rw [List.countP_cons]
      by_cases h : y = (i : Int)
      · simp [h]
      · simp [h]
    rw [e, sumN_add]
    have := (one_of y n).1
    rw [List.length_cons]
    omega
theorem sumN_shift (f : Nat → Nat) : ∀ n, sumN f (n + 1) = f 0 + sumN (fun i => f (i + 1)) n
  | 0 => by simp [sumN]
  | n + 1 => by rw [sumN, sumN_shift f n]; simp only [sumN]; omega
theorem tower_sum (L t : Int) (c : Nat → Nat) (w : Nat → Int) : ∀ (R : List Int) (i : Nat), (∀ j (hj : j < R.length), 1 ≤ R[j] ∧ R[j] * w (i + j) ≤ t ∧ L ≤ (c (i + j) : Int) * w (i + j)) → sumI R * L ≤ t * (sumN (fun j => c (i + j)) R.length : Int)
  | [], i, _ => by simp [sumI, sumN]
  | r :: R, i, h => by
    obtain ⟨h1, h2, h3⟩ := h 0 (by simp)
    simp only [List.getElem_cons_zero, Nat.add_zero] at h1 h2 h3
    have ih := tower_sum L t c w R (i + 1) (fun j hj => by
      have := h (j + 1) (by simp; omega)
      simp only [List.getElem_cons_succ] at this
      rw [show i + 1 + j = i + (j + 1) by omega]
      exact this)
    rw [List.length_cons, sumN_shift, sumI, Int.add_mul, Nat.add_zero, Int.natCast_add, Int.mul_add]
    have e : (fun j => c (i + (j + 1))) = fun j => c (i + 1 + j) := by funext j; rw [show i + 1 + j = i + (j + 1) by omega]
    rw [e]
    have q1 : r * L ≤ r * ((c i : Int) * w i) := Int.mul_le_mul_of_nonneg_left h3 (by omega)
    have q2 : (c i : Int) * (r * w i) ≤ (c i : Int) * t := Int.mul_le_mul_of_nonneg_left h2 (by omega)
    have q3 : r * ((c i : Int) * w i) = (c i : Int) * (r * w i) := by rw [← Int.mul_assoc, Int.mul_comm r, Int.mul_assoc]
    have q4 : (c i : Int) * t = t * (c i : Int) := Int.mul_comm _ _
    omega
def towT (T : List Int) : List Int → Int → Int → Int × Int
  | [], _, m => (m, 0)
  | r :: R, i, m => if waitsOf T i = [] then (0, 4) else towT T R (i + 1) (mx m (wrap64 (r * great (waitsOf T i))))
theorem towT_spec (T : List Int) (t : Int) : ∀ (R : List Int) (i : Nat) (m : Int), towT T R (i : Int) m = (t, 0) → m ≤ t ∧ ∀ j (hj : j < R.length), waitsOf T ((i + j : Nat) : Int) ≠ [] ∧ wrap64 (R[j] * great (waitsOf T ((i + j : Nat) : Int))) ≤ t
  | [], i, m, h => by
    rw [towT] at h
    have := congrArg Prod.fst h
    exact ⟨by simp at this; omega, fun j hj => by simp at hj⟩
  | r :: R, i, m, h => by
    rw [towT] at h
    split at h
    · have := congrArg Prod.snd h
      simp at this
    · next hw =>
      rw [show (i : Int) + 1 = ((i + 1 : Nat) : Int) by omega] at h
      obtain ⟨h1, h2⟩ := towT_spec T t R (i + 1) _ h
      have hm := le_mx m (wrap64 (r * great (waitsOf T (i : Int))))
      refine ⟨by omega, fun j hj => ?_⟩
      cases j with
      | zero =>
        refine ⟨hw, ?_⟩
        show wrap64 (r * great (waitsOf T (i : Int))) ≤ t
        omega
      | succ j =>
        have := h2 j (by simpa using hj)
        rw [show i + 1 + j = i + (j + 1) by omega] at this
        exact this
theorem towT_bad (T : List Int) : ∀ (R : List Int) (i m : Int), (towT T R i m).2 = 0 ∨ towT T R i m = (0, 4)
  | [], _, _ => .inl rfl
  | r :: R, i, m => by
    rw [towT]
    split
    · exact .inr rfl
    · exact towT_bad T R _ _
theorem tower_ge {R T : List Int} (hR : ∀ x ∈ R, 1 ≤ x ∧ x ≤ 20) (hT : 1 ≤ T.length ∧ T.length ≤ 1000) {t : Int} (h : towT T R 0 0 = (t, 0)) : sumI R ≤ t := by
  obtain ⟨h0, h1⟩ := towT_spec T t R 0 0 h
  have hs := tower_sum (T.length : Int) t (fun j => (posOf (j : Int) 0 T).length) (fun j => great (waitsOf T (j : Int))) R 0 (fun j hj => by
    obtain ⟨q1, q2⟩ := h1 j hj
    rw [Nat.zero_add] at q1 q2 ⊢
    have hr := hR R[j] (List.getElem_mem hj)
    have hg := great_wait_le T (j : Int)
    have hn := great_nonneg (waitsOf T (j : Int))
    refine ⟨hr.1, ?_, len_wait q1⟩
    have b1 : R[j] * great (waitsOf T (j : Int)) ≤ 20 * 2000 := Int.mul_le_mul hr.2 (by omega) hn (by omega)
    have b0 : 0 ≤ R[j] * great (waitsOf T (j : Int)) := Int.mul_nonneg (by omega) hn
    rw [wrap_id (by omega) (by omega)] at q2
    exact q2)
  have hc : sumN (fun j => (posOf ((0 + j : Nat) : Int) 0 T).length) R.length ≤ T.length := by
    have e : (fun j : Nat => (posOf ((0 + j : Nat) : Int) 0 T).length) = fun j : Nat => T.countP (fun y => decide (y = (j : Int))) := by
      funext j
      rw [Nat.zero_add, posOf_count]
    rw [e]
    exact counts_le T R.length
  have h2 : t * (sumN (fun j => (posOf ((0 + j : Nat) : Int) 0 T).length) R.length : Int) ≤ t * (T.length : Int) := Int.mul_le_mul_of_nonneg_left (by omega) h0
  have h3 : sumI R * (T.length : Int) ≤ t * (T.length : Int) := Int.le_trans hs h2
  exact Int.le_of_mul_le_mul_right h3 (by omega)
end Go.Proofs.Ytgmciimgmnnhmaa.Pure
end
section
namespace Go.Proofs.Ytgmciimgmnnhmaa.Pure
open Go.RowKit Go.Proofs.Ytgmciimgmnnhmaa.P Go.Proofs.YtgmciimgmnnhmaaW.PrintWords Go.Proofs.YtgmciimgmnnhmaaW.PrintLast Go.Proofs.YtgmciimgmnnhmaaW.PrintMore
set_option linter.unusedVariables false
set_option linter.unusedSimpArgs false
theorem many_f (R : List Int) : impl_Garden_many.f R = some (R.length : Int) := rfl
def cdR (R : List Int) (ok : Bool) : Int := if isGarden R = true then (if ok = true then 0 else 2) else 1
theorem gcode_f (R : List Int) (c : Bool) : impl_gardenCode.f R c = some (cdR R c) := gardenCode_f R c
theorem cdR_cases (R : List Int) (ok : Bool) : (cdR R ok = 0 ∧ isGarden R = true ∧ ok = true) ∨ (cdR R ok ≠ 0 ∧ (isGarden R = false ∨ ok = false)) := by
  unfold cdR
  cases isGarden R <;> cases ok <;> simp
theorem isDays_f (n : Int) : impl_isDays.f n = some (decide (0 ≤ n ∧ n ≤ 200)) := by unfold impl_isDays.f; rw [within_f, Option.bind_some]
theorem isTower_f (n : Int) : impl_isTower.f n = some (decide (1 ≤ n ∧ n ≤ 1000)) := by unfold impl_isTower.f; rw [within_f, Option.bind_some]
theorem sumI_take_succ (l : List Int) (n : Nat) (h : n < l.length) : sumI (l.take (n + 1)) = sumI (l.take n) + l[n] := by
  rw [List.take_succ_eq_append_getElem h, sumI_append]
  simp [sumI]
theorem sumI_small {l : List Int} (h : ∀ x ∈ l, 1 ≤ x ∧ x ≤ 20) : 0 ≤ sumI l ∧ sumI l ≤ 20 * (l.length : Int) := by
  induction l with
  | nil => simp [sumI]
  | cons y l ih =>
    have h1 := h y List.mem_cons_self
    have h2 := ih (fun x hx => h x (List.mem_cons_of_mem _ hx))
    simp only [sumI, List.length_cons]
    omega
theorem gsum_l0 (R : List Int) (hl : R.length ≤ 8) (hR : ∀ x ∈ R, 1 ≤ x ∧ x ≤ 20) : ∀ d n : Nat, n + d = R.length → Ev (fun k => impl_Garden_sum.l0 k (sumI (R.take n)) R (R.length : Int) (n : Int)) (sumI R) := by
  intro d
  induction d with
  | zero =>
    intro n hn
    rw [List.take_of_length_le (by omega)]
    exact Ev.step (fun k => by rw [impl_Garden_sum.l0]) (ev_neg (by omega) (ev_now _))
  | succ d ih =>
    intro n hn
    have hlt : n < R.length := by omega
    have hs := sumI_small (l := R.take n) (fun x hx => hR x (List.mem_of_mem_take hx))
    rw [List.length_take] at hs
    have hx := hR R[n] (List.getElem_mem hlt)
    refine Ev.step (fun k => by rw [impl_Garden_sum.l0]) (ev_pos (by omega) (ev_pos (by omega) (ev_pos (by omega) ?_)))
    rw [rd_nat hlt, wrap_succ (by omega), wrap_id (x := sumI (R.take n) + R[n]) (by omega) (by omega), ← sumI_take_succ R n hlt]
    exact ih (n + 1) (by omega)
theorem ssum_l0 (R : List Int) (hl : R.length ≤ 8) (hR : ∀ x ∈ R, 1 ≤ x ∧ x ≤ 20) : ∀ d n : Nat, n + d = R.length → Ev (fun k => spec_l06Sum.l0 k (sumI (R.take n)) (great (R.take n)) (n : Int) R) (sumI R, great R) := by
  intro d
  induction d with
  | zero =>
    intro n hn
    rw [List.take_of_length_le (by omega)]
    exact Ev.step (fun k => by rw [spec_l06Sum.l0]) (ev_neg (by omega) (ev_now _))
  | succ d ih =>
    intro n hn
    have hlt : n < R.length := by omega
    have hs := sumI_small (l := R.take n) (fun x hx => hR x (List.mem_of_mem_take hx))
    rw [List.length_take] at hs
    have hx := hR R[n] (List.getElem_mem hlt)
    refine Ev.step (fun k => by rw [spec_l06Sum.l0]) (ev_pos (by omega) (ev_pos (by omega) ?_))
    rw [rd_nat hlt, wrap_succ (by omega), wrap_id (x := sumI (R.take n) + R[n]) (by omega) (by omega), ← sumI_take_succ R n hlt, ← great_take_succ R n hlt]
    exact ih (n + 1) (by omega)
def sumR (R : List Int) : Int × Int := if isGarden R = true then (sumI R, 0) else (0, 1)
theorem SumOfRates_impl (R : List Int) : Ev (fun k => impl_SumOfRates.f k R) (sumR R) := by
  unfold impl_SumOfRates.f sumR
  refine ev_fix (gardenCode_f R true) ?_
  cases h : isGarden R with
  | false => exact ev_neg (by simp) (ev_now _)
  | true =>
    obtain ⟨h8, hR⟩ := (isGarden_iff R).1 h
    refine ev_pos rfl (ev_bind ?_ (ev_now _))
    unfold impl_Garden_sum.f
    exact gsum_l0 R h8.2 hR R.length 0 (by omega)
theorem SumOfRates_spec (R : List Int) (hl : R.length ≤ 1048576) : Ev (fun k => spec_SumOfRates.f k R) (sumR R) := by
  unfold spec_SumOfRates.f sumR
  refine ev_bind (l06Is_ev R hl) ?_
  cases h : isGarden R with
  | false => exact ev_neg (by simp) (ev_now _)
  | true =>
    obtain ⟨h8, hR⟩ := (isGarden_iff R).1 h
    refine ev_pos rfl (ev_bind (a := (sumI R, great R)) ?_ (ev_now _))
    unfold spec_l06Sum.f
    exact ssum_l0 R h8.2 hR R.length 0 (by omega)
theorem l06Turns_ev (R T : List Int) (hR : R.length ≤ 1048576) (hT : T.length ≤ 1048576) : Ev (fun k => spec_l06Turns.f k R T) (cdR R (isTurns T (R.length : Int))) := by
  unfold spec_l06Turns.f cdR
  refine ev_bind (l06Is_ev R hR) ?_
  cases h : isGarden R with
  | false => exact ev_neg (by simp) (ev_now _)
  | true =>
    rw [if_pos rfl]
    refine ev_pos rfl (ev_bind (l01Turns_ev T _ (by omega)) ?_)
    cases isTurns T (R.length : Int) with
    | false => exact ev_neg (by simp) (ev_now _)
    | true => exact ev_pos rfl (ev_now _)
def towR (R T : List Int) : Int × Int := if cdR R (isTurns T (R.length : Int)) = 0 then towT T R 0 0 else (0, cdR R (isTurns T (R.length : Int)))
theorem Tower_l0 (R T : List Int) (hR : R.length ≤ 1048576) (hT : T.length ≤ 1048576) (r : Int × Int) : ∀ (d n : Nat) (m : Int), n + d = R.length → towT T (R.drop n) (n : Int) m = r → Ev (fun k => impl_TowerOf.l0 k T m R (R.length : Int) (n : Int)) r := by
  intro d
  induction d with
  | zero =>
    intro n m hn h
    rw [List.drop_of_length_le (by omega), towT] at h
    subst h
    exact Ev.step (fun k => by rw [impl_TowerOf.l0]) (ev_neg (by omega) (ev_now _))
  | succ d ih =>
    intro n m hn h
    have hlt : n < R.length := by omega
    rw [drop_rdG hlt, towT] at h
    refine Ev.step (fun k => by rw [impl_TowerOf.l0]) (ev_pos (by omega) (ev_pos (by omega) (ev_pos (by omega) (ev_bind (waits_ev T n hT) ?_))))
    by_cases c : waitsOf T (n : Int) = []
    · rw [if_pos c] at h
      subst h
      rw [c]
      exact ev_pos rfl (ev_now _)
    · rw [if_neg c] at h
      refine ev_neg ?_ (ev_bind (greatest_ev _ (by have := waitsOf_len T n; omega)) ?_)
      · intro q
        exact c (List.eq_nil_of_length_eq_zero (by omega))
      rw [wrap_succ (by omega)]
      rw [show (n : Int) + 1 = ((n + 1 : Nat) : Int) by omega] at h
      exact ih (n + 1) _ (by omega) h
theorem TowerS_l0 (R T : List Int) (hR : R.length ≤ 1048576) (hT : T.length ≤ 1048576) (r : Int × Int) : ∀ (d n : Nat) (m : Int), n + d = R.length → towT T (R.drop n) (n : Int) m = r → Ev (fun k => spec_TowerOf.l0 k T m (n : Int) R) r := by
  intro d
  induction d with
  | zero =>
    intro n m hn h
    rw [List.drop_of_length_le (by omega), towT] at h
    subst h
    exact Ev.step (fun k => by rw [spec_TowerOf.l0]) (ev_neg (by omega) (ev_now _))
  | succ d ih =>
    intro n m hn h
    have hlt : n < R.length := by omega
    rw [drop_rdG hlt, towT] at h
    refine Ev.step (fun k => by rw [spec_TowerOf.l0]) (ev_pos (by omega) (ev_bind (l01Greatest_ev T n hT) ?_))
    by_cases c : waitsOf T (n : Int) = []
    · rw [if_pos c] at h
      subst h
      rw [c]
      exact ev_pos rfl (ev_now _)
    · rw [if_neg c] at h
      have hp : posOf (n : Int) 0 T ≠ [] := fun e => c (by rw [waitsOf, if_pos e])
      have hg := great_wait_pos hp
      refine ev_neg (by omega) (ev_pos (by omega) ?_)
      rw [wrap_succ (by omega), Int.mul_comm]
      rw [show (n : Int) + 1 = ((n + 1 : Nat) : Int) by omega] at h
      exact ih (n + 1) _ (by omega) h
theorem TowerOf_impl (R T : List Int) (hR : R.length ≤ 1048576) (hT : T.length ≤ 1048576) : Ev (fun k => impl_TowerOf.f k R T) (towR R T) := by
  unfold impl_TowerOf.f towR
  refine ev_fix (many_f R) (ev_fix (areTurns_f T _) (ev_fix (gcode_f R _) ?_))
  by_cases h : cdR R (isTurns T (R.length : Int)) = 0
  · rw [if_pos h]
    exact ev_pos h (Tower_l0 R T hR hT _ R.length 0 0 (by omega) rfl)
  · rw [if_neg h]
    exact ev_neg h (ev_now _)
theorem TowerOf_spec (R T : List Int) (hR : R.length ≤ 1048576) (hT : T.length ≤ 1048576) : Ev (fun k => spec_TowerOf.f k R T) (towR R T) := by
  unfold spec_TowerOf.f towR
  refine ev_bind (l06Turns_ev R T hR hT) ?_
  by_cases h : cdR R (isTurns T (R.length : Int)) = 0
  · rw [if_pos h]
    exact ev_pos h (TowerS_l0 R T hR hT _ R.length 0 0 (by omega) rfl)
  · rw [if_neg h]
    exact ev_neg h (ev_now _)
theorem turns_mem {R T : List Int} (h8 : 1 ≤ R.length ∧ R.length ≤ 8) (h : isTurns T (R.length : Int) = true) : ∀ x ∈ T, x = -1 ∨ (0 ≤ x ∧ x < (R.length : Int)) := fun x hx => by
  have := isTurns_mem h hx
  rw [wrap_id (by omega) (by omega)] at this
  omega
def hbR (R T : List Int) (d : Int) : List Int × Int :=
  if cdR R (isTurns T (R.length : Int) && decide (0 ≤ d ∧ d ≤ 200)) = 0 then (heightsT R T d.toNat 0 (List.replicate R.length 0), 0) else ([], cdR R (isTurns T (R.length : Int) && decide (0 ≤ d ∧ d ≤ 200)))
theorem HeightsBehind_impl (R T : List Int) (d : Int) : impl_HeightsBehind.f R T d = some (hbR R T d) := by
  unfold impl_HeightsBehind.f hbR
  rw [areTurns_f, Option.bind_some]
  have e : (if isTurns T (R.length : Int) = true then impl_isDays.f d else some false) = some (isTurns T (R.length : Int) && decide (0 ≤ d ∧ d ≤ 200)) := by
    rw [isDays_f]
    cases isTurns T (R.length : Int) <;> simp
  rw [e, Option.bind_some, gcode_f, Option.bind_some]
  rcases cdR_cases R (isTurns T (R.length : Int) && decide (0 ≤ d ∧ d ≤ 200)) with ⟨h, hg, hk⟩ | ⟨h, _⟩
  · rw [if_pos h, if_pos h]
    rw [Bool.and_eq_true, decide_eq_true_iff] at hk
    obtain ⟨h8, _⟩ := (isGarden_iff R).1 hg
    have hl := isTurns_len hk.1
    rw [if_pos ⟨⟨by omega, by omega, turns_mem h8 hk.1⟩, by omega, by omega⟩]
  · rw [if_neg h, if_neg h]
theorem heightsT_length (R T : List Int) : ∀ (n d : Nat) (H : List Int), H.length = R.length → (heightsT R T n d H).length = R.length
  | 0, d, H, h => by rw [heightsT]; exact h
  | n + 1, d, H, h => by
    rw [heightsT]
    refine heightsT_length R T n (d + 1) _ ?_
    split
    · exact grT_length 1 h
    · rw [List.length_set]
      exact grT_length 1 h
theorem HB_l0 (R T : List Int) (h8 : 1 ≤ R.length ∧ R.length ≤ 8) (hT : 1 ≤ T.length ∧ T.length ≤ 1000) (hm : ∀ x ∈ T, x = -1 ∨ (0 ≤ x ∧ x < (R.length : Int))) (N : Nat) (hN : N ≤ 200) (r : List Int) : ∀ (d n : Nat) (H : List Int), n + d = N → H.length = R.length → heightsT R T d n H = r → Ev (fun k => spec_HeightsBehind.l0 k T (N : Int) H (n : Int) R) (r, 0) := by
  intro d
  induction d with
  | zero =>
    intro n H hn hH h
    rw [heightsT] at h
    subst h
    exact Ev.step (fun k => by rw [spec_HeightsBehind.l0]) (ev_neg (by omega) (ev_now _))
  | succ d ih =>
    intro n H hn hH h
    rw [heightsT] at h
    have hj0 : 0 ≤ Int.tmod (n : Int) (T.length : Int) := Int.tmod_nonneg _ (by omega)
    have hj1 : Int.tmod (n : Int) (T.length : Int) < (T.length : Int) := Int.tmod_lt_of_pos _ (by omega)
    have hx := hm _ (rd_mem hj0 hj1)
    have hgl := grT_length (R := R) (H := H) 1 hH
    refine Ev.step (fun k => by rw [spec_HeightsBehind.l0]) (ev_pos (by omega) (ev_bind (l06Grow_ev R H 1 (by omega) (by omega)) (ev_neg (show ¬ (T.length : Int) = 0 by omega) (ev_pos hj0 (ev_pos hj1 ?_)))))
    rw [wrap_succ (by omega)]
    generalize rd T (Int.tmod (n : Int) (T.length : Int)) = c at hx h ⊢
    by_cases hc : c = -1
    · rw [if_pos hc] at h
      exact ev_neg (show ¬ c ≥ 0 by omega) (ih (n + 1) _ (by omega) hgl h)
    · rw [if_neg hc] at h
      have hx : 0 ≤ c ∧ c < (R.length : Int) := by omega
      exact ev_pos (show c ≥ 0 from hx.1) (ev_pos hx.1 (ev_pos (show c < ((grT R H 1).length : Int) by omega) (ih (n + 1) _ (by omega) (by rw [List.length_set]; exact hgl) h)))
theorem HeightsBehind_spec (R T : List Int) (d : Int) (hR : R.length ≤ 1048576) (hT : T.length ≤ 1048576) : Ev (fun k => spec_HeightsBehind.f k R T d) (hbR R T d) := by
  have j1bad : ∀ c : Int, c ≠ 0 → Ev (fun k => spec_HeightsBehind.j1 k T d c R) ([], c) := fun c hc => Ev.step (fun k => by rw [spec_HeightsBehind.j1]) (ev_neg hc (ev_now _))
  unfold spec_HeightsBehind.f hbR
  refine ev_bind (l06Turns_ev R T hR hT) ?_
  rcases cdR_cases R (isTurns T (R.length : Int)) with ⟨h, hg, hk⟩ | ⟨h, hh⟩
  · refine ev_pos h (ev_fix (l01In_f _ _ _) ?_)
    rw [h, hk, Bool.true_and]
    obtain ⟨h8, _⟩ := (isGarden_iff R).1 hg
    by_cases hd : 0 ≤ d ∧ d ≤ 200
    · rw [decide_eq_true hd]
      have e : cdR R true = 0 := by unfold cdR; rw [hg]; rfl
      rw [if_pos e]
      refine Ev.step (fun k => by rw [spec_HeightsBehind.j0]) (ev_neg (by simp) (Ev.step (fun k => by rw [spec_HeightsBehind.j1]) (ev_pos rfl (ev_pos (by omega) (ev_pos (by omega) ?_)))))
      have hl := isTurns_len hk
      rw [Int.toNat_natCast]
      have := HB_l0 R T h8 (by omega) (turns_mem h8 hk) d.toNat (by omega) _ d.toNat 0 (List.replicate R.length 0) (by omega) (by simp) rfl
      rw [show ((d.toNat : Nat) : Int) = d by omega] at this
      exact this
    · rw [decide_eq_false hd]
      have e : cdR R false = 2 := by unfold cdR; rw [hg]; rfl
      rw [e, if_neg (by decide)]
      exact Ev.step (fun k => by rw [spec_HeightsBehind.j0]) (ev_pos (by simp) (j1bad 2 (by decide)))
  · refine ev_neg h ?_
    have e : cdR R (isTurns T (R.length : Int) && decide (0 ≤ d ∧ d ≤ 200)) = cdR R (isTurns T (R.length : Int)) := by
      rcases hh with hh | hh
      · unfold cdR; rw [hh]; rfl
      · rw [hh, Bool.false_and]
    rw [e, if_neg h]
    exact Ev.step (fun k => by rw [spec_HeightsBehind.j0]) (ev_neg (by simp) (j1bad _ h))
theorem hCode_cd (R H : List Int) : hCode R H = cdR R (heightsOk R H) := rfl
theorem and_code (R : List Int) (a b : Bool) (h : cdR R a ≠ 0) : cdR R (a && b) = cdR R a := by
  cases hg : isGarden R with
  | false => unfold cdR; rw [hg]; rfl
  | true =>
    cases a with
    | true => exact absurd (by unfold cdR; rw [hg]; rfl) h
    | false => rfl
def gdR (R H : List Int) (d : Int) : List Int × Int :=
  if cdR R (heightsOk R H && decide (0 ≤ d ∧ d ≤ 200)) = 0 then (grT R H d, 0) else ([], cdR R (heightsOk R H && decide (0 ≤ d ∧ d ≤ 200)))
theorem GrowDays_impl (R H : List Int) (d : Int) (hR : R.length ≤ 1048576) (hH : H.length ≤ 1048576) : Ev (fun k => impl_GrowDays.f k R H d) (gdR R H d) := by
  have main : ∀ c : Bool, (c = true → heightsOk R H = true) → Ev (fun k => (impl_gardenCode.f R c).bind fun t => if t = 0 then (impl_Garden_grown.f k R H d).bind fun x => some (x, 0) else some ([], t)) (if cdR R c = 0 then (grT R H d, 0) else ([], cdR R c)) := by
    intro c hc
    refine ev_fix (gcode_f R c) ?_
    rcases cdR_cases R c with ⟨h, hg, hk⟩ | ⟨h, _⟩
    · rw [if_pos h]
      have ho := (heightsOk_iff R H).1 (hc hk)
      exact ev_pos h (ev_bind (grown_ev R H d ho.1 hH) (ev_now _))
    · rw [if_neg h]
      exact ev_neg h (ev_now _)
  unfold impl_GrowDays.f gdR
  refine ev_fix (areHeights_f R H) ?_
  cases ho : heightsOk R H with
  | false => exact ev_neg (by simp) (main false (fun q => by cases q))
  | true =>
    rw [Bool.true_and]
    exact ev_pos rfl (ev_fix (isDays_f d) (main _ (fun _ => ho)))
theorem GrowDays_spec (R H : List Int) (d : Int) (hR : R.length ≤ 1048576) (hH : H.length ≤ 1048576) : Ev (fun k => spec_GrowDays.f k R H d) (gdR R H d) := by
  unfold spec_GrowDays.f gdR
  refine ev_bind (l06Heights_ev R H hR hH) ?_
  rw [hCode_cd]
  rcases cdR_cases R (heightsOk R H) with ⟨h, hg, hk⟩ | ⟨h, hh⟩
  · have ho := (heightsOk_iff R H).1 hk
    refine ev_pos h (ev_fix (l01In_f _ _ _) ?_)
    rw [h, hk, Bool.true_and]
    by_cases hd : 0 ≤ d ∧ d ≤ 200
    · rw [decide_eq_true hd]
      have e : cdR R true = 0 := by unfold cdR; rw [hg]; rfl
      rw [if_pos e]
      exact Ev.step (fun k => by rw [spec_GrowDays.j0]) (ev_neg (by simp) (ev_pos rfl (ev_bind (l06Grow_ev R H d hH (by omega)) (ev_now _))))
    · rw [decide_eq_false hd]
      have e : cdR R false = 2 := by unfold cdR; rw [hg]; rfl
      rw [e, if_neg (by decide)]
      exact Ev.step (fun k => by rw [spec_GrowDays.j0]) (ev_pos (by simp) (ev_neg (by decide) (ev_now _)))
  · refine ev_neg h ?_
    rw [and_code R _ _ h, if_neg h]
    exact Ev.step (fun k => by rw [spec_GrowDays.j0]) (ev_neg (by simp) (ev_neg h (ev_now _)))
def csR (R H : List Int) (x : Int) : Int × Int :=
  if cdR R (heightsOk R H && decide (1 ≤ x ∧ x ≤ 1000)) = 0 then (speedT R x H 0 (-1), 0) else (0, cdR R (heightsOk R H && decide (1 ≤ x ∧ x ≤ 1000)))
theorem CutBySpeed_impl (R H : List Int) (x : Int) : impl_CutBySpeed.f R H x = some (csR R H x) := by
  unfold impl_CutBySpeed.f csR
  rw [areHeights_f, Option.bind_some]
  have e : (if heightsOk R H = true then impl_isTower.f x else some false) = some (heightsOk R H && decide (1 ≤ x ∧ x ≤ 1000)) := by
    rw [isTower_f]
    cases heightsOk R H <;> simp
  rw [e, Option.bind_some, gcode_f, Option.bind_some]
  rcases cdR_cases R (heightsOk R H && decide (1 ≤ x ∧ x ≤ 1000)) with ⟨h, hg, hk⟩ | ⟨h, _⟩
  · rw [if_pos h, if_pos h]
    rw [Bool.and_eq_true] at hk
    have ho := (heightsOk_iff R H).1 hk.1
    rw [if_pos (by omega)]
  · rw [if_neg h, if_neg h]
theorem CutBySpeed_spec (R H : List Int) (x : Int) (hR : R.length ≤ 1048576) (hH : H.length ≤ 1048576) : Ev (fun k => spec_CutBySpeed.f k R H x) (csR R H x) := by
  unfold spec_CutBySpeed.f csR
  refine ev_bind (l06Heights_ev R H hR hH) ?_
  rw [hCode_cd]
  rcases cdR_cases R (heightsOk R H) with ⟨h, hg, hk⟩ | ⟨h, hh⟩
  · have ho := (heightsOk_iff R H).1 hk
    refine ev_pos h (ev_fix (l01In_f _ _ _) ?_)
    rw [h, hk, Bool.true_and]
    by_cases hd : 1 ≤ x ∧ x ≤ 1000
    · rw [decide_eq_true hd]
      have e : cdR R true = 0 := by unfold cdR; rw [hg]; rfl
      rw [if_pos e]
      exact Ev.step (fun k => by rw [spec_CutBySpeed.j0]) (ev_neg (by simp) (ev_pos rfl (ev_bind (l06Fastest_ev R H x hH (by omega)) (ev_now _))))
    · rw [decide_eq_false hd]
      have e : cdR R false = 2 := by unfold cdR; rw [hg]; rfl
      rw [e, if_neg (by decide)]
      exact Ev.step (fun k => by rw [spec_CutBySpeed.j0]) (ev_pos (by simp) (ev_neg (by decide) (ev_now _)))
  · refine ev_neg h ?_
    rw [and_code R _ _ h, if_neg h]
    exact Ev.step (fun k => by rw [spec_CutBySpeed.j0]) (ev_neg (by simp) (ev_neg h (ev_now _)))
def chR (R H : List Int) : Int × Int := if cdR R (heightsOk R H) = 0 then (hiI H, 0) else (0, cdR R (heightsOk R H))
theorem CutByHeight_impl (R H : List Int) (hH : H.length ≤ 1048576) : Ev (fun k => impl_CutByHeight.f k R H) (chR R H) := by
  unfold impl_CutByHeight.f chR
  refine ev_fix (areHeights_f R H) (ev_fix (gcode_f R _) ?_)
  rcases cdR_cases R (heightsOk R H) with ⟨h, hg, hk⟩ | ⟨h, _⟩
  · rw [if_pos h]
    have ho := (heightsOk_iff R H).1 hk
    have h8 := ((isGarden_iff R).1 hg).1
    exact ev_pos h (ev_bind (byHeight_ev H hH (by omega) (fun x hx => (ho.2 x hx).1)) (ev_now _))
  · rw [if_neg h]
    exact ev_neg h (ev_now _)
theorem CutByHeight_spec (R H : List Int) (hR : R.length ≤ 1048576) (hH : H.length ≤ 1048576) : Ev (fun k => spec_CutByHeight.f k R H) (chR R H) := by
  unfold spec_CutByHeight.f chR
  refine ev_bind (l06Heights_ev R H hR hH) ?_
  rw [hCode_cd]
  rcases cdR_cases R (heightsOk R H) with ⟨h, hg, hk⟩ | ⟨h, _⟩
  · rw [if_pos h]
    have ho := (heightsOk_iff R H).1 hk
    have h8 := ((isGarden_iff R).1 hg).1
    exact ev_pos h (ev_bind (l06Highest_ev H hH (by omega) (fun x hx => (ho.2 x hx).1)) (ev_now _))
  · rw [if_neg h]
    exact ev_neg h (ev_now _)
theorem sum_zero (N : Nat) (hN : N ≤ 1000) : ∀ d n : Nat, n + d = N → Ev (fun k => laws_sum.l0 k (List.replicate N 0) 0 (n : Int)) 0 := by
  intro d
  induction d with
  | zero =>
    intro n hn
    exact Ev.step (fun k => by rw [laws_sum.l0]) (ev_neg (by simp; omega) (ev_now _))
  | succ d ih =>
    intro n hn
    have e : rd (List.replicate N 0) (n : Int) = 0 := by
      rw [rd_nat (by simp; omega)]
      simp
    refine Ev.step (fun k => by rw [laws_sum.l0]) (ev_pos (by simp; omega) (ev_pos (by omega) ?_))
    rw [e, wrap_succ (by omega), show wrap64 ((0 : Int) + 0) = 0 from wrap_id (x := 0 + 0) (by omega) (by omega)]
    exact ih (n + 1) (by omega)
theorem Gar_j7 (x5 x6 x34 x35 : Int) (h : (x6 = 0 → x35 = 0 ∧ x34 ≤ x5) ∧ (x6 ≠ 0 → x5 = 0)) : Ev (fun k => laws_FnGardens.j7 k x5 x6 x34 x35 false) true := by
  refine Ev.step (fun k => by rw [laws_FnGardens.j7]) (ev_neg (by simp) ?_)
  by_cases c : x6 = 0
  · obtain ⟨h1, h2⟩ := h.1 c
    exact ev_pos c (ev_pos h1 (ev_is (by rw [decide_eq_true h2])))
  · exact ev_neg c (ev_is (by rw [h.2 c]; rfl))
theorem Gar_j6 (R T : List Int) (d x5 x6 x34 x35 : Int) (h : (x6 = 0 → x35 = 0 ∧ x34 ≤ x5) ∧ (x6 ≠ 0 → x5 = 0)) : Ev (fun k => laws_FnGardens.j6 k x5 x6 d (hbR R T d).1 (hbR R T d).2 x34 x35) true := by
  refine Ev.step (fun k => by rw [laws_FnGardens.j6]) ?_
  by_cases c : (hbR R T d).2 = 0
  · refine ev_pos c ?_
    by_cases c2 : d = 0
    · refine ev_pos c2 ?_
      have e : (hbR R T d).1 = List.replicate R.length 0 ∧ R.length ≤ 8 := by
        rcases cdR_cases R (isTurns T (R.length : Int) && decide (0 ≤ d ∧ d ≤ 200)) with ⟨q, hg, _⟩ | ⟨q, _⟩
        · have h8 := ((isGarden_iff R).1 hg).1
          refine ⟨?_, h8.2⟩
          unfold hbR
          rw [if_pos q, c2]
          rfl
        · unfold hbR at c
          rw [if_neg q] at c
          exact absurd c q
      rw [e.1]
      refine ev_bind (a := 0) ?_ (show Ev (fun n => laws_FnGardens.j7 n x5 x6 x34 x35 ((0 : Int) != 0)) true from Gar_j7 x5 x6 x34 x35 h)
      unfold laws_sum.f
      exact sum_zero R.length (by omega) R.length 0 (by omega)
    · exact ev_neg c2 (Gar_j7 x5 x6 x34 x35 h)
  · exact ev_neg c (Gar_j7 x5 x6 x34 x35 h)
theorem Gar_j5 (R T : List Int) (d : Int) (A H : List Int) (n : Int) (x5 x6 x34 x35 : Int) (h : (x6 = 0 → x35 = 0 ∧ x34 ≤ x5) ∧ (x6 ≠ 0 → x5 = 0)) : Ev (fun k => laws_FnGardens.j5 k x5 x6 d (hbR R T d).1 (hbR R T d).2 H n (csR A H n).1 (csR A H n).2 (chR A H).1 (chR A H).2 x34 x35 false) true := by
  have hj := Gar_j6 R T d x5 x6 x34 x35 h
  refine Ev.step (fun k => by rw [laws_FnGardens.j5]) (ev_neg (by simp) ?_)
  rcases cdR_cases A (heightsOk A H && decide (1 ≤ n ∧ n ≤ 1000)) with ⟨q, hg, hk⟩ | ⟨q, _⟩
  · rw [Bool.and_eq_true] at hk
    have ho := (heightsOk_iff A H).1 hk.1
    have h8 := ((isGarden_iff A).1 hg).1
    have e1 : csR A H n = (speedT A n H 0 (-1), 0) := by unfold csR; rw [if_pos q]
    have e2 : chR A H = (hiI H, 0) := by
      unfold chR
      rw [hk.1, if_pos (by unfold cdR; rw [hg]; rfl)]
    rw [e1, e2]
    have hi := hiI_rd (H := H) (by intro e; subst e; simp at ho; omega) (fun x hx => (ho.2 x hx).1)
    refine ev_pos rfl (ev_pos rfl (ev_pos hi.1 (ev_pos hi.2.1 ?_)))
    have hs := speed_rd A H n
    show Ev (fun k => if ((speedT A n H 0 (-1) == -1) != decide (rd H (hiI H) < n)) = true then some false else if speedT A n H 0 (-1) ≥ 0 then if 0 ≤ speedT A n H 0 (-1) then if speedT A n H 0 (-1) < (H.length : Int) then if rd H (speedT A n H 0 (-1)) < n then some false else laws_FnGardens.j6 k x5 x6 d (hbR R T d).1 (hbR R T d).2 x34 x35 else none else none else laws_FnGardens.j6 k x5 x6 d (hbR R T d).1 (hbR R T d).2 x34 x35) true
    rw [hi.2.2]
    have hgm := great_mem (l := H) (by intro e; subst e; simp at ho; omega) (fun x hx => (ho.2 x hx).1)
    generalize speedT A n H 0 (-1) = s at hs ⊢
    rcases hs with ⟨s1, s2⟩ | ⟨s1, s2, s3⟩
    · have : decide (great H < n) = true := decide_eq_true (s2 _ hgm)
      rw [this, s1]
      exact ev_neg (by decide) (ev_neg (by decide) hj)
    · have hm : rd H s ∈ H := rd_mem s1 s2
      have := great_pos hm
      have hd : decide (great H < n) = false := decide_eq_false (by omega)
      have hb : (s == -1) = false := beq_eq_false_iff_ne.mpr (by omega)
      rw [hd, hb]
      exact ev_neg (by decide) (ev_pos (by omega) (ev_pos s1 (ev_pos s2 (ev_neg (by omega) hj))))
  · have e1 : (csR A H n).2 ≠ 0 := by unfold csR; rw [if_neg q]; exact q
    exact ev_neg e1 hj
theorem FnGardens : laws_FnGardens.Pure := by
  intro b _ _ hw
  have hb0 : ∀ x ∈ b, 0 ≤ x ∧ x ≤ 255 := fun x hx => by
    have h := hw x hx
    rw [Lit.wf, Bool.and_eq_true] at h
    exact ⟨of_decide_eq_true h.1, of_decide_eq_true h.2⟩
  refine ev_rounds (g := fun k => laws_FnGardens.f k b) ?_
  unfold laws_FnGardens.f
  refine ev_fix (a := decide ((b.length : Int) > 4096)) rfl ?_
  by_cases c : (b.length : Int) > 4096
  · exact ev_pos (decide_eq_true c) (ev_now _)
  have hb : Bytes b := ⟨hb0, by omega⟩
  refine ev_neg (by rw [decide_eq_false c]; simp) (evp_true ?_)
  refine evp_bind (DrawTowerOf_evp hb) ?_
  rintro ⟨R, T⟩ ⟨hR, hT⟩
  have hR : R.length ≤ 1000 := hR
  have hT : T.length ≤ 1000 := hT
  refine evp_ev (TowerOf_impl R T (by omega) (by omega)) (evp_ev (TowerOf_spec R T (by omega) (by omega)) (evp_pos rfl ?_))
  show EvP (fun k => laws_FnGardens.j0 k b (towR R T).1 (towR R T).2 ((towR R T).1 != (towR R T).1) R) _
  rw [bne_self_eq_false]
  have hfin : ((towR R T).2 = 0 → (sumR R).2 = 0 ∧ (sumR R).1 ≤ (towR R T).1) ∧ ((towR R T).2 ≠ 0 → (towR R T).1 = 0) := by
    rcases cdR_cases R (isTurns T (R.length : Int)) with ⟨q, hg, hk⟩ | ⟨q, _⟩
    · obtain ⟨h8, hr⟩ := (isGarden_iff R).1 hg
      have e : towR R T = towT T R 0 0 := by unfold towR; rw [if_pos q]
      have e2 : sumR R = (sumI R, 0) := by unfold sumR; rw [if_pos hg]
      have hl := isTurns_len hk
      rw [e, e2]
      refine ⟨fun h => ⟨rfl, ?_⟩, fun h => ?_⟩
      · exact tower_ge (T := T) hr (by omega) (show towT T R 0 0 = ((towT T R 0 0).1, 0) from Prod.ext rfl h)
      · rcases towT_bad T R 0 0 with h2 | h2
        · exact absurd h2 h
        · rw [h2]
    · have e : towR R T = (0, cdR R (isTurns T (R.length : Int))) := by unfold towR; rw [if_neg q]
      rw [e]
      exact ⟨fun h => absurd h q, fun _ => rfl⟩
  refine evp_step (fun k => by rw [laws_FnGardens.j0]) (evp_neg (by simp) (evp_bind (DrawHeightsBehind_evp hb) ?_))
  rintro ⟨A, B, d⟩ ⟨hA, hB⟩
  have hA : A.length ≤ 1000 := hA
  have hB : B.length ≤ 1000 := hB
  have hbl : (hbR A B d).1.length ≤ 1000 := by
    unfold hbR
    split
    · show (heightsT A B d.toNat 0 (List.replicate A.length 0)).length ≤ 1000
      rw [heightsT_length A B _ _ _ (by simp)]
      exact hA
    · simp
  refine evp_fix (HeightsBehind_impl A B d) (evp_ev (HeightsBehind_spec A B d (by omega) (by omega)) (evp_pos rfl (evp_ev (likeInts_ev _ (by omega)) ?_)))
  refine evp_step (fun k => by rw [laws_FnGardens.j1]) (evp_neg (by simp) (evp_bind (DrawGrowDays_evp hb) ?_))
  rintro ⟨G, H, e⟩ ⟨hG, hH⟩
  have hG : G.length ≤ 1000 := hG
  have hH : H.length ≤ 1000 := hH
  have hgl : (gdR G H e).1.length ≤ 1000 := by
    unfold gdR
    split
    · show (grT G H e).length ≤ 1000
      unfold grT
      rw [List.length_zipWith]
      omega
    · simp
  refine evp_ev (GrowDays_impl G H e (by omega) (by omega)) (evp_ev (GrowDays_spec G H e (by omega) (by omega)) (evp_pos rfl (evp_ev (likeInts_ev _ (by omega)) ?_)))
  refine evp_step (fun k => by rw [laws_FnGardens.j2]) (evp_neg (by simp) (evp_bind (DrawCutBySpeed_evp hb) ?_))
  rintro ⟨Q, S, n⟩ ⟨hQ, hS⟩
  have hQ : Q.length ≤ 1000 := hQ
  have hS : S.length ≤ 1000 := hS
  refine evp_fix (CutBySpeed_impl Q S n) (evp_ev (CutBySpeed_spec Q S n (by omega) (by omega)) (evp_pos rfl ?_))
  rw [bne_self_eq_false]
  refine evp_step (fun k => by rw [laws_FnGardens.j3]) (evp_neg (by simp) (evp_ev (CutByHeight_impl Q S (by omega)) (evp_ev (CutByHeight_spec Q S (by omega) (by omega)) (evp_pos rfl ?_))))
  rw [bne_self_eq_false]
  refine evp_step (fun k => by rw [laws_FnGardens.j4]) (evp_neg (by simp) (evp_ev (SumOfRates_impl R) (evp_ev (SumOfRates_spec R (by omega)) (evp_pos rfl (evp_pos rfl (evp_fix (IsGarden_f R) (evp_ev (a := isGarden R) ?_ ?_)))))))
  · unfold spec_IsGarden.f
    exact ev_bind (l06Is_ev R (by omega)) (ev_now _)
  rw [bne_self_eq_false]
  exact evp_of (Gar_j5 A B d Q S n _ _ _ _ hfin) rfl
end Go.Proofs.Ytgmciimgmnnhmaa.Pure
end
section
namespace Go.Proofs.Ytgmciimgmnnhmaa.fnGardens
open Go.ChangeShapes Go.WideShapes Go.ChangeAt Go.RowKit
open Go.ChangeMaps (open_string shut_string)
set_option linter.unusedVariables false
theorem own : ownKnob Try.prog.godebug = none := by kernel_rfl
theorem laidOut : laidOutB Try.prog = true := by kernel_rfl
def IsRow (k : IntKind) (w : World) (a : Option Addr) (len cap : Nat) (zs : List Int) : Prop :=
  (a = none ∧ len = 0 ∧ cap = 0 ∧ zs = []) ∨
  ∃ x, a = some x ∧ len ≤ cap ∧ cap ≤ maxLen ∧ zs.length = cap ∧ (∀ i, i < zs.length → w.cell? (x.add i) = some (.int k (zs.getD i 0))) ∧ ∀ n ∈ zs, (Lit.int k n).wf = true
set_option maxRecDepth 100000 in
theorem lifted (os : Os) (started : os.Started) (H : Type) (enc : TypeId × Value → H) :
    ReturnsInHanded {} Try.checked os 3 .any (Rows.fnGardensSpec.pre6 enc Try.prog Try.f3 Rows.fnGardensRow.domain false) (Rows.fnGardensSpec.post enc Try.prog Try.f3 false true false false) := by
  refine returnsInHanded_of_change_sized (C := Try.checked) own started (by kernel_rfl) Try.func3
    (ChangeSpec.witness6 (enc := enc) (C := Try.checked) false ⟨#[], #[.slice none 0 0], []⟩ 8 (by kernel_rfl) (by kernel_rfl) (by kernel_rfl) (by kernel_rfl)) ?_
  intro W base args ds gs before hval0 hW hcnd hsz0 _
  have hsz : (DataW.weightsEach Try.prog (Try.f3.params.toList ++ Rows.fnGardensSpec.plain.varTypes Try.prog) (ds ++ gs)).all (· ≤ reachBytes) = true := hsz0
  have hval : ∀ (j : Nat) t v, Try.f3.params[j]? = some t → args[j]? = some v → Value.okWide Try.prog W .any base t v := hval0
  have hW' := hW
  obtain ⟨p, q, hA0, hV, rfl, hfz, hnd⟩ := hW
  have hA : DataW.TrodAll enc Try.prog W 0 (fun _ => true) true Try.f3.params.toList args.toList ds p := hA0
  rw [Try.params3] at hA hval hsz
  obtain ⟨v0, vs0, d0, ds0, p0, q0, hargs, rfl, rfl, h0, r0⟩ := trodAll_cons hA
  obtain ⟨rfl, rfl, rfl⟩ := trodAll_nil r0
  obtain rfl : args = #[v0] := by cases args; simp_all
  obtain ⟨rfl, rfl⟩ := trodVars_none hV
  obtain ⟨a0, len0, cap0, rfl⟩ := okWide_slice Try.underlying22 (hval 0 22 v0 rfl rfl)
  have k0 := h0
  have lt0 : ∀ x ∈ p0, x.block < W.heap.size := by obtain ⟨m, hm⟩ := k0; exact DataW.trod_lt m _ _ _ hm
  obtain ⟨z0, w0⟩ : ∃ zs, IsRow .u8 W a0 len0 cap0 zs := by
    obtain ⟨fuel, hf⟩ := h0
    rcases open_ints Try.underlying22 Try.underlying5 (by kernel_rfl) hf with ⟨hcs, _⟩ | ⟨x, l, c, zs, hcs, _, hl, hm, hz, _, hcell, hwz⟩
    · simp [Value.cells] at hcs
      obtain ⟨rfl, rfl, rfl⟩ := hcs
      exact ⟨[], .inl ⟨rfl, rfl, rfl, rfl⟩⟩
    · simp [Value.cells] at hcs
      obtain ⟨rfl, rfl, rfl⟩ := hcs
      exact ⟨zs, .inr ⟨_, rfl, hl, hm, by simpa using hz, hcell, hwz⟩⟩
  have y0 : len0 * 1 ≤ 140737488351232 := Go.Proofs.YtgmciimgmnnhmaaW.PrintWords.sized_ints hsz (j := 0) (t := 22) rfl rfl Try.underlying22 Try.underlying5 (by kernel_rfl) (by kernel_rfl) h0
  clear hA0 hval0 hsz0 hsz
  refine (P.laws_FnGardens.walk Pure.FnGardens a0 len0 cap0 z0 W w0 y0).mono fun e W' ⟨he, bel⟩ => ?_
  subst he
  exact ⟨_, rfl, _, _, _, [], _, [], hW', trodAll_mk1 (shut_bool Try.underlying4 _), (trodAll_cons_mk (Below.trod laidOut (by kernel_rfl) (of_decide_eq_true (by kernel_rfl)) k0 bel lt0) trodAll_mk0), rfl, bel.frame _, fun h => by cases h⟩
theorem over : Rows.fnGardensRow.holds Try.pinned (OpenSpec.ofChange Rows.fnGardensSpec) :=
  OpenClaim.holds_of_wide 3 Try.f3 rfl rfl rfl rfl rfl rfl rfl ⟨rfl, rfl, rfl, rfl, rfl⟩ rfl rfl rfl rfl rfl (by kernel_rfl) Try.func3 (by kernel_rfl)
    (of_decide_eq_true (by kernel_rfl)) (by unfold Func.isWrapper; first | (rw [if_pos (by decide +kernel)]; kernel_rfl) | (rw [if_neg (by decide +kernel)]; exact ⟨rfl, rfl⟩))
    (fun os started H enc _ => lifted os started H enc)
theorem proved : Rows.FnGardensSaid := over
end Go.Proofs.Ytgmciimgmnnhmaa.fnGardens
namespace Go.Proofs.Ytgmciimgmnnhmaa
/-- The row, under a short name, for the claim. -/
theorem fnGardens_holds : Rows.FnGardensSaid := fnGardens.proved
end Go.Proofs.Ytgmciimgmnnhmaa
end
