/- The program's FirstRests returns what the reference's returns, for all tasks; no condition beside. -/
import Derived.Test.YtnmpjikiodnmnaaCFnExactFirstRests3
import Derived.Test.YtnmpjikiodnmnaaRows
section
namespace Go.Proofs.Ytnmpjikiodnmnaa.Pure
open Go.RowKit Go.Proofs.Ytnmpjikiodnmnaa.P Go.Proofs.YtnmpjikiodnmnaaW.PrintWords Go.Proofs.YtnmpjikiodnmnaaW.PrintLast Go.Proofs.YtnmpjikiodnmnaaW.PrintMore
set_option linter.unusedVariables false
set_option linter.unusedSimpArgs false
theorem l05Fit_l1 (G : List Int) (hG : ∀ x ∈ G, 1 ≤ x ∧ x ≤ 40) (h8 : G.length ≤ 8) (i : Nat) (hi : i < G.length) (hbefore : ∀ a, a < i → ∀ j, j < a → Nat.gcd (rd G (a : Int)).toNat (rd G (j : Int)).toNat ≠ 1)
    (hnext : (∀ a, a < i + 1 → ∀ j, j < a → Nat.gcd (rd G (a : Int)).toNat (rd G (j : Int)).toNat ≠ 1) → Ev (fun k => spec_l05Fit.l0 k ((i + 1 : Nat) : Int) G) (fitB G)) :
    ∀ d n : Nat, n + d = i → (∀ j, j < n → Nat.gcd (rd G (i : Int)).toNat (rd G (j : Int)).toNat ≠ 1) → Ev (fun k => spec_l05Fit.l1 k (i : Int) (n : Int) G) (fitB G) := by
  intro d
  induction d with
  | zero =>
    intro n hn hb
    refine Ev.step (fun k => by rw [spec_l05Fit.l1]) ?_
    rw [wrap_succ (n := i) (by omega)]
    refine ev_neg (by omega) (hnext fun a ha j hj => ?_)
    by_cases e : a = i
    · subst e; exact hb j (by omega)
    · exact hbefore a (by omega) j hj
  | succ d ih =>
    intro n hn hb
    have m1 : 1 ≤ rd G (i : Int) ∧ rd G (i : Int) ≤ 40 := by rw [rd_nat hi]; exact hG _ (List.getElem_mem hi)
    have m2 : 1 ≤ rd G (n : Int) ∧ rd G (n : Int) ≤ 40 := by rw [rd_nat (by omega : n < G.length)]; exact hG _ (List.getElem_mem _)
    have hgc := l01Gcd_ev (rd G (i : Int)).toNat (rd G (n : Int)).toNat
    rw [show (((rd G (i : Int)).toNat : Nat) : Int) = rd G (i : Int) by omega, show (((rd G (n : Int)).toNat : Nat) : Int) = rd G (n : Int) by omega] at hgc
    refine Ev.step (fun k => by rw [spec_l05Fit.l1]) ?_
    rw [wrap_succ (by omega)]
    refine ev_pos (by omega) (ev_pos (by omega) (ev_pos (by omega) (ev_pos (by omega) (ev_pos (by omega) (ev_bind hgc ?_)))))
    by_cases h : Nat.gcd (rd G (i : Int)).toNat (rd G (n : Int)).toNat = 1
    · refine ev_pos (by omega) (ev_is ?_)
      rw [fitB, decide_eq_false (fun q => q i hi n (by omega) h)]
    · refine ev_neg (by omega) (ih (n + 1) (by omega) fun j hj => ?_)
      by_cases e : j = n
      · subst e; exact h
      · exact hb j (by omega)
theorem l05Fit_l0 (G : List Int) (hG : ∀ x ∈ G, 1 ≤ x ∧ x ≤ 40) (h8 : G.length ≤ 8) : ∀ d n : Nat, n + d = G.length → (∀ a, a < n → ∀ j, j < a → Nat.gcd (rd G (a : Int)).toNat (rd G (j : Int)).toNat ≠ 1) → Ev (fun k => spec_l05Fit.l0 k (n : Int) G) (fitB G) := by
  intro d
  induction d with
  | zero =>
    intro n hn hb
    refine Ev.step (fun k => by rw [spec_l05Fit.l0]) ?_
    refine ev_neg (by omega) (ev_is ?_)
    rw [fitB, decide_eq_true (fun i hi j hj => hb i (by omega) j hj)]
  | succ d ih =>
    intro n hn hb
    refine Ev.step (fun k => by rw [spec_l05Fit.l0]) ?_
    exact ev_pos (by omega) (l05Fit_l1 G hG h8 n (by omega) hb (fun h => ih (n + 1) (by omega) h) n 0 (by omega) (fun j hj => by omega))
theorem l05Fit_ev (G : List Int) (hG : ∀ x ∈ G, 1 ≤ x ∧ x ≤ 40) (h8 : G.length ≤ 8) : Ev (fun k => spec_l05Fit.f k G) (fitB G) := by
  unfold spec_l05Fit.f
  exact l05Fit_l0 G hG h8 G.length 0 (by omega) (fun a ha => by omega)
def possB (G : List Int) : Bool := decide ((dgR G).1 ≤ (dgR G).2) && (decide ((G.length : Int) = 1) || fitB G)
theorem l05Possible_ev (G : List Int) (hG : ∀ x ∈ G, 1 ≤ x ∧ x ≤ 40) (h8 : G.length ≤ 8) : Ev (fun k => spec_l05Possible.f k G) (possB G) := by
  unfold spec_l05Possible.f possB
  refine ev_bind (l01Density_any G hG h8) ?_
  by_cases h : (dgR G).1 ≤ (dgR G).2
  · rw [decide_eq_true h, Bool.true_and]
    refine ev_pos h (ev_fix (show spec_l01K.f G = some (G.length : Int) from rfl) ?_)
    by_cases h1 : (G.length : Int) = 1
    · rw [decide_eq_true h1]
      exact ev_pos h1 (ev_now _)
    · rw [decide_eq_false h1, Bool.false_or]
      exact ev_neg h1 (ev_bind (l05Fit_ev G hG h8) (ev_now _))
  · rw [decide_eq_false h, Bool.false_and]
    exact ev_neg h (ev_now _)
theorem poss_of {G : List Int} (h : (restsT meetB G []).isSome = true) : possB G = true := by
  obtain ⟨q, e, hr, ha⟩ := ext_list G [] (fun c hc => by cases hc) List.Pairwise.nil ((restsT_ext G []).1 h)
  have e : q.map Prod.snd = G := e
  subst e
  unfold possB
  rw [Bool.and_eq_true, Bool.or_eq_true, decide_eq_true_iff]
  refine ⟨?_, .inr ?_⟩
  · show ((sumG (lcmN 1 (q.map Prod.snd)) (q.map Prod.snd) / Nat.gcd (sumG (lcmN 1 (q.map Prod.snd)) (q.map Prod.snd)) (lcmN 1 (q.map Prod.snd)) : Nat) : Int) ≤ ((lcmN 1 (q.map Prod.snd) / Nat.gcd (sumG (lcmN 1 (q.map Prod.snd)) (q.map Prod.snd)) (lcmN 1 (q.map Prod.snd)) : Nat) : Int)
    exact Int.ofNat_le.2 (Nat.div_le_div_right (apart_dens hr ha))
  · rw [fitB, decide_eq_true_iff]
    intro i hi j hj
    rw [List.length_map] at hi
    have hji : j < q.length := by omega
    have := (List.pairwise_iff_getElem.1 ha) j i hji hi hj
    have g := gcd_fit this
    have e1 : rd (q.map Prod.snd) (i : Int) = q[i].2 := by rw [rd_nat (by rw [List.length_map]; exact hi)]; simp
    have e2 : rd (q.map Prod.snd) (j : Int) = q[j].2 := by rw [rd_nat (by rw [List.length_map]; exact hji)]; simp
    rw [e1, e2, Nat.gcd_comm]
    exact g
def frR (G : List Int) : List (Int × Int) × Int := if isTasks G = true then (if (G.length : Int) > 5 then ([], 3) else ((restsT meetB G []).getD [], if (restsT meetB G []).isSome = true then 0 else 4)) else ([], 1)
theorem FirstRests_spec (G : List Int) (hl : G.length ≤ 1048576) : Ev (fun k => spec_FirstRests.f meetB k G) (frR G) := by
  unfold spec_FirstRests.f frR
  refine ev_bind (l01Is_ev G hl) ?_
  cases ht : isTasks G with
  | false =>
    rw [if_neg (show ¬ (false = true) by decide)]
    exact ev_neg (by simp) (ev_now _)
  | true =>
    obtain ⟨h8, hG⟩ := (isTasks_iff G).1 ht
    rw [if_pos rfl]
    refine ev_pos rfl (ev_fix (show spec_l01K.f G = some (G.length : Int) from rfl) ?_)
    by_cases h5 : (G.length : Int) > 5
    · rw [if_pos h5]
      exact ev_pos h5 (ev_now _)
    · rw [if_neg h5]
      refine ev_neg h5 (ev_bind (l05Possible_ev G hG h8.2) ?_)
      cases hp : possB G with
      | true => exact ev_pos rfl (ev_now _)
      | false =>
        have hn : restsT meetB G [] = none := by
          cases hq : restsT meetB G [] with
          | none => rfl
          | some q =>
            have := poss_of (G := G) (by rw [hq]; rfl)
            rw [hp] at this
            cases this
        rw [hn]
        exact ev_neg (by simp) (ev_now _)
theorem FirstRests_impl (G : List Int) : impl_FirstRests.f meetB G = some (frR G) := by
  unfold impl_FirstRests.f frR
  rw [tasksCode_f, Option.bind_some]
  cases ht : isTasks G with
  | false => rfl
  | true =>
    obtain ⟨h8, hG⟩ := (isTasks_iff G).1 ht
    rw [if_pos rfl, if_pos rfl, if_pos rfl]
    rw [show impl_Tasks_many.f G = some (G.length : Int) from rfl, Option.bind_some]
    by_cases h5 : (G.length : Int) > 5
    · rw [if_pos h5, if_pos h5]
    · rw [if_neg h5, if_neg h5, if_pos (show 0 < G.length by omega)]
      cases G with
      | nil => exact absurd h8.1 (by simp)
      | cons g gs =>
        have e : rd (g :: gs) 0 = g := rfl
        rw [e, List.drop_one, List.tail_cons, rests_first (fun x hx => by have := hG x hx; omega)]
theorem mark_held : ∀ (l : List (Int × Int)) (m : Int), 0 ≤ m → m + 2 * l.length ≤ 9223372036854775000 → heldC (markC m l).1 m = m + 2 * l.length ∧ (markC m l).2 = m + 2 * l.length
  | [], m, _, _ => by simp [markC, heldC]
  | x :: l, m, h0, h => by
    simp only [List.length_cons] at h ⊢
    have e1 : wrap64 (m + 1) = m + 1 := by unfold wrap64; omega
    have e2 : wrap64 (m + 1 + 1) = m + 2 := by unfold wrap64; omega
    have ih := mark_held l (m + 2) (by omega) (by omega)
    rw [markC, heldC]
    simp only [e1, e2, if_true]
    rw [ih.1, ih.2]
    omega
theorem frR_len (G : List Int) : (frR G).1.length ≤ 5 := by
  unfold frR
  split
  · split
    · simp
    · next h5 =>
      cases hq : restsT meetB G [] with
      | none => simp
      | some q =>
        have := restsT_len G [] q hq
        simp only [Option.getD_some]
        simp at this
        omega
  · simp
theorem rests_ok {l : List Int} (ht : isTasks l = true) : (∀ g ∈ l, ∀ r, 0 ≤ r → r < g → okCl (r, g)) ∧ (∀ g ∈ l, 0 < g ∧ g ≤ 9223372036854775807) ∧ l.length ≤ 1000 := by
  obtain ⟨h8, hG⟩ := (isTasks_iff l).1 ht
  refine ⟨fun g hg r h0 h1 => ⟨hG g hg, h0, h1⟩, fun g hg => ?_, by omega⟩
  have := hG g hg
  omega
theorem code_ok {l : List Int} (h : impl_tasksCode.f l true = some 0) : isTasks l = true := by
  rw [tasksCode_f] at h
  cases ht : isTasks l with
  | true => rfl
  | false => rw [ht] at h; simp at h
theorem FnExactFirstRests : laws_FnExactFirstRests.Pure := by
  refine ⟨okCl, meetB, fun c d hc hd => ev_rounds (g := fun k => spec_l05Meet.f k c d) (l05Meet_ev hc hd), fun c l hc hl => isApart_f hc l hl, fun l hl0 => ?_⟩
  obtain ⟨r, e1, h⟩ := szTasks_f l hl0.1
  rcases h with h | ⟨h0, hl⟩
  · refine ⟨0, fun h => ?_, ?_⟩
    · rcases h with h | h
      · simp [spec_l01Is.f, spec_l01Is.l0] at h
      · exact rests_ok (code_ok h)
    · unfold laws_FnExactFirstRests.f
      rw [e1, Option.bind_some, if_pos h]
  · have h5 := frR_len l
    have hm := mark_held (frR l).1 1 (by omega) (by omega)
    have hE : Ev (fun k => laws_FnExactFirstRests.f meetB k l) true := by
      unfold laws_FnExactFirstRests.f
      refine ev_fix e1 (ev_neg (by omega) (ev_bind (toTasks_ev l hl) (ev_pos rfl (ev_bind (FirstRests_spec l hl) (ev_fix (FirstRests_impl l) (ev_pos rfl (ev_bind (eqTasks_ev l hl) (ev_pos rfl (ev_bind (markTasks_ev l hl) (ev_pos ?_ (ev_pos ?_ (ev_now _))))))))))))
      · show (0 : Int) ≤ 1 + (l.length : Int)
        omega
      · rw [hm.1, hm.2]
        exact ⟨by omega, rfl⟩
    obtain ⟨k1, h1⟩ := hE
    obtain ⟨k2, h2⟩ := l01Is_ev l hl
    refine ⟨max k1 k2, fun h => ?_, h1 _ (by omega)⟩
    rcases h with h | h
    · have := h2 (max k1 k2) (by omega)
      have := Option.some.inj (this.symm.trans h)
      exact rests_ok this
    · exact rests_ok (code_ok h)
end Go.Proofs.Ytnmpjikiodnmnaa.Pure
end
section
namespace Go.Proofs.Ytnmpjikiodnmnaa.fnExactFirstRests
open Go.ChangeShapes Go.WideShapes Go.ChangeAt Go.RowKit Go.Deep Go.Proofs.Ytnmpjikiodnmnaa.P
open Go.ChangeMaps (open_string shut_string)
set_option linter.unusedVariables false
theorem own : ownKnob Try.prog.godebug = none := by kernel_rfl
theorem laidOut : laidOutB Try.prog = true := by kernel_rfl
set_option maxRecDepth 100000 in
theorem lifted (os : Os) (started : os.Started) (H : Type) (enc : TypeId × Value → H) :
    ReturnsInHanded {} Try.checked os 4 .any (Rows.fnExactFirstRestsSpec.pre6 enc Try.prog Try.f4 Rows.fnExactFirstRestsRow.domain false) (Rows.fnExactFirstRestsSpec.post enc Try.prog Try.f4 false true false false) := by
  refine returnsInHanded_of_change_sized (C := Try.checked) own started (by kernel_rfl) Try.func4
    (ChangeSpec.witness6 (enc := enc) (C := Try.checked) false ⟨#[], #[.agg #[.slice none 0 0]], []⟩ 8 (by kernel_rfl) (by kernel_rfl) (by kernel_rfl) (by kernel_rfl)) ?_
  intro W base args ds gs before hval0 hW hcnd hsz0 _
  have hsz : (DataW.weightsEach Try.prog (Try.f4.params.toList ++ Rows.fnExactFirstRestsSpec.plain.varTypes Try.prog) (ds ++ gs)).all (· ≤ reachBytes) = true := hsz0
  have hval : ∀ (j : Nat) t v, Try.f4.params[j]? = some t → args[j]? = some v → Value.okWide Try.prog W .any base t v := hval0
  have hW' := hW
  obtain ⟨p, q, hA0, hV, rfl, hfz, hnd⟩ := hW
  have hA : DataW.TrodAll enc Try.prog W 0 (fun _ => true) true Try.f4.params.toList args.toList ds p := hA0
  rw [Try.params4] at hA hval hsz
  obtain ⟨v0, vs0, d0, ds0, p0, q0, hargs, rfl, rfl, h0, r0⟩ := trodAll_cons hA
  obtain ⟨rfl, rfl, rfl⟩ := trodAll_nil r0
  obtain rfl : args = #[v0] := by cases args; simp_all
  obtain ⟨rfl, rfl⟩ := trodVars_none hV
  have k0 := h0
  have lt0 : ∀ x ∈ p0, x.block < W.heap.size := by obtain ⟨m, hm⟩ := k0; exact DataW.trod_lt m _ _ _ hm
  obtain ⟨v0_0, y0_0, n0, rfl, t0_0⟩ := agg1 Try.underlying33 (by kernel_rfl) (by kernel_rfl) (hval 0 33 v0 rfl rfl) h0
  obtain ⟨l0_0, e0_0, w0_0⟩ := open_cell (opens_slice (opens_int Try.underlying2) Try.underlying22 (by kernel_rfl) rfl) t0_0
  obtain ⟨A0_0, c0_0, rfl, hc0_0, hr0_0⟩ := row_cell e0_0
  clear hA0 hval0 hsz0 hsz
  refine (P.laws_FnExactFirstRests.walk Pure.FnExactFirstRests A0_0 c0_0 l0_0 W hr0_0 hc0_0 w0_0).mono fun e W' ⟨he, bel⟩ => ?_
  subst he
  exact ⟨_, rfl, _, _, _, [], _, [], hW', trodAll_mk1 (shut_bool Try.underlying4 _), (trodAll_cons_mk (Below.trod laidOut (by kernel_rfl) (of_decide_eq_true (by kernel_rfl)) k0 bel lt0) trodAll_mk0), rfl, bel.frame _, fun h => by cases h⟩
theorem over : Rows.fnExactFirstRestsRow.holds Try.pinned (OpenSpec.ofChange Rows.fnExactFirstRestsSpec) :=
  OpenClaim.holds_of_wide 4 Try.f4 rfl rfl rfl rfl rfl rfl rfl ⟨rfl, rfl, rfl, rfl, rfl⟩ rfl rfl rfl rfl rfl (by kernel_rfl) Try.func4 (by kernel_rfl)
    (of_decide_eq_true (by kernel_rfl)) (by unfold Func.isWrapper; first | (rw [if_pos (by decide +kernel)]; kernel_rfl) | (rw [if_neg (by decide +kernel)]; exact ⟨rfl, rfl⟩))
    (fun os started H enc _ => lifted os started H enc)
theorem proved : Rows.FnExactFirstRestsSaid := over
end Go.Proofs.Ytnmpjikiodnmnaa.fnExactFirstRests
namespace Go.Proofs.Ytnmpjikiodnmnaa
/-- The row, under a short name, for the claim. -/
theorem fnExactFirstRests_holds : Rows.FnExactFirstRestsSaid := fnExactFirstRests.proved
end Go.Proofs.Ytnmpjikiodnmnaa
end
