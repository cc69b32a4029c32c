/- Lessened gaps are at most the gaps, harmonic turns serve their tasks, and turns by powers and by one number serve. -/
import Derived.Test.YtgbapmmfhdphmaaCFnHarmonic9
import Derived.Test.YtgbapmmfhdphmaaRows
section
namespace Go.Proofs.Ytgbapmmfhdphmaa.Pure
open Go.RowKit Go.Proofs.Ytgbapmmfhdphmaa.P Go.Proofs.YtgbapmmfhdphmaaW.PrintWords Go.Proofs.YtgbapmmfhdphmaaW.PrintLast Go.Proofs.YtgbapmmfhdphmaaW.PrintMore
set_option linter.unusedVariables false
set_option linter.unusedSimpArgs false
theorem Harmonic_j2 {b : List Int} (hb : Bytes b) : Ev (fun k => laws_FnHarmonic.j2 k b) true := by
  refine Ev.step (fun k => by rw [laws_FnHarmonic.j2]) (evp_true ?_)
  refine evp_bind (DrawLessenGaps_evp hb) ?_
  rintro ⟨G, x⟩ hG
  have hG : G.length ≤ 1000 := hG
  refine evp_of ?_ rfl
  have hlen : (lessR G x).1.length ≤ 1000 := by
    unfold lessR
    split
    · split
      · split
        · show (lesG G x).length ≤ 1000; rw [lesG_length]; exact hG
        · simp
      · simp
    · simp
  refine ev_bind (LessenGaps_impl G x) (ev_bind (LessenGaps_spec G (by omega) x) (ev_pos rfl (ev_bind (a := true) ?_ ?_)))
  · unfold laws_tasks5.f
    exact ev_bind (likeInts_ev _ (by omega)) (ev_now _)
  · refine Ev.step (fun k => by rw [laws_FnHarmonic.j3]) (ev_neg (by simp) ?_)
    by_cases c : (lessR G x).2 = 0
    · obtain ⟨ht, hx, hle, e⟩ : isTasks G = true ∧ (1 ≤ x ∧ x ≤ 40) ∧ x ≤ leastL G ∧ lessR G x = (lesG G x, 0) := by
        unfold lessR at c ⊢
        split at c
        · next ht =>
          split at c
          · next hx =>
            split at c
            · next hle => exact ⟨ht, hx, hle, by rw [if_pos ht, if_pos hx, if_pos hle]⟩
            · exact absurd c (by decide)
          · exact absurd c (by decide)
        · exact absurd c (by decide)
      obtain ⟨h8, hG2⟩ := (isTasks_iff G).1 ht
      have hx2 := (le_leastL h8.1 x).1 hle
      have ht2 : isTasks (lesG G x) = true := (isTasks_iff _).2 ⟨by rw [lesG_length]; exact h8, lesG_ok hG2 hx.1 hx2⟩
      have hA : areHR (lesG G x) = (true, 0) := by rw [areHR, if_pos ht2, lesG_harm hG2 hx.1 hx2]
      rw [e]
      refine ev_pos rfl (ev_fix ((AreHarmonic_impl _).trans (by rw [hA])) (ev_pos rfl (ev_pos rfl ?_)))
      rw [show (((lesG G x, (0 : Int)).1.length : Int) != (G.length : Int)) = false by rw [bne_eq_false_iff_eq]; show ((lesG G x).length : Int) = _; rw [lesG_length]]
      refine Ev.step (fun k => by rw [laws_FnHarmonic.j4]) (ev_neg (by simp) ?_)
      exact Harmonic_l0 hb ht hx.1 hle G.length 0 (by omega)
    · exact ev_neg c (Harmonic_j6 hb)
theorem harmR_ok {G : List Int} (h : (harmR G).2 = 0) : isTasks G = true ∧ harmB G = true ∧ harmT G = some (harmR G).1 := by
  unfold harmR at h ⊢
  split at h
  · next ht =>
    rw [if_pos ht]
    split at h
    · next hh =>
      rw [if_pos hh]
      split at h
      · next r hr => exact ⟨ht, hh, hr⟩
      · exact absurd h (by decide)
    · exact absurd h (by decide)
  · exact absurd h (by decide)
theorem Harmonic_j1 {b : List Int} (hb : Bytes b) (G : List Int) : Ev (fun k => laws_FnHarmonic.j1 k b (harmR G).1 (harmR G).2 G) true := by
  refine Ev.step (fun k => by rw [laws_FnHarmonic.j1]) ?_
  by_cases c : (harmR G).2 = 0
  · obtain ⟨ht, hh, hr⟩ := harmR_ok c
    obtain ⟨h8, hG⟩ := (isTasks_iff G).1 ht
    obtain ⟨_, ht1, _⟩ := harm_turns ht hr
    have E := DoServe_impl G (harmR G).1
    rw [doServe_ok ht ht1 (harmT_cyc hG h8.1 hh hr)] at E
    exact ev_pos c (ev_bind E (ev_pos rfl (ev_pos rfl (Harmonic_j2 hb))))
  · exact ev_neg c (Harmonic_j2 hb)
theorem thin_dens {G : List Int} (ht : isTasks G = true) (hh : harmB G = true) : ((harmR G).2 == 0) = decide ((dgR G).1 ≤ (dgR G).2) ∧ ((harmR G).2 != 5) = true := by
  obtain ⟨h8, hG⟩ := (isTasks_iff G).1 ht
  obtain ⟨_, g1, g2⟩ := harm_great hG h8.1
  rw [dgR_harm G hG h8.1 hh]
  have e := harmT_none G hG h8 hh
  have hg : 0 < Nat.gcd (sumG (great G).toNat G) (great G).toNat := Nat.gcd_pos_of_pos_right _ (by omega)
  have a1 := Nat.div_mul_cancel (Nat.gcd_dvd_left (sumG (great G).toNat G) (great G).toNat)
  have a2 := Nat.div_mul_cancel (Nat.gcd_dvd_right (sumG (great G).toNat G) (great G).toNat)
  have key : ((densR G).1 ≤ (densR G).2) ↔ sumG (great G).toNat G ≤ (great G).toNat := by
    unfold densR
    constructor
    · intro h
      have h2 := Nat.mul_le_mul_right (Nat.gcd (sumG (great G).toNat G) (great G).toNat) (Int.ofNat_le.1 h)
      omega
    · intro h
      exact Int.ofNat_le.2 (Nat.div_le_div_right h)
  rw [harmR, if_pos ht, if_pos hh]
  cases hr : harmT G with
  | some r =>
    refine ⟨(decide_eq_true (key.2 ?_)).symm, by show ((0 : Int) != 5) = true; decide⟩
    by_cases c : sumG (great G).toNat G ≤ (great G).toNat
    · exact c
    · exact absurd (e.2 c) (by rw [hr]; simp)
  | none => exact ⟨(decide_eq_false (fun h => e.1 hr (key.1 h))).symm, by show ((4 : Int) != 5) = true; decide⟩
theorem FnHarmonic : laws_FnHarmonic.Pure := by
  intro b _ _ hw
  have hb0 : ∀ x ∈ b, 0 ≤ x ∧ x ≤ 255 := fun x hx => by
    have h := hw x hx
    rw [Lit.wf, Bool.and_eq_true] at h
    exact ⟨of_decide_eq_true h.1, of_decide_eq_true h.2⟩
  refine ev_rounds (g := fun k => laws_FnHarmonic.f k b) ?_
  unfold laws_FnHarmonic.f
  refine ev_fix (a := decide ((b.length : Int) > 4096)) rfl ?_
  by_cases c : (b.length : Int) > 4096
  · exact ev_pos (decide_eq_true c) (ev_now _)
  have hb : Bytes b := ⟨hb0, by omega⟩
  refine ev_neg (by rw [decide_eq_false c]; simp) (evp_true ?_)
  refine evp_bind (DrawHarmonicTurns_evp hb) fun G hG => evp_of ?_ rfl
  have e1 := harmR_length G
  refine ev_bind (HarmonicTurns_impl G) (ev_bind (HarmonicTurns_spec G (by omega)) (ev_fix (AreHarmonic_impl G) (ev_bind (AreHarmonic_spec G (by omega)) (ev_pos rfl (ev_bind (likeInts_ev _ (by omega)) (ev_pos rfl (ev_pos rfl ?_)))))))
  rw [bne_self_eq_false]
  refine Ev.step (fun k => by rw [laws_FnHarmonic.j0]) (ev_neg (by simp) ?_)
  by_cases ht : isTasks G = true
  · have hA : areHR G = (harmB G, 0) := by rw [areHR, if_pos ht]
    have hD : densOfR G = ((dgR G).1, (dgR G).2, 0) := by rw [densOfR, if_pos ht]
    have ED := DensityOf_any G
    rw [hD] at ED
    rw [hA]
    refine ev_pos rfl (ev_bind ED (ev_pos rfl ?_))
    cases hh : harmB G with
    | false =>
      have h5 : (harmR G).2 = 5 := by rw [harmR, if_pos ht, hh]; rfl
      refine ev_neg ?_ (ev_neg (by simp) (Harmonic_j1 hb G))
      rw [h5]; decide
    | true =>
      obtain ⟨k1, k2⟩ := thin_dens ht hh
      refine ev_neg ?_ (ev_pos rfl (ev_neg ?_ (Harmonic_j1 hb G)))
      · show ¬ ((true, (0 : Int)).1 != ((harmR G).2 != 5)) = true
        rw [k2]; decide
      · show ¬ (((harmR G).2 == 0) != decide ((dgR G).1 ≤ (dgR G).2)) = true
        rw [k1, bne_self_eq_false]; simp
  · have hA : areHR G = (false, 1) := by rw [areHR, if_neg ht]
    rw [hA]
    exact ev_neg (by decide) (Harmonic_j1 hb G)
end Go.Proofs.Ytgbapmmfhdphmaa.Pure
end
section
namespace Go.Proofs.Ytgbapmmfhdphmaa.fnHarmonic
open Go.ChangeShapes Go.WideShapes Go.ChangeAt Go.RowKit
open Go.ChangeMaps (open_string shut_string)
set_option linter.unusedVariables false
theorem own : ownKnob Try.prog.godebug = none := by kernel_rfl
theorem laidOut : laidOutB Try.prog = true := by kernel_rfl
def IsRow (k : IntKind) (w : World) (a : Option Addr) (len cap : Nat) (zs : List Int) : Prop :=
  (a = none ∧ len = 0 ∧ cap = 0 ∧ zs = []) ∨
  ∃ x, a = some x ∧ len ≤ cap ∧ cap ≤ maxLen ∧ zs.length = cap ∧ (∀ i, i < zs.length → w.cell? (x.add i) = some (.int k (zs.getD i 0))) ∧ ∀ n ∈ zs, (Lit.int k n).wf = true
set_option maxRecDepth 100000 in
theorem lifted (os : Os) (started : os.Started) (H : Type) (enc : TypeId × Value → H) :
    ReturnsInHanded {} Try.checked os 3 .any (Rows.fnHarmonicSpec.pre6 enc Try.prog Try.f3 Rows.fnHarmonicRow.domain false) (Rows.fnHarmonicSpec.post enc Try.prog Try.f3 false true false false) := by
  refine returnsInHanded_of_change_sized (C := Try.checked) own started (by kernel_rfl) Try.func3
    (ChangeSpec.witness6 (enc := enc) (C := Try.checked) false ⟨#[], #[.slice none 0 0], []⟩ 8 (by kernel_rfl) (by kernel_rfl) (by kernel_rfl) (by kernel_rfl)) ?_
  intro W base args ds gs before hval0 hW hcnd hsz0 _
  have hsz : (DataW.weightsEach Try.prog (Try.f3.params.toList ++ Rows.fnHarmonicSpec.plain.varTypes Try.prog) (ds ++ gs)).all (· ≤ reachBytes) = true := hsz0
  have hval : ∀ (j : Nat) t v, Try.f3.params[j]? = some t → args[j]? = some v → Value.okWide Try.prog W .any base t v := hval0
  have hW' := hW
  obtain ⟨p, q, hA0, hV, rfl, hfz, hnd⟩ := hW
  have hA : DataW.TrodAll enc Try.prog W 0 (fun _ => true) true Try.f3.params.toList args.toList ds p := hA0
  rw [Try.params3] at hA hval hsz
  obtain ⟨v0, vs0, d0, ds0, p0, q0, hargs, rfl, rfl, h0, r0⟩ := trodAll_cons hA
  obtain ⟨rfl, rfl, rfl⟩ := trodAll_nil r0
  obtain rfl : args = #[v0] := by cases args; simp_all
  obtain ⟨rfl, rfl⟩ := trodVars_none hV
  obtain ⟨a0, len0, cap0, rfl⟩ := okWide_slice Try.underlying22 (hval 0 22 v0 rfl rfl)
  have k0 := h0
  have lt0 : ∀ x ∈ p0, x.block < W.heap.size := by obtain ⟨m, hm⟩ := k0; exact DataW.trod_lt m _ _ _ hm
  obtain ⟨z0, w0⟩ : ∃ zs, IsRow .u8 W a0 len0 cap0 zs := by
    obtain ⟨fuel, hf⟩ := h0
    rcases open_ints Try.underlying22 Try.underlying5 (by kernel_rfl) hf with ⟨hcs, _⟩ | ⟨x, l, c, zs, hcs, _, hl, hm, hz, _, hcell, hwz⟩
    · simp [Value.cells] at hcs
      obtain ⟨rfl, rfl, rfl⟩ := hcs
      exact ⟨[], .inl ⟨rfl, rfl, rfl, rfl⟩⟩
    · simp [Value.cells] at hcs
      obtain ⟨rfl, rfl, rfl⟩ := hcs
      exact ⟨zs, .inr ⟨_, rfl, hl, hm, by simpa using hz, hcell, hwz⟩⟩
  have y0 : len0 * 1 ≤ 140737488351232 := Go.Proofs.YtgbapmmfhdphmaaW.PrintWords.sized_ints hsz (j := 0) (t := 22) rfl rfl Try.underlying22 Try.underlying5 (by kernel_rfl) (by kernel_rfl) h0
  clear hA0 hval0 hsz0 hsz
  refine (P.laws_FnHarmonic.walk Pure.FnHarmonic a0 len0 cap0 z0 W w0 y0).mono fun e W' ⟨he, bel⟩ => ?_
  subst he
  exact ⟨_, rfl, _, _, _, [], _, [], hW', trodAll_mk1 (shut_bool Try.underlying4 _), (trodAll_cons_mk (Below.trod laidOut (by kernel_rfl) (of_decide_eq_true (by kernel_rfl)) k0 bel lt0) trodAll_mk0), rfl, bel.frame _, fun h => by cases h⟩
theorem over : Rows.fnHarmonicRow.holds Try.pinned (OpenSpec.ofChange Rows.fnHarmonicSpec) :=
  OpenClaim.holds_of_wide 3 Try.f3 rfl rfl rfl rfl rfl rfl rfl ⟨rfl, rfl, rfl, rfl, rfl⟩ rfl rfl rfl rfl rfl (by kernel_rfl) Try.func3 (by kernel_rfl)
    (of_decide_eq_true (by kernel_rfl)) (by unfold Func.isWrapper; first | (rw [if_pos (by decide +kernel)]; kernel_rfl) | (rw [if_neg (by decide +kernel)]; exact ⟨rfl, rfl⟩))
    (fun os started H enc _ => lifted os started H enc)
theorem proved : Rows.FnHarmonicSaid := over
end Go.Proofs.Ytgbapmmfhdphmaa.fnHarmonic
namespace Go.Proofs.Ytgbapmmfhdphmaa
/-- The row, under a short name, for the claim. -/
theorem fnHarmonic_holds : Rows.FnHarmonicSaid := fnHarmonic.proved
end Go.Proofs.Ytgbapmmfhdphmaa
end
