/- The program's CanMeet returns what the reference's returns, for all jobs; no condition beside. -/
import Derived.Test.YtjkgjmaldbmgmaaCFnExactCanMeet7
import Derived.Test.YtjkgjmaldbmgmaaRows
section
namespace Go.Proofs.Ytjkgjmaldbmgmaa.fnExactCanMeet
open Go.ChangeShapes Go.WideShapes Go.ChangeAt Go.RowKit Go.Deep Go.Proofs.Ytjkgjmaldbmgmaa.P
open Go.ChangeMaps (open_string shut_string)
set_option linter.unusedVariables false
set_option maxRecDepth 100000 in
theorem lifted (os : Os) (started : os.Started) (H : Type) (enc : TypeId × Value → H) :
    ReturnsInHanded {} Try.checked os 4 .any (Rows.fnExactCanMeetSpec.pre6 enc Try.prog Try.f4 Rows.fnExactCanMeetRow.domain false) (Rows.fnExactCanMeetSpec.post enc Try.prog Try.f4 false true false false) := by
  refine returnsInHanded_of_change_sized (C := Try.checked) own started (by kernel_rfl) Try.func4
    (ChangeSpec.witness6 (enc := enc) (C := Try.checked) false ⟨#[], #[.agg #[.slice none 0 0, .slice none 0 0, .slice none 0 0]], []⟩ 8 (by kernel_rfl) (by kernel_rfl) (by kernel_rfl) (by kernel_rfl)) ?_
  intro W base args ds gs before hval0 hW hcnd hsz0 _
  have hsz : (DataW.weightsEach Try.prog (Try.f4.params.toList ++ Rows.fnExactCanMeetSpec.plain.varTypes Try.prog) (ds ++ gs)).all (· ≤ reachBytes) = true := hsz0
  have hval : ∀ (j : Nat) t v, Try.f4.params[j]? = some t → args[j]? = some v → Value.okWide Try.prog W .any base t v := hval0
  have hW' := hW
  obtain ⟨p, q, hA0, hV, rfl, hfz, hnd⟩ := hW
  have hA : DataW.TrodAll enc Try.prog W 0 (fun _ => true) true Try.f4.params.toList args.toList ds p := hA0
  rw [Try.params4] at hA hval hsz
  obtain ⟨v0, vs0, d0, ds0, p0, q0, hargs, rfl, rfl, h0, r0⟩ := trodAll_cons hA
  obtain ⟨rfl, rfl, rfl⟩ := trodAll_nil r0
  obtain rfl : args = #[v0] := by cases args; simp_all
  obtain ⟨rfl, rfl⟩ := trodVars_none hV
  have k0 := h0
  have lt0 : ∀ x ∈ p0, x.block < W.heap.size := by obtain ⟨m, hm⟩ := k0; exact DataW.trod_lt m _ _ _ hm
  obtain ⟨v0_0, v0_1, v0_2, y0_0, y0_1, y0_2, n0, rfl, t0_0, t0_1, t0_2⟩ := agg3 Try.underlying29 (by kernel_rfl) (by kernel_rfl) (hval 0 29 v0 rfl rfl) h0
  obtain ⟨l0_0, e0_0, w0_0⟩ := open_cell (opens_slice (opens_int Try.underlying2) Try.underlying22 (by kernel_rfl) rfl) t0_0
  obtain ⟨A0_0, c0_0, rfl, hc0_0, hr0_0⟩ := row_cell e0_0
  obtain ⟨l0_1, e0_1, w0_1⟩ := open_cell (opens_slice (opens_int Try.underlying2) Try.underlying22 (by kernel_rfl) rfl) t0_1
  obtain ⟨A0_1, c0_1, rfl, hc0_1, hr0_1⟩ := row_cell e0_1
  obtain ⟨l0_2, e0_2, w0_2⟩ := open_cell (opens_slice (opens_int Try.underlying2) Try.underlying22 (by kernel_rfl) rfl) t0_2
  obtain ⟨A0_2, c0_2, rfl, hc0_2, hr0_2⟩ := row_cell e0_2
  clear hA0 hval0 hsz0 hsz
  refine (P.laws_FnExactCanMeet.walk Pure.FnExactCanMeet A0_0 c0_0 l0_0 A0_1 c0_1 l0_1 A0_2 c0_2 l0_2 W hr0_0 hc0_0 hr0_1 hc0_1 hr0_2 hc0_2 w0_0 w0_1 w0_2).mono fun e W' ⟨he, bel⟩ => ?_
  subst he
  exact ⟨_, rfl, _, _, _, [], _, [], hW', trodAll_mk1 (shut_bool Try.underlying4 _), (trodAll_cons_mk (Below.trod laidOut (by kernel_rfl) (of_decide_eq_true (by kernel_rfl)) k0 bel lt0) trodAll_mk0), rfl, bel.frame _, fun h => by cases h⟩
theorem over : Rows.fnExactCanMeetRow.holds Try.pinned (OpenSpec.ofChange Rows.fnExactCanMeetSpec) :=
  OpenClaim.holds_of_wide 4 Try.f4 rfl rfl rfl rfl rfl rfl rfl ⟨rfl, rfl, rfl, rfl, rfl⟩ rfl rfl rfl rfl rfl (by kernel_rfl) Try.func4 (by kernel_rfl)
    (of_decide_eq_true (by kernel_rfl)) (by unfold Func.isWrapper; first | (rw [if_pos (by decide +kernel)]; kernel_rfl) | (rw [if_neg (by decide +kernel)]; exact ⟨rfl, rfl⟩))
    (fun os started H enc _ => lifted os started H enc)
theorem proved : Rows.FnExactCanMeetSaid := over
end Go.Proofs.Ytjkgjmaldbmgmaa.fnExactCanMeet
namespace Go.Proofs.Ytjkgjmaldbmgmaa
/-- The row, under a short name, for the claim. -/
theorem fnExactCanMeet_holds : Rows.FnExactCanMeetSaid := fnExactCanMeet.proved
end Go.Proofs.Ytjkgjmaldbmgmaa
end
