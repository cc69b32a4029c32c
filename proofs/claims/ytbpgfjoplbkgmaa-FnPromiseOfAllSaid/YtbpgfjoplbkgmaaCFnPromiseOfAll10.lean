/- Harmonic turns of any tasks serve, also shifted and repeated, their densities are at most 1, and nobody waits longer than told. -/
import Derived.Test.YtbpgfjoplbkgmaaCFnPromiseOfAll9
import Derived.Test.YtbpgfjoplbkgmaaRows
section
namespace Go.Proofs.Ytbpgfjoplbkgmaa.Pure
open Go.RowKit Go.Proofs.Ytbpgfjoplbkgmaa.P Go.Proofs.YtbpgfjoplbkgmaaW.PrintWords Go.Proofs.YtbpgfjoplbkgmaaW.PrintLast Go.Proofs.YtbpgfjoplbkgmaaW.PrintMore
set_option linter.unusedVariables false
set_option linter.unusedSimpArgs false
theorem Promise_tail {G r : List Int} (ht : isTasks G = true) (hh : harmB G = true) (hr : harmT G = some r) (a b : Int) (x : Int) : Ev (fun k => laws_FnPromiseOfAll.j5 k a b r r G x false G) true := by
  obtain ⟨hl, ht1, ht8⟩ := harm_turns ht hr
  have e1 := shiftR_len r a
  have e2 := repR_len (shiftR r a).1 b
  refine Ev.step (fun k => by rw [laws_FnPromiseOfAll.j5]) (ev_neg (by simp) ?_)
  refine ev_bind (ShiftTurns_impl r a) (ev_bind (ShiftTurns_spec r (by omega) a) (ev_bind (RepeatTurns_impl _ b) (ev_bind (RepeatTurns_spec _ (by omega) b) ?_)))
  refine ev_pos rfl (ev_bind (likeInts_ev _ (by omega)) (ev_pos rfl ?_))
  have key : (shiftR r a).2 = 0 → (repR (shiftR r a).1 b).2 = 0 → doServeR G (repR (shiftR r a).1 b).1 = (true, 0) := by
    intro h1 h2
    by_cases c : 0 ≤ a ∧ a ≤ (r.length : Int)
    · have es : shiftR r a = (r.drop a.toNat ++ r.take a.toNat, 0) := by rw [shiftR, if_pos ht8, if_pos c]
      have hlen : (r.drop a.toNat ++ r.take a.toNat).length = r.length := by rw [List.length_append, List.length_drop, List.length_take]; omega
      rw [es] at h2 ⊢
      by_cases d : 1 ≤ b ∧ b ≤ 120
      · by_cases f : b * ((r.drop a.toNat ++ r.take a.toNat).length : Int) > 120
        · rw [repR, if_pos (shift_turns ht8 _), if_pos d, if_pos f] at h2
          exact absurd h2 (by decide)
        · rw [repR, if_pos (shift_turns ht8 _), if_pos d, if_neg f]
          obtain ⟨m, rfl⟩ : ∃ m : Nat, b = m := ⟨b.toNat, by omega⟩
          rw [hlen, ← Int.natCast_mul] at f
          exact harm_again ht hh hr a.toNat m (by omega) (by omega) (by omega)
      · rw [repR, if_pos (shift_turns ht8 _), if_neg d] at h2
        exact absurd h2 (by decide)
    · rw [shiftR, if_pos ht8, if_neg c] at h1
      exact absurd h1 (by decide)
  by_cases h0 : (shiftR r a).2 = 0
  · refine ev_pos h0 (ev_pos rfl (ev_bind (likeInts_ev _ (by omega)) ?_))
    exact Promise_j6 G _ _ _ key
  · exact ev_neg h0 (Promise_j6 G _ _ _ key)
theorem Promise_l0 {G r : List Int} (ht : isTasks G = true) (hh : harmB G = true) (hr : harmT G = some r) (a b : Int) : ∀ d n : Nat, n + d = G.length → Ev (fun k => laws_FnPromiseOfAll.l0 k a b r r G (n : Int) G) true := by
  obtain ⟨hl, _, _⟩ := harm_turns ht hr
  obtain ⟨h8, hG⟩ := (isTasks_iff G).1 ht
  intro d
  induction d with
  | zero =>
    intro n hn
    refine Ev.step (fun k => by rw [laws_FnPromiseOfAll.l0]) (ev_pos (by omega) ?_)
    rw [decide_eq_false (show ¬ (n : Int) < (G.length : Int) by omega)]
    exact Promise_tail ht hh hr a b _
  | succ d ih =>
    intro n hn
    refine Ev.step (fun k => by rw [laws_FnPromiseOfAll.l0]) (ev_pos (by omega) ?_)
    rw [decide_eq_true (show (n : Int) < (G.length : Int) by omega)]
    refine Ev.step (fun k => by rw [laws_FnPromiseOfAll.j5]) (ev_pos rfl (ev_pos (by omega) (ev_pos (by omega) (ev_pos (by omega) (ev_neg (by omega) ?_)))))
    rw [wrap_succ (n := n) (by omega)]
    exact ih (n + 1) (by omega)
theorem FnPromiseOfAll : laws_FnPromiseOfAll.Pure := by
  intro G a b _ _ _
  refine ev_rounds (g := fun k => laws_FnPromiseOfAll.f k G a b) ?_
  unfold laws_FnPromiseOfAll.f
  by_cases c : (G.length : Int) > 1000
  · exact ev_pos c (ev_now _)
  · have hrl := harmR_length G
    refine ev_neg c (ev_bind (HarmonicTurns_impl G) (ev_bind (HarmonicTurns_spec G (by omega)) (ev_pos rfl (ev_bind (likeInts_ev _ (by omega)) ?_))))
    refine Ev.step (fun k => by rw [laws_FnPromiseOfAll.j0]) (ev_neg (by simp) ?_)
    by_cases h0 : (harmR G).2 = 0
    · refine ev_pos h0 ?_
      obtain ⟨r, ht, hh, hr⟩ : ∃ r, isTasks G = true ∧ harmB G = true ∧ harmT G = some r := by
        unfold harmR at h0
        split at h0
        · next ht =>
          split at h0
          · next hh =>
            split at h0
            · next r hr => exact ⟨r, ht, hh, hr⟩
            · exact absurd h0 (by decide)
          · exact absurd h0 (by decide)
        · exact absurd h0 (by decide)
      obtain ⟨h8, hG⟩ := (isTasks_iff G).1 ht
      have hR : harmR G = (r, 0) := by rw [harmR, if_pos ht, if_pos hh, hr]
      rw [hR]
      obtain ⟨hl, ht1, ht8⟩ := harm_turns ht hr
      have hN : sumG (great G).toNat G ≤ (great G).toNat := by
        by_cases e : sumG (great G).toNat G ≤ (great G).toNat
        · exact e
        · exact absurd ((harmT_none G hG h8 hh).2 e) (by rw [hr]; simp)
      obtain ⟨d1, d2, _⟩ := densR_ok hG h8.1 hN
      have E2 := DoServe_impl G r
      rw [doServe_ok ht ht1 (harmT_cyc hG h8.1 hh hr)] at E2
      have hgw := harm_gw ht hh hr
      have E6 := GreatestWaits_impl r
      rw [hgw] at E6
      have E7 := GreatestWaits_spec r (by omega)
      rw [hgw] at E7
      refine ev_bind E2 (ev_bind (DensityOf_impl G ht hh) (ev_bind (DensityOf_spec G (by omega) ht hh) ?_))
      refine ev_pos rfl (ev_pos rfl (ev_pos rfl (ev_pos rfl (ev_pos rfl (ev_neg (show ¬ (densR G).2 < 1 by omega) ?_)))))
      rw [show decide ((densR G).1 > (densR G).2) = false from decide_eq_false (by omega)]
      refine Ev.step (fun k => by rw [laws_FnPromiseOfAll.j1]) (ev_neg (by simp) ?_)
      refine ev_bind E6 (ev_bind E7 (ev_pos rfl (ev_bind (likeInts_ev _ (by show G.length ≤ 1048576; omega)) ?_)))
      refine Ev.step (fun k => by rw [laws_FnPromiseOfAll.j2]) (ev_neg (by simp) (ev_pos (by show (r.length : Int) > 0; omega) (ev_pos rfl ?_)))
      rw [bne_self_eq_false]
      refine Ev.step (fun k => by rw [laws_FnPromiseOfAll.j3]) (ev_neg (by simp) ?_)
      exact Promise_l0 ht hh hr a b G.length 0 (by omega)
    · exact ev_neg h0 (ev_now _)
end Go.Proofs.Ytbpgfjoplbkgmaa.Pure
end
section
namespace Go.Proofs.Ytbpgfjoplbkgmaa.fnPromiseOfAll
open Go.ChangeShapes Go.WideShapes Go.ChangeAt Go.RowKit Go.Deep Go.Proofs.Ytbpgfjoplbkgmaa.P
open Go.ChangeMaps (open_string shut_string)
set_option linter.unusedVariables false
theorem own : ownKnob Try.prog.godebug = none := by kernel_rfl
theorem laidOut : laidOutB Try.prog = true := by kernel_rfl
set_option maxRecDepth 100000 in
theorem lifted (os : Os) (started : os.Started) (H : Type) (enc : TypeId × Value → H) :
    ReturnsInHanded {} Try.checked os 5 .any (Rows.fnPromiseOfAllSpec.pre6 enc Try.prog Try.f5 Rows.fnPromiseOfAllRow.domain false) (Rows.fnPromiseOfAllSpec.post enc Try.prog Try.f5 false true false false) := by
  refine returnsInHanded_of_change_sized (C := Try.checked) own started (by kernel_rfl) Try.func5
    (ChangeSpec.witness6 (enc := enc) (C := Try.checked) false ⟨#[], #[.agg #[.slice none 0 0], .int .i64 0, .int .i64 0], []⟩ 8 (by kernel_rfl) (by kernel_rfl) (by kernel_rfl) (by kernel_rfl)) ?_
  intro W base args ds gs before hval0 hW hcnd hsz0 _
  have hsz : (DataW.weightsEach Try.prog (Try.f5.params.toList ++ Rows.fnPromiseOfAllSpec.plain.varTypes Try.prog) (ds ++ gs)).all (· ≤ reachBytes) = true := hsz0
  have hval : ∀ (j : Nat) t v, Try.f5.params[j]? = some t → args[j]? = some v → Value.okWide Try.prog W .any base t v := hval0
  have hW' := hW
  obtain ⟨p, q, hA0, hV, rfl, hfz, hnd⟩ := hW
  have hA : DataW.TrodAll enc Try.prog W 0 (fun _ => true) true Try.f5.params.toList args.toList ds p := hA0
  rw [Try.params5] at hA hval hsz
  obtain ⟨v0, vs0, d0, ds0, p0, q0, hargs, rfl, rfl, h0, r0⟩ := trodAll_cons hA
  obtain ⟨v1, vs1, d1, ds1, p1, q1, rfl, rfl, rfl, h1, r1⟩ := trodAll_cons r0
  obtain ⟨v2, vs2, d2, ds2, p2, q2, rfl, rfl, rfl, h2, r2⟩ := trodAll_cons r1
  obtain ⟨rfl, rfl, rfl⟩ := trodAll_nil r2
  obtain rfl : args = #[v0, v1, v2] := by cases args; simp_all
  obtain ⟨rfl, rfl⟩ := trodVars_none hV
  have k0 := h0
  have lt0 : ∀ x ∈ p0, x.block < W.heap.size := by obtain ⟨m, hm⟩ := k0; exact DataW.trod_lt m _ _ _ hm
  obtain ⟨v0_0, y0_0, n0, rfl, t0_0⟩ := agg1 Try.underlying34 (by kernel_rfl) (by kernel_rfl) (hval 0 34 v0 rfl rfl) h0
  obtain ⟨l0_0, e0_0, w0_0⟩ := open_cell (opens_slice (opens_int Try.underlying2) Try.underlying24 (by kernel_rfl) rfl) t0_0
  obtain ⟨A0_0, c0_0, rfl, hc0_0, hr0_0⟩ := row_cell e0_0
  obtain ⟨a1, rfl, rfl, rfl, w1⟩ := open_int Try.underlying2 (hval 1 2 v1 rfl rfl) h1
  obtain ⟨a2, rfl, rfl, rfl, w2⟩ := open_int Try.underlying2 (hval 2 2 v2 rfl rfl) h2
  clear hA0 hval0 hsz0 hsz
  refine (P.laws_FnPromiseOfAll.walk Pure.FnPromiseOfAll A0_0 c0_0 l0_0 a1 a2 W hr0_0 hc0_0 w0_0 w1 w2).mono fun e W' ⟨he, bel⟩ => ?_
  subst he
  exact ⟨_, rfl, _, _, _, [], _, [], hW', trodAll_mk1 (shut_bool Try.underlying4 _), (trodAll_cons_mk (Below.trod laidOut (by kernel_rfl) (of_decide_eq_true (by kernel_rfl)) k0 bel lt0) (trodAll_cons_mk (shut_int Try.underlying2 w1) (trodAll_cons_mk (shut_int Try.underlying2 w2) trodAll_mk0))), rfl, bel.frame _, fun h => by cases h⟩
theorem over : Rows.fnPromiseOfAllRow.holds Try.pinned (OpenSpec.ofChange Rows.fnPromiseOfAllSpec) :=
  OpenClaim.holds_of_wide 5 Try.f5 rfl rfl rfl rfl rfl rfl rfl ⟨rfl, rfl, rfl, rfl, rfl⟩ rfl rfl rfl rfl rfl (by kernel_rfl) Try.func5 (by kernel_rfl)
    (of_decide_eq_true (by kernel_rfl)) (by unfold Func.isWrapper; first | (rw [if_pos (by decide +kernel)]; kernel_rfl) | (rw [if_neg (by decide +kernel)]; exact ⟨rfl, rfl⟩))
    (fun os started H enc _ => lifted os started H enc)
theorem proved : Rows.FnPromiseOfAllSaid := over
end Go.Proofs.Ytbpgfjoplbkgmaa.fnPromiseOfAll
namespace Go.Proofs.Ytbpgfjoplbkgmaa
/-- The row, under a short name, for the claim. -/
theorem fnPromiseOfAll_holds : Rows.FnPromiseOfAllSaid := fnPromiseOfAll.proved
end Go.Proofs.Ytbpgfjoplbkgmaa
end
