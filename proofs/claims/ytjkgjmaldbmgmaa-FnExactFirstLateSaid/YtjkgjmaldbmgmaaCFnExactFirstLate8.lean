/- The program's FirstLate returns what the reference's returns, for all jobs; no condition beside. -/
import Derived.Test.YtjkgjmaldbmgmaaCFnExactFirstLate7
import Derived.Test.YtjkgjmaldbmgmaaRows
section
namespace Go.Proofs.Ytjkgjmaldbmgmaa.Pure
open Go.RowKit Go.Proofs.Ytjkgjmaldbmgmaa.P Go.Proofs.YtjkgjmaldbmgmaaW.PrintWords Go.Proofs.YtjkgjmaldbmgmaaW.PrintLast Go.Proofs.YtjkgjmaldbmgmaaW.PrintMore
set_option linter.unusedVariables false
set_option linter.unusedSimpArgs false
theorem Slots_l1 (L P D : List Int) (whole slot : Int) (out left due : List Int) (hs : SInv L.length left due) (hk : L.length ≤ 8) (R : List Int × Int × Int) : ∀ d i : Nat, i + d = L.length →
    (lateGo left due slot d i < 0 → Ev (fun k => spec_l04Slots.l1 k whole out left due slot (L.length : Int) L P D) R) → (0 ≤ lateGo left due slot d i → R = (out, slot, lateGo left due slot d i)) →
    Ev (fun k => spec_l04Slots.l1 k whole out left due slot (i : Int) L P D) R := by
  have hl1 := hs.len
  have hl2 := hs.len2
  intro d
  induction d with
  | zero =>
    intro i hi h1 h2
    obtain rfl : i = L.length := by omega
    exact h1 (by simp [lateGo])
  | succ d ih =>
    intro i hi h1 h2
    refine Ev.step (fun k => by rw [spec_l04Slots.l1]) ?_
    refine ev_pos (by omega) (ev_pos (by omega) ?_)
    rw [wrap_succ (by omega)]
    rw [lateGo] at h1 h2
    by_cases c1 : rd left i > 0
    · refine ev_pos c1 (ev_pos (by omega) ?_)
      by_cases c2 : rd due i = slot
      · rw [if_pos ⟨c1, c2⟩] at h2
        exact ev_pos c2 (ev_is (by rw [h2 (by omega)]))
      · rw [if_neg (fun h => c2 h.2)] at h1 h2
        exact ev_neg c2 (ih _ (by omega) h1 h2)
    · rw [if_neg (fun h => c1 h.1)] at h1 h2
      exact ev_neg c1 (ih _ (by omega) h1 h2)
theorem Slots_l0 (L P D : List Int) (h : isJobs L P D = true) (whole : Int) (hw : whole ≤ 240) : ∀ (d : Nat) (slot : Int) (left due out : List Int), slot + d = whole → 0 ≤ slot → out.length = slot → SInv L.length left due →
    Ev (fun k => spec_l04Slots.l0 k whole out left due slot L P D) (slotsGo L P D d slot left due out) := by
  have hlen := isJobs_len h
  intro d
  induction d with
  | zero =>
    intro slot left due out hd h0 ho hs
    have hl1 := hs.len
    refine Ev.step (fun k => by rw [spec_l04Slots.l0]) ?_
    refine ev_pos (by omega) (Slots_l1 L P D whole slot out left due hs (by omega) _ L.length 0 (by omega) ?_ ?_)
    · intro hneg
      rw [slotsGo, if_neg (by omega)]
      exact Ev.step (fun k => by rw [spec_l04Slots.l1]) (ev_neg (by omega) (ev_pos (by omega) (ev_now _)))
    · intro hpos
      rw [slotsGo, if_pos (by omega)]
  | succ d ih =>
    intro slot left due out hd h0 ho hs
    have hl1 := hs.len
    refine Ev.step (fun k => by rw [spec_l04Slots.l0]) ?_
    refine ev_pos (by omega) (Slots_l1 L P D whole slot out left due hs (by omega) _ L.length 0 (by omega) ?_ ?_)
    · intro hneg
      rw [slotsGo, if_neg (by omega)]
      have hp := pick_ok L P D h slot left due hs
      refine Ev.step (fun k => by rw [spec_l04Slots.l1]) ?_
      refine ev_neg (by omega) (ev_neg (by omega) (Slots_l2 L P D h whole slot (by omega) out _ L.length 0 left due (-1) (by omega) hs (by omega) ?_))
      intro left' due' best' he
      rw [he] at hp ⊢
      have hi : SInv L.length left' due' := hp.inv
      have hb : Best left' due' L.length best' := hp.best
      have hw : SInv L.length (workOn left' best') due' := workOn_inv hi hb
      show Ev _ (slotsGo L P D d (slot + 1) (workOn left' best') due' (out ++ [best']))
      have hl := hi.len
      refine Ev.step (fun k => by rw [spec_l04Slots.l2]) (ev_neg (by omega) ?_)
      rw [wrap_id (x := slot + 1) (by omega) (by omega)]
      have ih := ih (slot + 1) _ due' (out ++ [best']) (by omega) (by omega) (by rw [List.length_append, List.length_singleton]; omega) hw
      rcases hb with ⟨hb, _⟩ | ⟨b, hb, hbk, hb1, _⟩
      · refine ev_neg (by omega) (ev_pos (by omega) ?_)
        rw [workOn, if_neg (by omega)] at ih ⊢
        exact ih
      · have hbd := hi.bnd b hbk
        subst hb
        refine ev_pos (by omega) (ev_pos (by omega) (ev_pos (by omega) (ev_pos (by omega) ?_)))
        rw [workOn, if_pos (by omega)] at ih ⊢
        rw [wrap_id (x := rd left' b - 1) (by omega) (by omega)]
        exact ih
    · intro hpos
      rw [slotsGo, if_pos (by omega)]
theorem SInv.start (k : Nat) : SInv k (List.replicate k 0) (List.replicate k 0) :=
  ⟨by simp, by simp, fun m hm => by rw [rd_nat (by simpa using hm)]; simp⟩
/-- the reference's slots -/
def slotsOf (L P D : List Int) : List Int × Int × Int := slotsGo L P D (lcmN 1 P) 0 (List.replicate L.length 0) (List.replicate L.length 0) []
theorem l04Slots_ev (L P D : List Int) (h : isJobs L P D = true) (hw : lcmN 1 P ≤ 240) : Ev (fun k => spec_l04Slots.f k L P D) (slotsOf L P D) := by
  unfold spec_l04Slots.f
  obtain ⟨r, hr, h3, _⟩ := l04Whole_ev L P D h
  rw [h3 hw] at hr
  have hlen := isJobs_len h
  refine ev_bind hr (ev_pos (by omega) (ev_pos (by omega) ?_))
  rw [Int.toNat_natCast]
  exact Slots_l0 L P D h _ (by omega) (lcmN 1 P) 0 _ _ [] (by omega) (by omega) (by simp) (SInv.start _)
end Go.Proofs.Ytjkgjmaldbmgmaa.Pure
end
section
namespace Go.Proofs.Ytjkgjmaldbmgmaa.Pure
open Go.RowKit Go.Proofs.Ytjkgjmaldbmgmaa.P Go.Proofs.YtjkgjmaldbmgmaaW.PrintWords Go.Proofs.YtjkgjmaldbmgmaaW.PrintLast Go.Proofs.YtjkgjmaldbmgmaaW.PrintMore
set_option linter.unusedVariables false
set_option linter.unusedSimpArgs false
def DueInv (k : Nat) (slot : Int) (left due : List Int) : Prop := ∀ m : Nat, m < k → rd left m > 0 → slot ≤ rd due m
theorem Early_l2 (L P D : List Int) (h : isJobs L P D = true) (slot : Int) (hs0 : 0 ≤ slot ∧ slot ≤ 240) (out : List Int) (R : List Int × Int) : ∀ (d i : Nat) (left due : List Int) (best : Int), i + d = L.length → SInv L.length left due → -1 ≤ best ∧ best < i →
    (∀ left' due' best', pickGo L P D slot d i left due best = (left', due', best') → Ev (fun k => impl_Jobs_earliest.l2 k left' due' out slot best' P (P.length : Int) (L.length : Int) L P D) R) →
    Ev (fun k => impl_Jobs_earliest.l2 k left due out slot best P (P.length : Int) (i : Int) L P D) R := by
  have hlen := isJobs_len h
  intro d
  induction d with
  | zero =>
    intro i left due best hi hs hb hR
    obtain rfl : i = L.length := by omega
    exact hR _ _ _ rfl
  | succ d ih =>
    intro i left due best hi hs hb hR
    have hat := isJobs_at h (i := i) (by omega)
    have hl1 := hs.len
    have hl2 := hs.len2
    refine Ev.step (fun k => by rw [impl_Jobs_earliest.l2]) ?_
    refine ev_pos (by omega) (ev_pos (by omega) (ev_pos (by omega) (ev_neg (by omega) ?_)))
    rw [pickGo] at hR
    by_cases c : Int.tmod slot (rd P i) = 0
    · rw [if_pos c] at hR
      refine ev_pos c (ev_pos (by omega) (ev_pos (by omega) (ev_pos (by omega) (ev_fix rfl (ev_pos (by omega) (ev_fix rfl ?_))))))
      rw [Int.toNat_natCast, wrap_id (x := slot + rd D i) (by omega) (by omega), wrap_succ (by omega)]
      have hs' := hs.set (i := i) (by omega) (x := rd L i) (by omega) (slot + rd D i)
      have hgo : ∀ b', pick1 (left.set i (rd L i)) (due.set i (slot + rd D i)) best i = b' → -1 ≤ b' ∧ b' < ((i + 1 : Nat) : Int) → Ev (fun k => impl_Jobs_earliest.l2 k (left.set i (rd L i)) (due.set i (slot + rd D i)) out slot b' P (P.length : Int) ((i + 1 : Nat) : Int) L P D) R := by
        intro b' hb' hr
        rw [hb'] at hR
        exact ih (i + 1) _ _ b' (by omega) hs' hr hR
      by_cases c1 : rd (left.set i (rd L i)) i > 0
      · refine ev_pos c1 ?_
        by_cases c2 : best < 0
        · exact ev_pos (by omega) (hgo _ (by rw [pick1, if_pos c1, if_pos c2]) (by omega))
        · refine ev_neg (by omega) (ev_pos (by omega) (ev_pos (by omega) ?_))
          by_cases c3 : rd (due.set i (slot + rd D i)) i < rd (due.set i (slot + rd D i)) best
          · exact ev_pos c3 (hgo _ (by rw [pick1, if_pos c1, if_neg c2, if_pos c3]) (by omega))
          · exact ev_neg c3 (hgo _ (by rw [pick1, if_pos c1, if_neg c2, if_neg c3]) (by omega))
      · exact ev_neg c1 (hgo _ (by rw [pick1, if_neg c1]) (by omega))
    · rw [if_neg c] at hR
      refine ev_neg c (ev_pos (by omega) ?_)
      rw [wrap_succ (by omega)]
      have hgo : ∀ b', pick1 left due best i = b' → -1 ≤ b' ∧ b' < ((i + 1 : Nat) : Int) → Ev (fun k => impl_Jobs_earliest.l2 k left due out slot b' P (P.length : Int) ((i + 1 : Nat) : Int) L P D) R := by
        intro b' hb' hr
        rw [hb'] at hR
        exact ih (i + 1) _ _ b' (by omega) hs hr hR
      by_cases c1 : rd left i > 0
      · refine ev_pos c1 ?_
        by_cases c2 : best < 0
        · exact ev_pos (by omega) (hgo _ (by rw [pick1, if_pos c1, if_pos c2]) (by omega))
        · refine ev_neg (by omega) (ev_pos (by omega) (ev_pos (by omega) (ev_pos (by omega) ?_)))
          by_cases c3 : rd due i < rd due best
          · exact ev_pos c3 (hgo _ (by rw [pick1, if_pos c1, if_neg c2, if_pos c3]) (by omega))
          · exact ev_neg c3 (hgo _ (by rw [pick1, if_pos c1, if_neg c2, if_neg c3]) (by omega))
      · exact ev_neg c1 (hgo _ (by rw [pick1, if_neg c1]) (by omega))
theorem Early_l1 (L P D : List Int) (slot : Int) (out left due : List Int) (hs : SInv L.length left due) (hk : L.length ≤ 8) (hd : DueInv L.length slot left due) (R : List Int × Int) : ∀ d i : Nat, i + d = L.length →
    (lateGo left due slot d i < 0 → Ev (fun k => impl_Jobs_earliest.l1 k left due out slot (L.length : Int) (L.length : Int) L P D) R) → (0 ≤ lateGo left due slot d i → R = (out, lateGo left due slot d i)) →
    Ev (fun k => impl_Jobs_earliest.l1 k left due out slot (L.length : Int) (i : Int) L P D) R := by
  have hl1 := hs.len
  have hl2 := hs.len2
  intro d
  induction d with
  | zero =>
    intro i hi h1 h2
    obtain rfl : i = L.length := by omega
    exact h1 (by simp [lateGo])
  | succ d ih =>
    intro i hi h1 h2
    refine Ev.step (fun k => by rw [impl_Jobs_earliest.l1]) ?_
    refine ev_pos (by omega) (ev_pos (by omega) (ev_pos (by omega) ?_))
    rw [wrap_succ (by omega)]
    rw [lateGo] at h1 h2
    by_cases c1 : rd left i > 0
    · have hdi := hd i (by omega) c1
      refine ev_pos c1 (ev_pos (by omega) ?_)
      by_cases c2 : rd due i = slot
      · rw [if_pos ⟨c1, c2⟩] at h2
        exact ev_pos (by omega) (ev_is (by rw [h2 (by omega)]))
      · rw [if_neg (fun h => c2 h.2)] at h1 h2
        exact ev_neg (by omega) (ih _ (by omega) h1 h2)
    · rw [if_neg (fun h => c1 h.1)] at h1 h2
      exact ev_neg c1 (ih _ (by omega) h1 h2)
theorem slotsGo_len (L P D : List Int) : ∀ (d : Nat) (slot : Int) (left due out : List Int), (out.length : Int) = slot → (slotsGo L P D d slot left due out).2.2 < 0 ∨ (slotsGo L P D d slot left due out).2.1 = ((slotsGo L P D d slot left due out).1.length : Int) := by
  intro d
  induction d with
  | zero =>
    intro slot left due out ho
    rw [slotsGo]
    split
    · exact .inr ho.symm
    · exact .inl (by show (-1 : Int) < 0; omega)
  | succ d ih =>
    intro slot left due out ho
    rw [slotsGo]
    split
    · exact .inr ho.symm
    · exact ih _ _ _ _ (by rw [List.length_append, List.length_singleton]; omega)
theorem Due_next (L P D : List Int) (h : isJobs L P D = true) (slot : Int) (left due : List Int) (hd : DueInv L.length slot left due) (hl : lateGo left due slot L.length 0 < 0) {left' due' : List Int} {best' : Int} (hp : Picked L P D slot L.length left due (left', due', best')) :
    DueInv L.length (slot + 1) (workOn left' best') due' := by
  have hn := (lateGo_neg left due slot L.length 0).1.1 hl
  have hi : SInv L.length left' due' := hp.inv
  have hlen := hi.len
  have h0 : ∀ m : Nat, m < L.length → rd left' m > 0 → slot + 1 ≤ rd due' m := fun m hm hpos => by
    have hat := isJobs_at h (i := m) hm
    have e1 : rd left' m = _ := hp.left m hm
    have e2 : rd due' m = _ := hp.due m hm
    by_cases c : Int.tmod slot (rd P m) = 0
    · rw [if_pos c] at e2
      omega
    · rw [if_neg c] at e1 e2
      have h1 := hd m hm (by omega)
      have h2 := hn m (by omega) (by omega)
      by_cases e : rd due m = slot
      · exact absurd ⟨by omega, e⟩ h2
      · omega
  intro m hm hpos
  refine h0 m hm ?_
  unfold workOn at hpos
  split at hpos
  · next cb =>
    have hb : Best left' due' L.length best' := hp.best
    have hr := hb.range
    rw [rd_set (by omega)] at hpos
    split at hpos
    · next e => subst e; rw [show ((best'.toNat : Nat) : Int) = best' by omega]; omega
    · exact hpos
  · exact hpos
theorem Early_l0 (L P D : List Int) (h : isJobs L P D = true) (hw : ((lcmN 1 P : Nat) : Int) ≤ 240) : ∀ (d : Nat) (slot : Int) (left due out : List Int), slot + d = ((lcmN 1 P : Nat) : Int) → 0 ≤ slot → out.length = slot → SInv L.length left due → DueInv L.length slot left due →
    Ev (fun k => impl_Jobs_earliest.l0 k left due out slot L P D) ((slotsGo L P D d slot left due out).1, (slotsGo L P D d slot left due out).2.2) := by
  have hlen := isJobs_len h
  intro d
  induction d with
  | zero =>
    intro slot left due out hd h0 ho hs hdue
    have hl1 := hs.len
    refine Ev.step (fun k => by rw [impl_Jobs_earliest.l0]) ?_
    rw [hl1]
    refine Early_l1 L P D slot out left due hs (by omega) hdue _ L.length 0 (by omega) ?_ ?_
    · intro hneg
      rw [slotsGo, if_neg (by omega)]
      refine Ev.step (fun k => by rw [impl_Jobs_earliest.l1]) ?_
      exact ev_neg (by omega) (ev_bind (whole_ev L P D h) (ev_pos (by omega) (ev_now _)))
    · intro hpos
      rw [slotsGo, if_pos (by omega)]
  | succ d ih =>
    intro slot left due out hd h0 ho hs hdue
    have hl1 := hs.len
    refine Ev.step (fun k => by rw [impl_Jobs_earliest.l0]) ?_
    rw [hl1]
    refine Early_l1 L P D slot out left due hs (by omega) hdue _ L.length 0 (by omega) ?_ ?_
    · intro hneg
      rw [slotsGo, if_neg (by omega)]
      have hp := pick_ok L P D h slot left due hs
      refine Ev.step (fun k => by rw [impl_Jobs_earliest.l1]) ?_
      refine ev_neg (by omega) (ev_bind (whole_ev L P D h) (ev_neg (by omega) (Early_l2 L P D h slot (by omega) out _ L.length 0 left due (-1) (by omega) hs (by omega) ?_)))
      intro left' due' best' he
      rw [he] at hp ⊢
      have hi : SInv L.length left' due' := hp.inv
      have hb : Best left' due' L.length best' := hp.best
      have hw : SInv L.length (workOn left' best') due' := workOn_inv hi hb
      have hdn := Due_next L P D h slot left due hdue hneg hp
      show Ev _ ((slotsGo L P D d (slot + 1) (workOn left' best') due' (out ++ [best'])).1, (slotsGo L P D d (slot + 1) (workOn left' best') due' (out ++ [best'])).2.2)
      have hl := hi.len
      refine Ev.step (fun k => by rw [impl_Jobs_earliest.l2]) ?_
      refine ev_neg (by omega) ?_
      rw [wrap_id (x := slot + 1) (by omega) (by omega)]
      have ih := ih (slot + 1) _ due' (out ++ [best']) (by omega) (by omega) (by rw [List.length_append, List.length_singleton]; omega) hw hdn
      rcases hb with ⟨hb, _⟩ | ⟨b, hb, hbk, hb1, _⟩
      · refine ev_pos hb (ev_pos (by omega) ?_)
        rw [workOn, if_neg (by omega)] at ih ⊢
        exact ih
      · have hbd := hi.bnd b hbk
        subst hb
        refine ev_neg (by omega) (ev_pos (by omega) (ev_pos (by omega) (ev_pos (by omega) ?_)))
        rw [workOn, if_pos (by omega)] at ih ⊢
        rw [wrap_id (x := rd left' b - 1) (by omega) (by omega)]
        exact ih
    · intro hpos
      rw [slotsGo, if_pos (by omega)]
theorem earliest_ev (L P D : List Int) (h : isJobs L P D = true) (hw : lcmN 1 P ≤ 240) : Ev (fun k => impl_Jobs_earliest.f k L P D) ((slotsOf L P D).1, (slotsOf L P D).2.2) := by
  have hlen := isJobs_len h
  unfold impl_Jobs_earliest.f
  have em : impl_Jobs_many.f L P D = some (L.length : Int) := rfl
  refine ev_fix em (ev_pos (by omega) (ev_pos (by omega) (ev_fix em (ev_pos (by omega) (ev_pos (by omega) ?_)))))
  rw [Int.toNat_natCast]
  refine Early_l0 L P D h (by omega) (lcmN 1 P) 0 _ _ [] (by omega) (by omega) (by simp) (SInv.start _) (fun m hm hpos => ?_)
  rw [rd_nat (by simpa using hm)] at hpos
  simp at hpos
end Go.Proofs.Ytjkgjmaldbmgmaa.Pure
end
section
namespace Go.Proofs.Ytjkgjmaldbmgmaa.Pure
open Go.RowKit Go.Proofs.Ytjkgjmaldbmgmaa.P Go.Proofs.YtjkgjmaldbmgmaaW.PrintWords Go.Proofs.YtjkgjmaldbmgmaaW.PrintLast Go.Proofs.YtjkgjmaldbmgmaaW.PrintMore
set_option linter.unusedVariables false
set_option linter.unusedSimpArgs false
theorem toInt64S_l0 (l : List Int) (hl : l.length ≤ 9223372036854775807) : ∀ d n : Nat, n + d = l.length → Ev (fun k => laws_toInt64S.l0 k l (l.take n ++ List.replicate d 0) (n : Int)) l := by
  intro d
  induction d with
  | zero =>
    intro n hn
    refine Ev.step (fun k => by rw [laws_toInt64S.l0]) ?_
    refine ev_neg (by omega) ?_
    rw [List.take_of_length_le (by omega), List.replicate_zero, List.append_nil]
    exact ev_now l
  | succ d ih =>
    intro n hn
    have hlt : n < l.length := by omega
    refine Ev.step (fun k => by rw [laws_toInt64S.l0]) ?_
    refine ev_pos (by omega) (ev_pos (by omega) (ev_pos ?_ ?_))
    · rw [List.length_append, List.length_take, List.length_replicate]; omega
    · rw [wrap_succ (by omega), rd_nat hlt, Int.toNat_natCast]
      have e : (l.take n ++ List.replicate (d + 1) 0).set n l[n] = l.take (n + 1) ++ List.replicate d 0 := by
        rw [List.set_append_right _ _ (by rw [List.length_take]; omega), List.length_take, Nat.min_eq_left (by omega), Nat.sub_self, List.replicate_succ, List.set_cons_zero, List.take_succ_eq_append_getElem hlt, List.append_assoc]
        rfl
      rw [e]
      exact ih (n + 1) (by omega)
/-- toInt64S hands back the list. -/
theorem toInt64S_ev (l : List Int) (hl : l.length ≤ 35184372088832) : Ev (fun k => laws_toInt64S.f k l) l := by
  unfold laws_toInt64S.f
  refine ev_pos (by omega) (ev_pos (by omega) ?_)
  rw [Int.toNat_natCast]
  exact toInt64S_l0 l (by omega) l.length 0 (by omega)
theorem eqInt64S_l0 (l : List Int) (hl : l.length ≤ 9223372036854775807) : ∀ d n : Nat, n + d = l.length → Ev (fun k => laws_eqInt64S.l0 k l l (n : Int)) true := by
  intro d
  induction d with
  | zero =>
    intro n hn
    refine Ev.step (fun k => by rw [laws_eqInt64S.l0]) ?_
    exact ev_neg (by omega) (ev_now true)
  | succ d ih =>
    intro n hn
    refine Ev.step (fun k => by rw [laws_eqInt64S.l0]) ?_
    refine ev_pos (by omega) (ev_pos (by omega) (ev_pos (by omega) (ev_pos rfl ?_)))
    rw [wrap_succ (by omega)]
    exact ih (n + 1) (by omega)
/-- eqInt64S says that a list is itself. -/
theorem eqInt64S_ev (l : List Int) (hl : l.length ≤ 9223372036854775807) : Ev (fun k => laws_eqInt64S.f k l l) true := by
  unfold laws_eqInt64S.f
  exact ev_pos rfl (eqInt64S_l0 l hl l.length 0 (by omega))
end Go.Proofs.Ytjkgjmaldbmgmaa.Pure
end
section
namespace Go.Proofs.Ytjkgjmaldbmgmaa.Pure
open Go.RowKit Go.Proofs.Ytjkgjmaldbmgmaa.P Go.Proofs.YtjkgjmaldbmgmaaW.PrintWords Go.Proofs.YtjkgjmaldbmgmaaW.PrintLast Go.Proofs.YtjkgjmaldbmgmaaW.PrintMore
set_option linter.unusedVariables false
set_option linter.unusedSimpArgs false
theorem szInt64S_f (l : List Int) (a : Int) (hl : l.length ≤ maxLen) (ha : 0 ≤ a ∧ a ≤ 1048576) : ∃ r, laws_szInt64S.f l a = some r ∧ (r < 0 ∨ (0 ≤ r ∧ r ≤ a ∧ (l.length : Int) ≤ a)) := by
  unfold laws_szInt64S.f
  unfold maxLen at hl
  rw [wrap_id (by omega) (by omega)]
  by_cases h : a - (l.length : Int) < 0
  · exact ⟨-1, by rw [if_pos h], .inl (by omega)⟩
  · exact ⟨a - l.length, by rw [if_neg h], .inr (by omega)⟩
end Go.Proofs.Ytjkgjmaldbmgmaa.Pure
end
section
namespace Go.Proofs.Ytjkgjmaldbmgmaa.Pure
open Go.RowKit Go.Proofs.Ytjkgjmaldbmgmaa.P Go.Proofs.YtjkgjmaldbmgmaaW.PrintWords Go.Proofs.YtjkgjmaldbmgmaaW.PrintLast Go.Proofs.YtjkgjmaldbmgmaaW.PrintMore
set_option linter.unusedVariables false
set_option linter.unusedSimpArgs false
theorem szJobs_f (L P D : List Int) (hL : L.length ≤ maxLen) (hP : P.length ≤ maxLen) (hD : D.length ≤ maxLen) :
    ∃ r, laws_szJobs.f L P D 1048576 = some r ∧ (r < 0 ∨ (0 ≤ r ∧ L.length ≤ 1048576 ∧ P.length ≤ 1048576 ∧ D.length ≤ 1048576)) := by
  unfold laws_szJobs.f
  obtain ⟨r1, e1, h1⟩ := szInt64S_f L 1048576 hL (by omega)
  rw [e1, Option.bind_some]
  rcases h1 with h1 | h1
  · exact ⟨-1, by rw [if_pos h1], .inl (by omega)⟩
  · rw [if_neg (by omega)]
    obtain ⟨r2, e2, h2⟩ := szInt64S_f P r1 hP (by omega)
    rw [e2, Option.bind_some]
    rcases h2 with h2 | h2
    · exact ⟨-1, by rw [if_pos h2], .inl (by omega)⟩
    · rw [if_neg (by omega)]
      obtain ⟨r3, e3, h3⟩ := szInt64S_f D r2 hD (by omega)
      rw [e3, Option.bind_some]
      rcases h3 with h3 | h3
      · exact ⟨-1, by rw [if_pos h3], .inl (by omega)⟩
      · exact ⟨r3, by rw [if_neg (by omega)], .inr (by omega)⟩
theorem toJobs_ev (L P D : List Int) (hL : L.length ≤ 1048576) (hP : P.length ≤ 1048576) (hD : D.length ≤ 1048576) : Ev (fun k => laws_toJobs.f k L P D) (L, P, D) := by
  unfold laws_toJobs.f
  exact ev_bind (toInt64S_ev L (by omega)) (ev_bind (toInt64S_ev P (by omega)) (ev_bind (toInt64S_ev D (by omega)) (ev_now _)))
theorem eqJobs_ev (L P D : List Int) (hL : L.length ≤ 1048576) (hP : P.length ≤ 1048576) (hD : D.length ≤ 1048576) : Ev (fun k => laws_eqJobs.f k L P D L P D) true := by
  unfold laws_eqJobs.f
  exact ev_bind (eqInt64S_ev L (by omega)) (ev_pos rfl (ev_bind (eqInt64S_ev P (by omega)) (ev_pos rfl (ev_bind (eqInt64S_ev D (by omega)) (ev_pos rfl (ev_now _))))))
end Go.Proofs.Ytjkgjmaldbmgmaa.Pure
end
section
namespace Go.Proofs.Ytjkgjmaldbmgmaa.Pure
open Go.RowKit Go.Proofs.Ytjkgjmaldbmgmaa.P Go.Proofs.YtjkgjmaldbmgmaaW.PrintWords Go.Proofs.YtjkgjmaldbmgmaaW.PrintLast Go.Proofs.YtjkgjmaldbmgmaaW.PrintMore
set_option linter.unusedVariables false
set_option linter.unusedSimpArgs false
def lateR (L P D : List Int) : Int × Int × Int := if shortCode L P D = 0 then (if (slotsOf L P D).2.2 < 0 then (0, 0, 4) else ((slotsOf L P D).2.1, (slotsOf L P D).2.2, 0)) else (0, 0, shortCode L P D)
theorem FirstLate_spec (L P D : List Int) : Ev (fun k => spec_FirstLate.f k L P D) (lateR L P D) := by
  unfold spec_FirstLate.f lateR
  refine ev_bind (l04Code_ev L P D) ?_
  by_cases h : shortCode L P D = 0
  · have ⟨h1, h2⟩ := shortCode_zero h
    rw [if_pos h]
    refine ev_pos h (ev_bind (l04Slots_ev L P D h1 h2) ?_)
    by_cases c : (slotsOf L P D).2.2 < 0
    · exact ev_eq (ev_pos c (ev_now _)) (by rw [if_pos c])
    · exact ev_eq (ev_neg c (ev_now _)) (by rw [if_neg c])
  · rw [if_neg h]
    exact ev_neg h (ev_now _)
theorem FirstLate_impl (L P D : List Int) : Ev (fun k => impl_FirstLate.f k L P D) (lateR L P D) := by
  unfold impl_FirstLate.f lateR
  refine ev_bind (jobsCode_short L P D) ?_
  by_cases h : shortCode L P D = 0
  · have ⟨h1, h2⟩ := shortCode_zero h
    rw [if_pos h]
    refine ev_pos h (ev_bind (earliest_ev L P D h1 h2) ?_)
    by_cases c : (slotsOf L P D).2.2 < 0
    · exact ev_eq (ev_pos c (ev_now _)) (by rw [if_pos c])
    · have e : (slotsOf L P D).2.1 = ((slotsOf L P D).1.length : Int) := by
        rcases slotsGo_len L P D (lcmN 1 P) 0 (List.replicate L.length 0) (List.replicate L.length 0) [] rfl with h | h
        · exact absurd h c
        · exact h
      exact ev_eq (ev_neg c (ev_fix (show impl_length_int64.f (slotsOf L P D).1 = some ((slotsOf L P D).1.length : Int) from rfl) (ev_now _))) (by rw [if_neg c, e])
  · rw [if_neg h]
    exact ev_neg h (ev_now _)
theorem FnExactFirstLate : laws_FnExactFirstLate.Pure := by
  intro L P D hL hP hD
  refine ev_rounds (g := fun k => laws_FnExactFirstLate.f k L P D) ?_
  unfold laws_FnExactFirstLate.f
  obtain ⟨r, hr, h⟩ := szJobs_f L P D hL.1 hP.1 hD.1
  refine ev_fix hr ?_
  rcases h with h | ⟨h0, h1, h2, h3⟩
  · exact ev_pos h (ev_now _)
  · refine ev_neg (by omega) (ev_bind (toJobs_ev L P D h1 h2 h3) (ev_bind (FirstLate_spec L P D) (ev_bind (toJobs_ev L P D h1 h2 h3) (ev_bind (FirstLate_impl L P D) (ev_pos rfl (ev_pos rfl ?_))))))
    rw [bne_self_eq_false]
    refine Ev.step (fun k => by rw [laws_FnExactFirstLate.j0]) ?_
    exact ev_neg (by simp) (ev_bind (toJobs_ev L P D h1 h2 h3) (ev_bind (eqJobs_ev L P D h1 h2 h3) (ev_pos rfl (ev_now _))))
end Go.Proofs.Ytjkgjmaldbmgmaa.Pure
end
section
namespace Go.Proofs.Ytjkgjmaldbmgmaa.fnExactFirstLate
open Go.ChangeShapes Go.WideShapes Go.ChangeAt Go.RowKit Go.Deep Go.Proofs.Ytjkgjmaldbmgmaa.P
open Go.ChangeMaps (open_string shut_string)
set_option linter.unusedVariables false
theorem own : ownKnob Try.prog.godebug = none := by kernel_rfl
theorem laidOut : laidOutB Try.prog = true := by kernel_rfl
set_option maxRecDepth 100000 in
theorem lifted (os : Os) (started : os.Started) (H : Type) (enc : TypeId × Value → H) :
    ReturnsInHanded {} Try.checked os 5 .any (Rows.fnExactFirstLateSpec.pre6 enc Try.prog Try.f5 Rows.fnExactFirstLateRow.domain false) (Rows.fnExactFirstLateSpec.post enc Try.prog Try.f5 false true false false) := by
  refine returnsInHanded_of_change_sized (C := Try.checked) own started (by kernel_rfl) Try.func5
    (ChangeSpec.witness6 (enc := enc) (C := Try.checked) false ⟨#[], #[.agg #[.slice none 0 0, .slice none 0 0, .slice none 0 0]], []⟩ 8 (by kernel_rfl) (by kernel_rfl) (by kernel_rfl) (by kernel_rfl)) ?_
  intro W base args ds gs before hval0 hW hcnd hsz0 _
  have hsz : (DataW.weightsEach Try.prog (Try.f5.params.toList ++ Rows.fnExactFirstLateSpec.plain.varTypes Try.prog) (ds ++ gs)).all (· ≤ reachBytes) = true := hsz0
  have hval : ∀ (j : Nat) t v, Try.f5.params[j]? = some t → args[j]? = some v → Value.okWide Try.prog W .any base t v := hval0
  have hW' := hW
  obtain ⟨p, q, hA0, hV, rfl, hfz, hnd⟩ := hW
  have hA : DataW.TrodAll enc Try.prog W 0 (fun _ => true) true Try.f5.params.toList args.toList ds p := hA0
  rw [Try.params5] at hA hval hsz
  obtain ⟨v0, vs0, d0, ds0, p0, q0, hargs, rfl, rfl, h0, r0⟩ := trodAll_cons hA
  obtain ⟨rfl, rfl, rfl⟩ := trodAll_nil r0
  obtain rfl : args = #[v0] := by cases args; simp_all
  obtain ⟨rfl, rfl⟩ := trodVars_none hV
  have k0 := h0
  have lt0 : ∀ x ∈ p0, x.block < W.heap.size := by obtain ⟨m, hm⟩ := k0; exact DataW.trod_lt m _ _ _ hm
  obtain ⟨v0_0, v0_1, v0_2, y0_0, y0_1, y0_2, n0, rfl, t0_0, t0_1, t0_2⟩ := agg3 Try.underlying29 (by kernel_rfl) (by kernel_rfl) (hval 0 29 v0 rfl rfl) h0
  obtain ⟨l0_0, e0_0, w0_0⟩ := open_cell (opens_slice (opens_int Try.underlying2) Try.underlying22 (by kernel_rfl) rfl) t0_0
  obtain ⟨A0_0, c0_0, rfl, hc0_0, hr0_0⟩ := row_cell e0_0
  obtain ⟨l0_1, e0_1, w0_1⟩ := open_cell (opens_slice (opens_int Try.underlying2) Try.underlying22 (by kernel_rfl) rfl) t0_1
  obtain ⟨A0_1, c0_1, rfl, hc0_1, hr0_1⟩ := row_cell e0_1
  obtain ⟨l0_2, e0_2, w0_2⟩ := open_cell (opens_slice (opens_int Try.underlying2) Try.underlying22 (by kernel_rfl) rfl) t0_2
  obtain ⟨A0_2, c0_2, rfl, hc0_2, hr0_2⟩ := row_cell e0_2
  clear hA0 hval0 hsz0 hsz
  refine (P.laws_FnExactFirstLate.walk Pure.FnExactFirstLate A0_0 c0_0 l0_0 A0_1 c0_1 l0_1 A0_2 c0_2 l0_2 W hr0_0 hc0_0 hr0_1 hc0_1 hr0_2 hc0_2 w0_0 w0_1 w0_2).mono fun e W' ⟨he, bel⟩ => ?_
  subst he
  exact ⟨_, rfl, _, _, _, [], _, [], hW', trodAll_mk1 (shut_bool Try.underlying4 _), (trodAll_cons_mk (Below.trod laidOut (by kernel_rfl) (of_decide_eq_true (by kernel_rfl)) k0 bel lt0) trodAll_mk0), rfl, bel.frame _, fun h => by cases h⟩
theorem over : Rows.fnExactFirstLateRow.holds Try.pinned (OpenSpec.ofChange Rows.fnExactFirstLateSpec) :=
  OpenClaim.holds_of_wide 5 Try.f5 rfl rfl rfl rfl rfl rfl rfl ⟨rfl, rfl, rfl, rfl, rfl⟩ rfl rfl rfl rfl rfl (by kernel_rfl) Try.func5 (by kernel_rfl)
    (of_decide_eq_true (by kernel_rfl)) (by unfold Func.isWrapper; first | (rw [if_pos (by decide +kernel)]; kernel_rfl) | (rw [if_neg (by decide +kernel)]; exact ⟨rfl, rfl⟩))
    (fun os started H enc _ => lifted os started H enc)
theorem proved : Rows.FnExactFirstLateSaid := over
end Go.Proofs.Ytjkgjmaldbmgmaa.fnExactFirstLate
namespace Go.Proofs.Ytjkgjmaldbmgmaa
/-- The row, under a short name, for the claim. -/
theorem fnExactFirstLate_holds : Rows.FnExactFirstLateSaid := fnExactFirstLate.proved
end Go.Proofs.Ytjkgjmaldbmgmaa
end
