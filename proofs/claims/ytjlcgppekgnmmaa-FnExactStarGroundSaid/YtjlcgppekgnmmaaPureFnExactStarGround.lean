/- The program's StarGround returns what the reference's returns, for every number of places; no condition beside. -/
import Derived.Test.YtjlcgppekgnmmaaPFnExactStarGroundx1
namespace Go.Proofs.Ytjlcgppekgnmmaa.Pure
open Go.RowKit Go.Proofs.Ytjlcgppekgnmmaa.PFnExactStarGround Go.Proofs.YtjlcgppekgnmmaaW.PrintWords Go.Proofs.YtjlcgppekgnmmaaW.PrintLast

theorem in_no {n lo hi : Int} (h : ¬ (lo ≤ n ∧ n ≤ hi)) : spec_l01In.f n lo hi = some false := by
  unfold spec_l01In.f
  by_cases h1 : n ≥ lo
  · rw [if_pos h1, decide_eq_false (by omega)]
  · rw [if_neg h1]

theorem within_no {n lo hi : Int} (h : ¬ (lo ≤ n ∧ n ≤ hi)) : impl_within.f n lo hi = some false := by
  unfold impl_within.f
  by_cases h1 : lo ≤ n
  · rw [if_pos h1, decide_eq_false (by omega)]
  · rw [if_neg h1]

theorem FnExactStarGround : laws_FnExactStarGround.Pure := by
  intro n _
  by_cases h : 1 ≤ n ∧ n ≤ 6
  · obtain rfl | rfl | rfl | rfl | rfl | rfl : n = 1 ∨ n = 2 ∨ n = 3 ∨ n = 4 ∨ n = 5 ∨ n = 6 := by omega
    all_goals exact ⟨10, by decide +kernel⟩
  · refine ⟨0, ?_⟩
    unfold laws_FnExactStarGround.f spec_StarGround.f impl_StarGround.f impl_isPlaces.f
    rw [in_no h, within_no h]
    rfl

end Go.Proofs.Ytjlcgppekgnmmaa.Pure
