/- The statement ShapePlaces over numbers and lists: for every number of leaves and every two places the law answers true. Conditions: none. -/
import Derived.Test.YtnfmdalmpfppoaaSShapePlaces
namespace Go.Proofs.Ytnfmdalmpfppoaa.Pure
open Go.RowKit Go.Proofs.Ytnfmdalmpfppoaa.QShapePlaces Go.Proofs.YtnfmdalmpfppoaaW.PrintWords Go.Proofs.YtnfmdalmpfppoaaW.PrintLast Go.Proofs.YtnfmdalmpfppoaaW.PrintMore Go.Proofs.Ytnfmdalmpfppoaa.PureShapePlaces

theorem sum_pos {w : List Int} (hg : FineRow w) : 1 ≤ w.sum := by
  have h1 := sumTo_split w 1
  have h2 : sumTo w 1 = sumTo w 0 + w.getD 0 0 := sumTo_succ w 0 (by have := hg.1; omega)
  have h3 := elem_bd hg 0 (by have := hg.1; omega)
  have h4 := drop_nonneg hg 1
  have h5 : sumTo w 0 = 0 := by simp [sumTo]
  omega
theorem place_yes {w : List Int} (hg : FineRow w) (p : Int) (h0 : 0 ≤ p) (h1 : p < 2 * w.sum) : placeOf w (p / 2) (p % 2) = (p, 0) := by
  unfold placeOf
  rw [if_pos ((level_err hg (p / 2)).2 (by omega))]
  by_cases h : p % 2 = 0
  · rw [if_pos h]; simp; omega
  · rw [if_neg h, if_pos (by omega)]; simp; omega
theorem ShapePlaces : reliquarylaw09_ShapePlaces.Pure := by
  intro a0 a1 a2 w0 w1 w2
  have b0 : 0 ≤ a0 ∧ a0 ≤ 255 := by simpa [Lit.wf, IntKind.min, IntKind.max, IntKind.signed, IntKind.bits] using w0
  have b1 : 0 ≤ a1 ∧ a1 ≤ 65535 := by simpa [Lit.wf, IntKind.min, IntKind.max, IntKind.signed, IntKind.bits] using w1
  have b2 : 0 ≤ a2 ∧ a2 ≤ 65535 := by simpa [Lit.wf, IntKind.min, IntKind.max, IntKind.signed, IntKind.bits] using w2
  apply Ev.rounds
  unfold reliquarylaw09_ShapePlaces.f
  refine Ev.bind awake_ev ?_
  simp only [if_true]
  have e0 : wrap64 (wrap64 a0 + 1) = a0 + 1 := by unfold wrap64; omega
  have e1 : wrap64 a1 = a1 := by unfold wrap64; omega
  have e2 : wrap64 a2 = a2 := by unfold wrap64; omega
  simp only [e0, e1, e2]
  refine Ev.bind (new_ev (a0 + 1) (by omega) (by omega)) ?_
  have hg := good_at (a0 + 1) (by omega) (by omega)
  generalize ws (a0 + 1) = w at hg
  simp only [if_true]
  refine Ev.bind (items_ev hg) ?_
  have hs := sum_pos hg
  have hs2 := hg.2.2.1
  have e3 : wrap64 (2 * w.sum) = 2 * w.sum := by unfold wrap64; omega
  have e4 : ∀ a : Int, 0 ≤ a → Int.tmod a (2 * w.sum) = a % (2 * w.sum) := fun a h => Int.tmod_eq_emod_of_nonneg h
  have m1 := Int.emod_nonneg a1 (show 2 * w.sum ≠ 0 by omega)
  have m1' := Int.emod_lt_of_pos a1 (show 0 < 2 * w.sum by omega)
  have m2 := Int.emod_nonneg a2 (show 2 * w.sum ≠ 0 by omega)
  have m2' := Int.emod_lt_of_pos a2 (show 0 < 2 * w.sum by omega)
  simp only [e3, if_neg (show ¬ 2 * w.sum = 0 by omega), e4 a1 b1.1, e4 a2 b2.1]
  generalize a1 % (2 * w.sum) = p at m1 m1'
  generalize a2 % (2 * w.sum) = q at m2 m2'
  have d1 : wrap64 (Int.tdiv p 2) = p / 2 := by rw [Int.tdiv_eq_ediv_of_nonneg m1]; unfold wrap64; omega
  have d2 : wrap64 (Int.tdiv q 2) = q / 2 := by rw [Int.tdiv_eq_ediv_of_nonneg m2]; unfold wrap64; omega
  have d3 : Int.tmod p 2 = p % 2 := Int.tmod_eq_emod_of_nonneg m1
  have d4 : Int.tmod q 2 = q % 2 := Int.tmod_eq_emod_of_nonneg m2
  simp only [d1, d2, d3, d4]
  refine Ev.bind (place_ev hg (p / 2) (p % 2) (by omega)) ?_
  refine Ev.bind (place_ev hg (q / 2) (q % 2) (by omega)) ?_
  refine Ev.bind (items_ev hg) ?_
  refine Ev.bind (place_ev hg w.sum 0 (by omega)) ?_
  refine Ev.bind (place_ev hg 0 2 (by omega)) ?_
  rw [place_yes hg p m1 m1', place_yes hg q m2 m2']
  have n1 : placeOf w w.sum 0 = (0, 12) := by
    unfold placeOf
    rw [if_neg (fun h => by have := (level_err hg w.sum).1 h; omega)]
  have n2 : placeOf w 0 2 = (0, 12) := by
    unfold placeOf
    split
    · simp
    · rfl
  rw [n1, n2]
  simp only [if_true, beq_self_eq_true, if_pos m1', if_pos (show p ≥ 0 from m1)]
  exact Ev.now _
end Go.Proofs.Ytnfmdalmpfppoaa.Pure
