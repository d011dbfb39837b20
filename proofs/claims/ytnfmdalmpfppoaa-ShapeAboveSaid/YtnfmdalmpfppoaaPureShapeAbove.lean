/- The statement ShapeAbove over numbers and lists: for every 16-bit number the printed law answers true. Conditions: none. -/
import Derived.Test.YtnfmdalmpfppoaaQShapeAbovex3
namespace Go.Proofs.Ytnfmdalmpfppoaa.Pure
open Go.RowKit Go.Proofs.Ytnfmdalmpfppoaa.QShapeAbove Go.Proofs.YtnfmdalmpfppoaaW.PrintWords Go.Proofs.YtnfmdalmpfppoaaW.PrintLast

/-- The law looks at its argument's remainder alone. -/
theorem above_rest (k : Nat) (a : Int) : reliquarylaw09_ShapeAbove.f k a = reliquarylaw09_ShapeAbove.f k (Int.tmod a 1024) := by
  unfold reliquarylaw09_ShapeAbove.f
  rw [Int.tmod_tmod]

/-- All remainders, counted up. -/
theorem above_all : (List.range 1024).all (fun m => decide (reliquarylaw09_ShapeAbove.f 40 (m : Int) = some true)) = true := by
  decide +kernel

theorem ShapeAbove : reliquarylaw09_ShapeAbove.Pure := by
  intro a0 ha
  have hb : 0 ≤ a0 ∧ a0 ≤ 65535 := by
    simpa [Lit.wf, IntKind.min, IntKind.max, IntKind.signed, IntKind.bits] using ha
  refine ⟨40, ?_⟩
  rw [above_rest, Int.tmod_eq_emod_of_nonneg hb.1]
  obtain ⟨m, hm⟩ : ∃ m : Nat, a0 % 1024 = (m : Int) := ⟨(a0 % 1024).toNat, by omega⟩
  have hlt : m < 1024 := by omega
  have h := List.all_eq_true.1 above_all m (List.mem_range.2 hlt)
  rw [hm]
  exact of_decide_eq_true h

end Go.Proofs.Ytnfmdalmpfppoaa.Pure
