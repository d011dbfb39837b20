/- The statement ShapeBack over numbers and lists: for every number of leaves and every place the law answers true. Conditions: none. -/
import Derived.Test.YtnfmdalmpfppoaaSShapeBack
namespace Go.Proofs.Ytnfmdalmpfppoaa.Pure
open Go.RowKit Go.Proofs.Ytnfmdalmpfppoaa.QShapeBack Go.Proofs.YtnfmdalmpfppoaaW.PrintWords Go.Proofs.YtnfmdalmpfppoaaW.PrintLast Go.Proofs.YtnfmdalmpfppoaaW.PrintMore Go.Proofs.Ytnfmdalmpfppoaa.PureShapeBack

section
variable {w : List Int} (hg : FineRow w)
def pth (w : List Int) : Nat → Nat → Int → List Int
  | 0, _, _ => []
  | d + 1, j, i => (sumTo w j + i) :: pth w d (j + 1) (i / 4)
def pathOf (w : List Int) (i : Int) : List Int × Int := if i < 0 then ([], 12) else if i ≥ w.getD 0 0 then ([], 12) else (pth w w.length 0 i, 0)
theorem pth_len (w : List Int) : ∀ (d j : Nat) (i : Int), (pth w d j i).length = d := by
  intro d
  induction d with
  | zero => intro j i; rfl
  | succ d ih => intro j i; simp [pth, ih]
include hg
theorem next_bd (j : Nat) (hj : j + 1 < w.length) (i : Int) (h0 : 0 ≤ i) (h1 : i < w.getD j 0) : 0 ≤ i / 4 ∧ i / 4 < w.getD (j + 1) 0 := by
  have h := (hg.2.2.2.1 j (List.mem_range.2 (by omega))).1
  omega
theorem path_l0 : ∀ (d j : Nat) (i : Int) (out : List Int), j + d = w.length → 0 ≤ i → (0 < d → i < w.getD j 0) → out.length = j → Ev (fun k => shape_Shape_Path.l0 k i out (w.length : Int) (j : Int) w) (out ++ pth w d j i, 0) := by
  intro d
  induction d with
  | zero =>
    intro j i out hj h0 h1 ho
    rw [pth, List.append_nil]
    have b3 := hg.1
    refine Ev.step (f := fun _ => some (out, 0)) (fun k => ?_) (Ev.now _)
    simp only [shape_Shape_Path.l0]
    rw [if_neg (by omega), if_neg (by omega)]
  | succ d ih =>
    intro j i out hj h0 h1 ho
    have h1 := h1 (by omega)
    have b2 := elem_bd hg j (by omega)
    have b3 := hg.1
    have hi : itemOf w (j : Int) i = (sumTo w j + i, 0) := by
      unfold itemOf
      rw [if_neg (by omega), if_neg (by omega), if_neg (by omega), Int.toNat_natCast, if_neg (by omega)]
    have h2 := ih (j + 1) (i / 4) (out ++ [sumTo w j + i]) (by omega) (by omega) (fun hd => (next_bd hg j (by omega) i h0 h1).2) (by simp [ho])
    rw [pth, show out ++ (sumTo w j + i) :: pth w d (j + 1) (i / 4) = out ++ [sumTo w j + i] ++ pth w d (j + 1) (i / 4) by simp]
    have h3 := item_ev hg (j : Int) i
    rw [hi] at h3
    refine Ev.step (f := fun k => (shape_Shape_Item.f k w (j : Int) i).bind fun b => if b.2 = 0 then (if out.length < 17592186044416 then shape_Shape_Path.l0 k (wrap64 (Int.tdiv i 4)) (out ++ [b.1]) (w.length : Int) (wrap64 ((j : Int) + 1)) w else none) else some ([], b.2)) (fun k => ?_) (Ev.bind h3 ?_)
    · simp only [shape_Shape_Path.l0]
      rw [if_pos (by omega)]
    · simp only [if_true, if_pos (show out.length < 17592186044416 by omega)]
      rw [show wrap64 (Int.tdiv i 4) = i / 4 by rw [Int.tdiv_eq_ediv_of_nonneg h0]; unfold wrap64; omega, show wrap64 ((j : Int) + 1) = ((j + 1 : Nat) : Int) by unfold wrap64; omega]
      exact h2
theorem path_ev (i : Int) : Ev (fun k => shape_Shape_Path.f k w i) (pathOf w i) := by
  have b3 := hg.1
  unfold shape_Shape_Path.f pathOf
  have bad : itemOf w 0 i = (0, 12) → Ev (fun k => shape_Shape_Path.l0 k i [] (w.length : Int) 0 w) ([], 12) := by
    intro hi
    have h3 := item_ev hg 0 i
    rw [hi] at h3
    refine Ev.step (f := fun k => (shape_Shape_Item.f k w 0 i).bind fun b => if b.2 = 0 then (if ([] : List Int).length < 17592186044416 then shape_Shape_Path.l0 k (wrap64 (Int.tdiv i 4)) ([] ++ [b.1]) (w.length : Int) (wrap64 ((0 : Int) + 1)) w else none) else some ([], b.2)) (fun k => ?_) (Ev.bind h3 ?_)
    · simp only [shape_Shape_Path.l0]
      rw [if_pos (by omega)]
    · simp only [if_neg (show ¬ (12 : Int) = 0 by omega)]
      exact Ev.now _
  by_cases h1 : i < 0
  · rw [if_pos h1]
    refine bad ?_
    unfold itemOf
    rw [if_neg (by omega), if_neg (by omega), if_pos h1]
  · rw [if_neg h1]
    by_cases h2 : i ≥ w.getD 0 0
    · rw [if_pos h2]
      refine bad ?_
      unfold itemOf
      rw [if_neg (by omega), if_neg (by omega), if_neg h1, show (0 : Int).toNat = 0 from rfl, if_pos h2]
    · rw [if_neg h2]
      have h := path_l0 hg w.length 0 i [] (by omega) (by omega) (fun _ => by omega) rfl
      rw [List.nil_append] at h
      exact h
end
theorem sum_pos {w : List Int} (hg : FineRow w) : 1 ≤ w.sum := by
  have h1 := sumTo_split w 1
  have h2 : sumTo w 1 = sumTo w 0 + w.getD 0 0 := sumTo_succ w 0 (by have := hg.1; omega)
  have h3 := elem_bd hg 0 (by have := hg.1; omega)
  have h4 := drop_nonneg hg 1
  have h5 : sumTo w 0 = 0 := by simp [sumTo]
  omega
/-- The number at level l of a leaf's path. -/
def quo : Nat → Int → Int
  | 0, i => i
  | l + 1, i => quo l i / 4
theorem quo_div : ∀ (l : Nat) (i : Int), quo l (i / 4) = quo (l + 1) i := by
  intro l
  induction l with
  | zero => intro i; rfl
  | succ l ih => intro i; rw [quo, ih]; rfl
theorem pth_get (w : List Int) : ∀ (d j : Nat) (i : Int) (l : Nat), l < d → (pth w d j i).getD l 0 = sumTo w (j + l) + quo l i := by
  intro d
  induction d with
  | zero => intro j i l h; omega
  | succ d ih =>
    intro j i l h
    cases l with
    | zero => simp [pth, quo]
    | succ l =>
      rw [pth, List.getD_cons_succ, ih (j + 1) (i / 4) l (by omega), quo_div, show j + 1 + l = j + (l + 1) by omega]
theorem quo_bd {w : List Int} (hg : FineRow w) (i : Int) (h0 : 0 ≤ i) (h1 : i < w.getD 0 0) : ∀ (l : Nat), l < w.length → 0 ≤ quo l i ∧ quo l i < w.getD l 0 := by
  intro l
  induction l with
  | zero => intro _; exact ⟨h0, h1⟩
  | succ l ih =>
    intro hl
    have h := ih (by omega)
    exact next_bd hg l hl (quo l i) h.1 h.2
theorem levelOf_yes {w : List Int} (hg : FineRow w) (l : Nat) (x : Int) (hl : l < w.length) (h0 : 0 ≤ x) (h1 : x < w.getD l 0) : levelOf w (sumTo w l + x) = ((l : Int), x, 0) := by
  have b1 := sumTo_bd hg l
  unfold levelOf
  rw [if_neg (by omega), lev_yes w l x 0 hl hg.2.1 h0 h1, Int.zero_add]
theorem top_at {w : List Int} (hg : FineRow w) : shape_Shape_Top.f w = some ((w.length : Int) - 1) := by
  have := hg.1
  unfold shape_Shape_Top.f mx
  rw [show wrap64 ((w.length : Int) - 1) = (w.length : Int) - 1 by unfold wrap64; omega, if_neg (by omega)]
theorem back_l0 {w : List Int} (hg : FineRow w) (i : Int) (h0 : 0 ≤ i) (h1 : i < w.getD 0 0) : ∀ (d l : Nat), 1 ≤ l → l + d = w.length → Ev (fun k => reliquarylaw09_ShapeBack.l0 k (pth w w.length 0 i) (l : Int) w) true := by
  have b3 := hg.1
  have hlen := pth_len w w.length 0 i
  intro d
  induction d with
  | zero =>
    intro l hl he
    refine Ev.step (f := fun _ => some true) (fun k => ?_) (Ev.now _)
    simp only [reliquarylaw09_ShapeBack.l0, hlen, top_at hg, Option.bind_some]
    rw [if_neg (by omega), if_pos (by omega), if_pos (by omega), show (w.length : Int) - 1 = ((w.length - 1 : Nat) : Int) by omega, rd_nat, if_pos hg.2.2.2.2]
    simp; omega
  | succ d ih =>
    intro l hl he
    obtain ⟨m, rfl⟩ : ∃ m, l = m + 1 := ⟨l - 1, by omega⟩
    have q1 := quo_bd hg i h0 h1 m (by omega)
    have q2 := quo_bd hg i h0 h1 (m + 1) (by omega)
    have b1 := sumTo_bd hg m
    have b2 := sumTo_bd hg (m + 1)
    have e1 := elem_bd hg m (by omega)
    have e2 := elem_bd hg (m + 1) (by omega)
    have g1 : rd (pth w w.length 0 i) (m : Int) = sumTo w m + quo m i := by rw [rd_nat, pth_get w w.length 0 i m (by omega), Nat.zero_add]
    have g2 : rd (pth w w.length 0 i) ((m + 1 : Nat) : Int) = sumTo w (m + 1) + quo (m + 1) i := by rw [rd_nat, pth_get w w.length 0 i (m + 1) (by omega), Nat.zero_add]
    have v1 := level_ev hg (sumTo w m + quo m i) (by omega)
    have v2 := level_ev hg (sumTo w (m + 1) + quo (m + 1) i) (by omega)
    rw [levelOf_yes hg m _ (by omega) q1.1 q1.2] at v1
    rw [levelOf_yes hg (m + 1) _ (by omega) q2.1 q2.2] at v2
    have hn := ih (m + 2) (by omega) (by omega)
    refine Ev.step (f := fun k => (shape_Shape_Level.f k w (sumTo w m + quo m i)).bind fun b => (shape_Shape_Level.f k w (sumTo w (m + 1) + quo (m + 1) i)).bind fun c => if c.1 = wrap64 (b.1 + 1) then (if c.2.1 = wrap64 (Int.tdiv b.2.1 4) then reliquarylaw09_ShapeBack.l0 k (pth w w.length 0 i) ((m + 2 : Nat) : Int) w else some false) else some false) (fun k => ?_) (Ev.bind v1 (Ev.bind v2 ?_))
    · simp only [reliquarylaw09_ShapeBack.l0, hlen]
      rw [if_pos (by omega), show wrap64 (((m + 1 : Nat) : Int) - 1) = (m : Int) by unfold wrap64; omega, if_pos (by omega), if_pos (by omega), g1, g2, show wrap64 (((m + 1 : Nat) : Int) + 1) = ((m + 2 : Nat) : Int) by unfold wrap64; omega]
      simp only [if_pos (show (0 : Int) ≤ ((m + 1 : Nat) : Int) by omega)]
    · have c1 : ((m + 1 : Nat) : Int) = wrap64 ((m : Int) + 1) := by unfold wrap64; omega
      have c2 : quo (m + 1) i = wrap64 (Int.tdiv (quo m i) 4) := by
        rw [Int.tdiv_eq_ediv_of_nonneg q1.1, quo]; unfold wrap64; omega
      simp only [if_pos c1, if_pos c2]
      exact hn
theorem ShapeBack : reliquarylaw09_ShapeBack.Pure := by
  intro a0 a1 w0 w1
  have b0 : 0 ≤ a0 ∧ a0 ≤ 65535 := by simpa [Lit.wf, IntKind.min, IntKind.max, IntKind.signed, IntKind.bits] using w0
  have b1 : 0 ≤ a1 ∧ a1 ≤ 65535 := by simpa [Lit.wf, IntKind.min, IntKind.max, IntKind.signed, IntKind.bits] using w1
  apply Ev.rounds
  unfold reliquarylaw09_ShapeBack.f
  refine Ev.bind awake_ev ?_
  simp only [if_true]
  rw [Int.tmod_eq_emod_of_nonneg b0.1]
  have e0 : wrap64 (wrap64 (a0 % 1024) + 1) = a0 % 1024 + 1 := by unfold wrap64; omega
  have e1 : wrap64 a1 = a1 := by unfold wrap64; omega
  simp only [e0, e1]
  refine Ev.bind (new_ev (a0 % 1024 + 1) (by omega) (by omega)) ?_
  have hg := good_at (a0 % 1024 + 1) (by omega) (by omega)
  generalize ws (a0 % 1024 + 1) = w at hg
  have b3 := hg.1
  have hs := sum_pos hg
  have hs2 := hg.2.2.1
  simp only [if_true]
  refine Ev.bind (items_ev hg) ?_
  simp only [if_neg (show ¬ w.sum = 0 by omega), Int.tmod_eq_emod_of_nonneg b1.1]
  have m1 := Int.emod_nonneg a1 (show w.sum ≠ 0 by omega)
  have m1' := Int.emod_lt_of_pos a1 (show 0 < w.sum by omega)
  have r0 : rd w 0 = w.getD 0 0 := by unfold rd; rfl
  have e2 := elem_bd hg 0 (by omega)
  have m2 := Int.emod_nonneg a1 (show w.getD 0 0 ≠ 0 by omega)
  have m2' := Int.emod_lt_of_pos a1 (show 0 < w.getD 0 0 by omega)
  rw [r0]
  generalize a1 % w.sum = x at m1 m1'
  generalize a1 % w.getD 0 0 = y at m2 m2'
  obtain ⟨j, z, g1, g2, g3, g4, g5⟩ := lev_ok w x 0 m1 m1'
  have v1 := level_ev hg x (by omega)
  have hlv : levelOf w x = ((j : Int), z, 0) := by rw [g4]; exact levelOf_yes hg j z g1 g2 g3
  rw [hlv] at v1
  refine Ev.bind v1 ?_
  have hit : itemOf w (j : Int) z = (x, 0) := by
    unfold itemOf
    rw [if_neg (by omega), if_neg (by omega), if_neg (by omega), Int.toNat_natCast, if_neg (by omega), g4]
  have v2 := item_ev hg (j : Int) z
  rw [hit] at v2
  refine Ev.bind v2 ?_
  have hlen := pth_len w w.length 0 y
  have hpa : pathOf w y = (pth w w.length 0 y, 0) := by
    unfold pathOf
    rw [if_neg (by omega), if_neg (by omega)]
  have v3 := path_ev hg y
  rw [hpa] at v3
  simp only [if_pos (show (0 : Int) < (w.length : Int) by omega), if_neg (show ¬ w.getD 0 0 = 0 by omega)]
  refine Ev.bind v3 ?_
  have hp0 : rd (pth w w.length 0 y) 0 = y := by
    rw [show (0 : Int) = ((0 : Nat) : Int) from rfl, rd_nat, pth_get w w.length 0 y 0 (by omega)]
    simp [sumTo, quo]
  have hq := quo_bd hg y m2 m2' (w.length - 1) (by omega)
  have hl1 := hg.2.2.2.2
  have hsum : sumTo w (w.length - 1) + 1 = w.sum := by
    have h1 := sumTo_succ w (w.length - 1) (by omega)
    rw [show w.length - 1 + 1 = w.length by omega, hl1] at h1
    have h2 := sumTo_split w w.length
    rw [List.drop_length, List.sum_nil] at h2
    omega
  have hpl : rd (pth w w.length 0 y) ((w.length : Int) - 1) = w.sum - 1 := by
    rw [show (w.length : Int) - 1 = ((w.length - 1 : Nat) : Int) by omega, rd_nat, pth_get w w.length 0 y (w.length - 1) (by omega), Nat.zero_add]
    omega
  have w1 : wrap64 ((w.length : Int) - 1 + 1) = (w.length : Int) := by unfold wrap64; omega
  have w2 : wrap64 ((w.length : Int) - 1) = (w.length : Int) - 1 := by unfold wrap64; omega
  have w3 : wrap64 (w.sum - 1) = w.sum - 1 := by unfold wrap64; omega
  simp only [if_true, top_at hg, Option.bind_some, hlen, w1, if_pos (show (0 : Int) < (w.length : Int) by omega), hp0, w2, if_pos (show (0 : Int) ≤ (w.length : Int) - 1 by omega), if_pos (show (w.length : Int) - 1 < (w.length : Int) by omega)]
  refine Ev.bind (items_ev hg) ?_
  rw [hpl, w3]
  refine Ev.step (f := fun k => reliquarylaw09_ShapeBack.l0 k (pth w w.length 0 y) 1 w) (fun k => by simp [reliquarylaw09_ShapeBack.j0]) ?_
  exact back_l0 hg y m2 m2' (w.length - 1) 1 (by omega) (by omega)
end Go.Proofs.Ytnfmdalmpfppoaa.Pure
