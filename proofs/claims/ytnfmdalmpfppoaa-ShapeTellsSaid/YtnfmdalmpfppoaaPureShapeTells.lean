/- The statement ShapeTells over numbers and lists: whatever number of leaves, level, item and side, the program's answers are the reference's. Conditions: none. -/
import Derived.Test.YtnfmdalmpfppoaaSShapeTells
namespace Go.Proofs.Ytnfmdalmpfppoaa.Pure
open Go.RowKit Go.Proofs.Ytnfmdalmpfppoaa.QShapeTells Go.Proofs.YtnfmdalmpfppoaaW.PrintWords Go.Proofs.YtnfmdalmpfppoaaW.PrintLast Go.Proofs.YtnfmdalmpfppoaaW.PrintMore Go.Proofs.Ytnfmdalmpfppoaa.PureShapeTells

/-! New of the reference -/
theorem ref_l1 (x4 : List Int) (n : Int) (R : List Int × Int) (h0 : 1 ≤ n) (h1 : n ≤ 1024) (hl : x4.length ≤ 100) (h : Ev (fun k => reliquaryref09_New.l0 k (x4 ++ [upOf n]) (upOf n)) R) :
    ∀ (d : Nat) (m : Int), 0 ≤ m → m + d = upOf n → Ev (fun k => reliquaryref09_New.l1 k x4 n m) R := by
  intro d
  induction d with
  | zero =>
    intro m hm he
    unfold upOf at he
    obtain rfl : m = upOf n := by unfold upOf; omega
    refine Ev.step (fun k => ?_) h
    simp only [reliquaryref09_New.l1]
    rw [show wrap64 (4 * upOf n) = 4 * upOf n by unfold wrap64 upOf; omega, if_neg (by unfold upOf; omega), if_pos (by omega)]
  | succ d ih =>
    intro m hm he
    have he' := he
    unfold upOf at he'
    refine Ev.step (fun k => ?_) (ih (m + 1) (by omega) (by omega))
    simp only [reliquaryref09_New.l1]
    rw [show wrap64 (4 * m) = 4 * m by unfold wrap64; omega, if_pos (by omega), show wrap64 (m + 1) = m + 1 by unfold wrap64; omega]
theorem ref_l0 : ∀ (f : Nat) (pre : List Int) (m : Int), 1 ≤ pre.length → pre.length + f ≤ 90 → 1 ≤ m → m ≤ 4 ^ f → m ≤ 1024 → Ev (fun k => reliquaryref09_New.l0 k (pre ++ [m]) m) (pre ++ chain (f + 1) m, 0) := by
  have stop : ∀ (f : Nat) (pre : List Int), 1 ≤ pre.length → Ev (fun k => reliquaryref09_New.l0 k (pre ++ [1]) 1) (pre ++ chain (f + 1) 1, 0) := by
    intro f pre hp
    rw [show chain (f + 1) 1 = [1] by simp [chain]]
    refine Ev.step (f := fun k => reliquaryref09_New.j2 k (pre ++ [1]) 1 false) (fun k => ?_) (Ev.step (f := fun _ => some (pre ++ [1], 0)) (fun k => ?_) (Ev.now _))
    · simp only [reliquaryref09_New.l0]
      rw [if_neg (by omega), show (((pre ++ [(1 : Int)]).length : Int) == 1) = false from beq_eq_false_iff_ne.2 (by simp; omega)]
    · simp [reliquaryref09_New.j2]
  intro f
  induction f with
  | zero =>
    intro pre m hp hl h0 h1 h2
    obtain rfl : m = 1 := by simp at h1; omega
    exact stop 0 pre hp
  | succ f ih =>
    intro pre m hp hl h0 h1 h2
    rcases Int.lt_or_eq_of_le h0 with h3 | h3
    · have hu : upOf m ≤ 4 ^ f := by unfold upOf; rw [Int.pow_succ] at h1; omega
      have h4 := ih (pre ++ [m]) (upOf m) (by simp) (by simp; omega) (by unfold upOf; omega) hu (by unfold upOf; omega)
      rw [show chain (f + 1 + 1) m = m :: chain (f + 1) (upOf m) by rw [chain, if_pos (by omega)], show pre ++ m :: chain (f + 1) (upOf m) = pre ++ [m] ++ chain (f + 1) (upOf m) by simp]
      refine Ev.step (f := fun k => reliquaryref09_New.j2 k (pre ++ [m]) m true) (fun k => ?_) (Ev.step (f := fun k => reliquaryref09_New.l1 k (pre ++ [m]) m 0) (fun k => ?_) ?_)
      · simp only [reliquaryref09_New.l0]
        rw [if_pos (by omega)]
      · simp [reliquaryref09_New.j2]
      · exact ref_l1 (pre ++ [m]) m _ h0 h2 (by simp; omega) h4 (upOf m).toNat 0 (by omega) (by unfold upOf; omega)
    · subst h3; exact stop (f + 1) pre hp
theorem ref_new_ev (n : Int) (h0 : 1 ≤ n) (h1 : n ≤ 1024) : Ev (fun k => reliquaryref09_New.f k n) (ws n, 0) := by
  have h2 := ref_l0 4 [n] (upOf n) (by simp) (by simp) (by unfold upOf; omega) (by unfold upOf; omega) (by unfold upOf; omega)
  have h3 := ref_l1 [n] n _ h0 h1 (by simp) h2 (upOf n).toNat 0 (by omega) (by unfold upOf; omega)
  have h4 : ∀ b : Bool, b = true → Ev (fun k => reliquaryref09_New.j2 k [n] n b) ([n] ++ chain (4 + 1) (upOf n), 0) := fun b hb =>
    Ev.step (f := fun k => reliquaryref09_New.l1 k [n] n 0) (fun k => by simp [reliquaryref09_New.j2, hb]) h3
  unfold reliquaryref09_New.f
  simp only [if_neg (show ¬ n < 1 by omega), decide_eq_false (show ¬ n > 1024 by omega)]
  refine Ev.step (f := fun k => reliquaryref09_New.l0 k [n] n) (fun k => by simp [reliquaryref09_New.j0]) ?_
  by_cases h : n > 1
  · exact Ev.step (f := fun k => reliquaryref09_New.j2 k [n] n true) (fun k => by simp only [reliquaryref09_New.l0]; rw [if_pos h]) (h4 true rfl)
  · exact Ev.step (f := fun k => reliquaryref09_New.j2 k [n] n (([n].length : Int) == 1)) (fun k => by simp only [reliquaryref09_New.l0]; rw [if_neg h]) (h4 _ rfl)
theorem ref_new_no (n : Int) (h : n < 1 ∨ 1024 < n) : Ev (fun k => reliquaryref09_New.f k n) ([], 1) := by
  unfold reliquaryref09_New.f
  by_cases h1 : n < 1
  · simp only [if_pos h1]
    exact Ev.step (f := fun _ => some ([], 1)) (fun k => by simp [reliquaryref09_New.j0]) (Ev.now _)
  · simp only [if_neg h1, decide_eq_true (show n > 1024 by omega)]
    exact Ev.step (f := fun _ => some ([], 1)) (fun k => by simp [reliquaryref09_New.j0]) (Ev.now _)

/-! same -/
theorem same_l0 (v : List Int) (hl : v.length ≤ 1000) : ∀ (d j : Nat), j + d = v.length → Ev (fun k => reliquarylaw09_same.l0 k v v (j : Int)) true := by
  intro d
  induction d with
  | zero =>
    intro j hj
    exact Ev.step (f := fun _ => some true) (fun k => by simp only [reliquarylaw09_same.l0]; rw [if_neg (by omega)]) (Ev.now _)
  | succ d ih =>
    intro j hj
    refine Ev.step (fun k => ?_) (ih (j + 1) (by omega))
    simp only [reliquarylaw09_same.l0]
    rw [if_pos (by omega), if_pos (by omega), if_pos (by omega), show wrap64 ((j : Int) + 1) = ((j + 1 : Nat) : Int) by unfold wrap64; omega, if_true]
theorem same_ev (v : List Int) (hl : v.length ≤ 1000) : Ev (fun k => reliquarylaw09_same.f k v v) true := by
  unfold reliquarylaw09_same.f
  simp only [if_true]
  exact same_l0 v hl v.length 0 (by omega)

section
variable {w : List Int} (hg : FineRow w)
include hg
/-! Items and Item of the reference -/
theorem ref_items_l0 (l : Nat) (hl : l ≤ w.length) : ∀ (d j : Nat), j + d = l → Ev (fun k => reliquaryref09_Items.l0 k (w.take l) (sumTo w j) (j : Int)) (sumTo w l) := by
  have hlen : (w.take l).length = l := by rw [List.length_take]; omega
  intro d
  induction d with
  | zero =>
    intro j hj
    obtain rfl : j = l := by omega
    exact Ev.step (f := fun _ => some (sumTo w j)) (fun k => by simp only [reliquaryref09_Items.l0]; rw [if_neg (by omega)]) (Ev.now _)
  | succ d ih =>
    intro j hj
    have b1 := sumTo_bd hg j
    have b2 := elem_bd hg j (by omega)
    have b3 := hg.1
    have e : rd (w.take l) (j : Int) = w.getD j 0 := by
      rw [rd_nat]
      simp only [List.getD, List.getElem?_take]
      rw [if_pos (by omega)]
    refine Ev.step (fun k => ?_) (ih (j + 1) (by omega))
    simp only [reliquaryref09_Items.l0]
    rw [if_pos (by omega), if_pos (by omega), e, sumTo_succ w j (by omega), show wrap64 (sumTo w j + w.getD j 0) = sumTo w j + w.getD j 0 by unfold wrap64; omega, show wrap64 ((j : Int) + 1) = ((j + 1 : Nat) : Int) by unfold wrap64; omega]
theorem ref_items_ev (l : Nat) (hl : l ≤ w.length) : Ev (fun k => reliquaryref09_Items.f k (w.take l)) (sumTo w l) := by
  unfold reliquaryref09_Items.f
  have h := ref_items_l0 hg l hl l 0 (by omega)
  rw [show sumTo w 0 = 0 by simp [sumTo]] at h
  exact h
theorem ref_items_all : Ev (fun k => reliquaryref09_Items.f k w) w.sum := by
  have h := ref_items_ev hg w.length (Nat.le_refl _)
  rw [List.take_length] at h
  rw [show sumTo w w.length = w.sum by unfold sumTo; rw [List.take_length]] at h
  exact h
theorem ref_item_ev (l i : Int) : Ev (fun k => reliquaryref09_Item.f k w l i) (itemOf w l i) := by
  unfold reliquaryref09_Item.f itemOf
  by_cases h1 : l < 0
  · simp only [if_pos h1]; exact Ev.now _
  · simp only [if_neg h1]
    by_cases h2 : l ≥ (w.length : Int)
    · simp only [if_pos h2]; exact Ev.now _
    · simp only [if_neg h2]
      by_cases h3 : i < 0
      · simp only [if_pos h3]; exact Ev.now _
      · obtain ⟨j, rfl⟩ : ∃ j : Nat, l = (j : Int) := ⟨l.toNat, by omega⟩
        have hj : j < w.length := by omega
        have b1 := sumTo_bd hg j
        have b2 := elem_bd hg j hj
        simp only [if_neg h3, if_pos (show (0 : Int) ≤ (j : Int) by omega), if_pos (show (j : Int) < (w.length : Int) by omega), if_pos (show (j : Int) ≤ (w.length : Int) by omega), rd_nat, Int.toNat_natCast]
        by_cases h4 : i ≥ w.getD j 0
        · simp only [if_pos h4]; exact Ev.now _
        · simp only [if_neg h4]
          refine Ev.bind (ref_items_ev hg j (by omega)) ?_
          rw [show wrap64 (sumTo w j + i) = sumTo w j + i by unfold wrap64; omega]
          exact Ev.now _

/-! Level of the reference -/
theorem ref_level_l0 (x : Int) : ∀ (d j : Nat), j + d = w.length → Ev (fun k => reliquaryref09_Level.l0 k w x (sumTo w j) (j : Int)) (if x < sumTo w j then (0, 0, 12) else lev (w.drop j) (x - sumTo w j) (j : Int)) := by
  intro d
  induction d with
  | zero =>
    intro j hj
    obtain rfl : j = w.length := by omega
    rw [List.drop_length, lev, ite_self]
    exact Ev.step (f := fun _ => some (0, 0, 12)) (fun k => by simp only [reliquaryref09_Level.l0]; rw [if_neg (by omega)]) (Ev.now _)
  | succ d ih =>
    intro j hj
    have b1 := sumTo_bd hg j
    have b2 := elem_bd hg j (by omega)
    have b3 := hg.1
    have inner : ∀ (e : Nat) (y : Int), 0 ≤ y → y + e = w.getD j 0 → Ev (fun k => reliquaryref09_Level.l1 k w x (sumTo w j + y) (j : Int) y) (if x < sumTo w j + y then (0, 0, 12) else lev (w.drop j) (x - sumTo w j) (j : Int)) := by
      intro e
      induction e with
      | zero =>
        intro y hy he
        have h1 := ih (j + 1) (by omega)
        rw [sumTo_succ w j (by omega)] at h1
        have hR : (if x < sumTo w j + y then ((0 : Int), (0 : Int), (12 : Int)) else lev (w.drop j) (x - sumTo w j) (j : Int)) = (if x < sumTo w j + w.getD j 0 then (0, 0, 12) else lev (w.drop (j + 1)) (x - (sumTo w j + w.getD j 0)) ((j + 1 : Nat) : Int)) := by
          obtain rfl : y = w.getD j 0 := by omega
          by_cases h : x < sumTo w j + w.getD j 0
          · rw [if_pos h, if_pos h]
          · rw [if_neg h, if_neg h, drop_cons w j (by omega), lev, if_neg (by omega), show x - sumTo w j - w.getD j 0 = x - (sumTo w j + w.getD j 0) by omega, show ((j + 1 : Nat) : Int) = (j : Int) + 1 by omega]
        rw [hR]
        refine Ev.step (fun k => ?_) h1
        simp only [reliquaryref09_Level.l1]
        rw [if_pos (by omega), if_pos (by omega), rd_nat, if_neg (by omega), show sumTo w j + y = sumTo w j + w.getD j 0 by omega, show wrap64 ((j : Int) + 1) = ((j + 1 : Nat) : Int) by unfold wrap64; omega]
      | succ e ihe =>
        intro y hy he
        by_cases h : sumTo w j + y = x
        · rw [if_neg (by omega), drop_cons w j (by omega), lev, if_pos (by omega)]
          refine Ev.step (f := fun _ => some ((j : Int), x - sumTo w j, 0)) (fun k => ?_) (Ev.now _)
          simp only [reliquaryref09_Level.l1]
          rw [if_pos (by omega), if_pos (by omega), rd_nat, if_pos (by omega), if_pos h, show x - sumTo w j = y by omega]
        · have h1 := ihe (y + 1) (by omega) (by omega)
          have hR : (if x < sumTo w j + (y + 1) then ((0 : Int), (0 : Int), (12 : Int)) else lev (w.drop j) (x - sumTo w j) (j : Int)) = (if x < sumTo w j + y then (0, 0, 12) else lev (w.drop j) (x - sumTo w j) (j : Int)) := by
            by_cases h2 : x < sumTo w j + y
            · rw [if_pos (by omega), if_pos h2]
            · rw [if_neg (by omega), if_neg h2]
          rw [hR] at h1
          refine Ev.step (fun k => ?_) h1
          simp only [reliquaryref09_Level.l1]
          rw [if_pos (by omega), if_pos (by omega), rd_nat, if_pos (by omega), if_neg h, show wrap64 (sumTo w j + y + 1) = sumTo w j + (y + 1) by unfold wrap64; omega, show wrap64 (y + 1) = y + 1 by unfold wrap64; omega]
    have h2 := inner (w.getD j 0).toNat 0 (by omega) (by omega)
    rw [Int.add_zero] at h2
    refine Ev.step (fun k => ?_) h2
    simp only [reliquaryref09_Level.l0]
    rw [if_pos (by omega)]
theorem ref_level_ev (x : Int) : Ev (fun k => reliquaryref09_Level.f k w x) (levelOf w x) := by
  have h := ref_level_l0 hg x w.length 0 (by omega)
  rw [show sumTo w 0 = 0 by simp [sumTo], List.drop_zero, Int.sub_zero] at h
  exact h
theorem ref_place_ev (x s : Int) : Ev (fun k => reliquaryref09_Place.f k w x s) (placeOf w x s) := by
  unfold reliquaryref09_Place.f placeOf
  refine Ev.bind (ref_level_ev hg x) ?_
  by_cases h : (levelOf w x).2.2 = 0
  · have h' := (level_err hg x).1 h
    have b3 := hg.2.2.1
    simp only [if_pos h]
    by_cases h0 : s < 0
    · simp only [if_pos h0, if_neg (show ¬ s = 0 by omega), if_neg (show ¬ s = 1 by omega)]; exact Ev.now _
    · by_cases h1 : s > 1
      · simp only [if_neg h0, if_pos h1, if_neg (show ¬ s = 0 by omega), if_neg (show ¬ s = 1 by omega)]; exact Ev.now _
      · simp only [if_neg h0, if_neg h1]
        rw [show wrap64 (wrap64 (2 * x) + s) = 2 * x + s by unfold wrap64; omega]
        by_cases h2 : s = 0
        · simp only [if_pos h2]; exact Ev.now _
        · simp only [if_neg h2, if_pos (show s = 1 by omega)]; exact Ev.now _
  · simp only [if_neg h]; exact Ev.now _

/-! Path -/
omit hg
def pth (w : List Int) : Nat → Nat → Int → List Int
  | 0, _, _ => []
  | d + 1, j, i => (sumTo w j + i) :: pth w d (j + 1) (i / 4)
def pathOf (w : List Int) (i : Int) : List Int × Int := if i < 0 then ([], 12) else if i ≥ w.getD 0 0 then ([], 12) else (pth w w.length 0 i, 0)
theorem pth_len (w : List Int) : ∀ (d j : Nat) (i : Int), (pth w d j i).length = d := by
  intro d
  induction d with
  | zero => intro j i; rfl
  | succ d ih => intro j i; simp [pth, ih]
include hg
theorem next_bd (j : Nat) (hj : j + 1 < w.length) (i : Int) (h0 : 0 ≤ i) (h1 : i < w.getD j 0) : 0 ≤ i / 4 ∧ i / 4 < w.getD (j + 1) 0 := by
  have h := (hg.2.2.2.1 j (List.mem_range.2 (by omega))).1
  omega
theorem path_l0 : ∀ (d j : Nat) (i : Int) (out : List Int), j + d = w.length → 0 ≤ i → (0 < d → i < w.getD j 0) → out.length = j → Ev (fun k => shape_Shape_Path.l0 k i out (w.length : Int) (j : Int) w) (out ++ pth w d j i, 0) := by
  intro d
  induction d with
  | zero =>
    intro j i out hj h0 h1 ho
    rw [pth, List.append_nil]
    have b3 := hg.1
    refine Ev.step (f := fun _ => some (out, 0)) (fun k => ?_) (Ev.now _)
    simp only [shape_Shape_Path.l0]
    rw [if_neg (by omega), if_neg (by omega)]
  | succ d ih =>
    intro j i out hj h0 h1 ho
    have h1 := h1 (by omega)
    have b2 := elem_bd hg j (by omega)
    have b3 := hg.1
    have hi : itemOf w (j : Int) i = (sumTo w j + i, 0) := by
      unfold itemOf
      rw [if_neg (by omega), if_neg (by omega), if_neg (by omega), Int.toNat_natCast, if_neg (by omega)]
    have h2 := ih (j + 1) (i / 4) (out ++ [sumTo w j + i]) (by omega) (by omega) (fun hd => (next_bd hg j (by omega) i h0 h1).2) (by simp [ho])
    rw [pth, show out ++ (sumTo w j + i) :: pth w d (j + 1) (i / 4) = out ++ [sumTo w j + i] ++ pth w d (j + 1) (i / 4) by simp]
    have h3 := item_ev hg (j : Int) i
    rw [hi] at h3
    refine Ev.step (f := fun k => (shape_Shape_Item.f k w (j : Int) i).bind fun b => if b.2 = 0 then (if out.length < 17592186044416 then shape_Shape_Path.l0 k (wrap64 (Int.tdiv i 4)) (out ++ [b.1]) (w.length : Int) (wrap64 ((j : Int) + 1)) w else none) else some ([], b.2)) (fun k => ?_) (Ev.bind h3 ?_)
    · simp only [shape_Shape_Path.l0]
      rw [if_pos (by omega)]
    · simp only [if_true, if_pos (show out.length < 17592186044416 by omega)]
      rw [show wrap64 (Int.tdiv i 4) = i / 4 by rw [Int.tdiv_eq_ediv_of_nonneg h0]; unfold wrap64; omega, show wrap64 ((j : Int) + 1) = ((j + 1 : Nat) : Int) by unfold wrap64; omega]
      exact h2
theorem path_ev (i : Int) : Ev (fun k => shape_Shape_Path.f k w i) (pathOf w i) := by
  have b3 := hg.1
  unfold shape_Shape_Path.f pathOf
  have bad : itemOf w 0 i = (0, 12) → Ev (fun k => shape_Shape_Path.l0 k i [] (w.length : Int) 0 w) ([], 12) := by
    intro hi
    have h3 := item_ev hg 0 i
    rw [hi] at h3
    refine Ev.step (f := fun k => (shape_Shape_Item.f k w 0 i).bind fun b => if b.2 = 0 then (if ([] : List Int).length < 17592186044416 then shape_Shape_Path.l0 k (wrap64 (Int.tdiv i 4)) ([] ++ [b.1]) (w.length : Int) (wrap64 ((0 : Int) + 1)) w else none) else some ([], b.2)) (fun k => ?_) (Ev.bind h3 ?_)
    · simp only [shape_Shape_Path.l0]
      rw [if_pos (by omega)]
    · simp only [if_neg (show ¬ (12 : Int) = 0 by omega)]
      exact Ev.now _
  by_cases h1 : i < 0
  · rw [if_pos h1]
    refine bad ?_
    unfold itemOf
    rw [if_neg (by omega), if_neg (by omega), if_pos h1]
  · rw [if_neg h1]
    by_cases h2 : i ≥ w.getD 0 0
    · rw [if_pos h2]
      refine bad ?_
      unfold itemOf
      rw [if_neg (by omega), if_neg (by omega), if_neg h1, show (0 : Int).toNat = 0 from rfl, if_pos h2]
    · rw [if_neg h2]
      have h := path_l0 hg w.length 0 i [] (by omega) (by omega) (fun _ => by omega) rfl
      rw [List.nil_append] at h
      exact h
theorem ref_path_l0 : ∀ (d j : Nat) (i : Int) (out : List Int), j + d = w.length → 0 ≤ i → (0 < d → i < w.getD j 0) → out.length = j → Ev (fun k => reliquaryref09_Path.l0 k w out (sumTo w j) i (j : Int)) (out ++ pth w d j i, 0) := by
  intro d
  induction d with
  | zero =>
    intro j i out hj h0 h1 ho
    rw [pth, List.append_nil]
    refine Ev.step (f := fun _ => some (out, 0)) (fun k => ?_) (Ev.now _)
    simp only [reliquaryref09_Path.l0]
    rw [if_neg (by omega)]
  | succ d ih =>
    intro j i out hj h0 h1 ho
    have h1 := h1 (by omega)
    have b1 := sumTo_bd hg j
    have b2 := elem_bd hg j (by omega)
    have b3 := hg.1
    have h2 := ih (j + 1) (i / 4) (out ++ [sumTo w j + i]) (by omega) (by omega) (fun hd => (next_bd hg j (by omega) i h0 h1).2) (by simp [ho])
    rw [pth, show out ++ (sumTo w j + i) :: pth w d (j + 1) (i / 4) = out ++ [sumTo w j + i] ++ pth w d (j + 1) (i / 4) by simp]
    refine Ev.step (fun k => ?_) h2
    simp only [reliquaryref09_Path.l0]
    rw [if_pos (by omega), if_pos (by omega), if_pos (by omega), rd_nat, sumTo_succ w j (by omega)]
    rw [show wrap64 (sumTo w j + i) = sumTo w j + i by unfold wrap64; omega, show wrap64 (sumTo w j + w.getD j 0) = sumTo w j + w.getD j 0 by unfold wrap64; omega, show wrap64 (Int.tdiv i 4) = i / 4 by rw [Int.tdiv_eq_ediv_of_nonneg h0]; unfold wrap64; omega, show wrap64 ((j : Int) + 1) = ((j + 1 : Nat) : Int) by unfold wrap64; omega]
theorem ref_path_ev (i : Int) : Ev (fun k => reliquaryref09_Path.f k w i) (pathOf w i) := by
  have b3 := hg.1
  unfold reliquaryref09_Path.f pathOf
  simp only [if_neg (show ¬ (w.length : Int) = 0 by omega), if_pos (show (0 : Int) < (w.length : Int) by omega)]
  by_cases h1 : i < 0
  · simp only [if_pos h1]
    exact Ev.step (f := fun _ => some ([], 12)) (fun k => by simp [reliquaryref09_Path.j0]) (Ev.now _)
  · simp only [if_neg h1]
    rw [show rd w 0 = w.getD 0 0 by unfold rd; rfl]
    by_cases h2 : i ≥ w.getD 0 0
    · simp only [if_pos h2, decide_eq_true h2]
      exact Ev.step (f := fun _ => some ([], 12)) (fun k => by simp [reliquaryref09_Path.j0]) (Ev.now _)
    · simp only [if_neg h2, decide_eq_false h2]
      have h := ref_path_l0 hg w.length 0 i [] (by omega) (by omega) (fun _ => by omega) rfl
      rw [List.nil_append, show sumTo w 0 = 0 by simp [sumTo]] at h
      exact Ev.step (f := fun k => reliquaryref09_Path.l0 k w [] 0 i 0) (fun k => by simp [reliquaryref09_Path.j0]) h
end
theorem pathOf_len {w : List Int} (hg : FineRow w) (i : Int) : (pathOf w i).1.length ≤ 1000 := by
  have b3 := hg.1
  unfold pathOf
  split
  · simp
  · split
    · simp
    · rw [pth_len]; omega
theorem ShapeTells : reliquarylaw09_ShapeTells.Pure := by
  intro a0 a1 a2 a3 a4 w0 w1 w2 w3 w4
  have b3 : a3 ≤ 9223372036854775807 := by
    have : -9223372036854775808 ≤ a3 ∧ a3 ≤ 9223372036854775807 := by simpa [Lit.wf, IntKind.min, IntKind.max, IntKind.signed, IntKind.bits] using w3
    exact this.2
  apply Ev.rounds
  unfold reliquarylaw09_ShapeTells.f
  refine Ev.bind awake_ev ?_
  simp only [if_true]
  by_cases h : 1 ≤ a0 ∧ a0 ≤ 1024
  · refine Ev.bind (new_ev a0 h.1 h.2) ?_
    refine Ev.bind (ref_new_ev a0 h.1 h.2) ?_
    have hg := good_at a0 h.1 h.2
    generalize ws a0 = w at hg
    simp only [if_true]
    refine Ev.bind (same_ev w (by have := hg.1; omega)) ?_
    refine Ev.step (fun k => by simp only [reliquarylaw09_ShapeTells.j0, Bool.not_true, if_true]; rw [if_neg (by decide)]) ?_
    refine Ev.bind (item_ev hg a1 a2) ?_
    refine Ev.bind (ref_item_ev hg a1 a2) ?_
    refine Ev.bind (level_ev hg a3 b3) ?_
    refine Ev.bind (ref_level_ev hg a3) ?_
    refine Ev.bind (place_ev hg a3 a4 b3) ?_
    refine Ev.bind (ref_place_ev hg a3 a4) ?_
    refine Ev.bind (path_ev hg a2) ?_
    refine Ev.bind (ref_path_ev hg a2) ?_
    refine Ev.bind (items_ev hg) ?_
    refine Ev.bind (ref_items_all hg) ?_
    have ht : shape_Shape_Top.f w = some (wrap64 ((w.length : Int) - 1)) := by
      have := hg.1
      unfold shape_Shape_Top.f mx
      rw [if_neg (by unfold wrap64; omega)]
    simp only [if_true, ht, Option.bind_some]
    refine Ev.bind (same_ev (pathOf w a2).1 (pathOf_len hg a2)) ?_
    simp only [if_true, beq_self_eq_true]
    exact Ev.now _
  · have h' : a0 < 1 ∨ 1024 < a0 := by omega
    refine Ev.bind (new_no_ev a0 h') ?_
    refine Ev.bind (ref_new_no a0 h') ?_
    simp only [if_true]
    refine Ev.bind (same_ev [] (by simp)) ?_
    refine Ev.step (f := fun _ => some true) (fun k => by simp [reliquarylaw09_ShapeTells.j0]) (Ev.now _)
end Go.Proofs.Ytnfmdalmpfppoaa.Pure
