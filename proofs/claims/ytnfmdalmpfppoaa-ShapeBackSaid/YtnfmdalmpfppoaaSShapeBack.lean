/- What the shape's printed functions come to at every tree of 1 to 1024 leaves, in plain lists of numbers: New, Items, Item, Level, Place. Conditions: the bounds that each lemma names. -/
import Derived.Test.YtnfmdalmpfppoaaQShapeBackx3
namespace Go.Proofs.Ytnfmdalmpfppoaa.PureShapeBack
open Go.RowKit Go.Proofs.Ytnfmdalmpfppoaa.QShapeBack Go.Proofs.YtnfmdalmpfppoaaW.PrintWords Go.Proofs.YtnfmdalmpfppoaaW.PrintLast Go.Proofs.YtnfmdalmpfppoaaW.PrintMore

def upOf (n : Int) : Int := (n + 3) / 4
def chain : Nat → Int → List Int
  | 0, _ => []
  | f + 1, m => m :: (if m > 1 then chain f (upOf m) else [])
/-- The widths of a tree of so many leaves. -/
def ws (n : Int) : List Int := n :: chain 5 (upOf n)

theorem new_all : (List.range 1024).all (fun m => decide (shape_New.f 12 ((m : Int) + 1) = some (ws ((m : Int) + 1), 0))) = true := by
  decide +kernel
theorem new_at (n : Int) (h0 : 1 ≤ n) (h1 : n ≤ 1024) : shape_New.f 12 n = some (ws n, 0) := by
  obtain ⟨m, rfl⟩ : ∃ m : Nat, n = (m : Int) + 1 := ⟨(n - 1).toNat, by omega⟩
  exact of_decide_eq_true (List.all_eq_true.1 new_all m (List.mem_range.2 (by omega)))
theorem new_ev (n : Int) (h0 : 1 ≤ n) (h1 : n ≤ 1024) : Ev (fun k => shape_New.f k n) (ws n, 0) := Ev.of (shape_New.mono n) (new_at n h0 h1)
theorem new_no (n : Int) (h : n < 1 ∨ 1024 < n) : shape_New.f 1 n = some ([], 1) := by
  unfold shape_New.f
  by_cases h1 : n < 1
  · rw [if_pos h1]; simp [shape_New.j0]
  · rw [if_neg h1, decide_eq_true (show n > 1024 by omega)]; simp [shape_New.j0]
theorem new_no_ev (n : Int) (h : n < 1 ∨ 1024 < n) : Ev (fun k => shape_New.f k n) ([], 1) := Ev.of (shape_New.mono n) (new_no n h)

/-- What is known of the widths. -/
def FineRow (w : List Int) : Prop := (2 ≤ w.length ∧ w.length ≤ 6) ∧ (∀ x ∈ w, 1 ≤ x ∧ x ≤ 1024) ∧ (w.sum ≤ 4096) ∧ (∀ j ∈ List.range (w.length - 1), w.getD j 0 ≤ 4 * w.getD (j + 1) 0 ∧ 4 * (w.getD (j + 1) 0 - 1) < w.getD j 0) ∧ w.getD (w.length - 1) 0 = 1
instance (w : List Int) : Decidable (FineRow w) := by unfold FineRow; infer_instance
theorem good_all : (List.range 1024).all (fun m => decide (FineRow (ws ((m : Int) + 1)))) = true := by
  decide +kernel
theorem good_at (n : Int) (h0 : 1 ≤ n) (h1 : n ≤ 1024) : FineRow (ws n) := by
  obtain ⟨m, rfl⟩ : ∃ m : Nat, n = (m : Int) + 1 := ⟨(n - 1).toNat, by omega⟩
  exact of_decide_eq_true (List.all_eq_true.1 good_all m (List.mem_range.2 (by omega)))

theorem awake_ev : Ev (fun k => reliquarylaw09_awake.f k) true := Ev.of reliquarylaw09_awake.mono (k := 20) (by decide +kernel)

/-! Sums of the first ones -/
def sumTo (w : List Int) (j : Nat) : Int := (w.take j).sum
theorem sum_nonneg : ∀ (l : List Int), (∀ x ∈ l, 1 ≤ x ∧ x ≤ 1024) → 0 ≤ l.sum
  | [], _ => by simp
  | a :: l, h => by
    have h1 := sum_nonneg l (fun x hx => h x (List.mem_cons_of_mem _ hx))
    have h2 := (h a List.mem_cons_self).1
    rw [List.sum_cons]; omega
theorem sumTo_split (w : List Int) (j : Nat) : sumTo w j + (w.drop j).sum = w.sum := by
  have h := congrArg List.sum (List.take_append_drop j w)
  rw [List.sum_append] at h
  exact h
theorem rd_nat (w : List Int) (j : Nat) : rd w (j : Int) = w.getD j 0 := by unfold rd; rw [Int.toNat_natCast]
theorem drop_cons (w : List Int) (j : Nat) (h : j < w.length) : w.drop j = w.getD j 0 :: w.drop (j + 1) := by
  rw [List.drop_eq_getElem_cons h]
  simp [List.getD, List.getElem?_eq_getElem h]
theorem sumTo_succ (w : List Int) (j : Nat) (h : j < w.length) : sumTo w (j + 1) = sumTo w j + w.getD j 0 := by
  have h1 := sumTo_split w j
  have h2 := sumTo_split w (j + 1)
  rw [drop_cons w j h, List.sum_cons] at h1
  omega
section
variable {w : List Int} (hg : FineRow w)
include hg
theorem drop_nonneg (j : Nat) : 0 ≤ (w.drop j).sum := sum_nonneg _ (fun x hx => hg.2.1 x (List.mem_of_mem_drop hx))
theorem sumTo_bd (j : Nat) : 0 ≤ sumTo w j ∧ sumTo w j ≤ 4096 := by
  have h1 := sumTo_split w j
  have h2 := drop_nonneg hg j
  have h3 := hg.2.2.1
  have h4 := sum_nonneg (w.take j) (fun x hx => hg.2.1 x (List.mem_of_mem_take hx))
  exact ⟨h4, by omega⟩
theorem elem_bd (j : Nat) (h : j < w.length) : 1 ≤ w.getD j 0 ∧ w.getD j 0 ≤ 1024 := by
  have h1 : w.getD j 0 = w[j] := by simp [List.getD, List.getElem?_eq_getElem h]
  rw [h1]
  exact hg.2.1 _ (List.getElem_mem h)

/-! Items -/
theorem items_l0 : ∀ (d j : Nat), j + d = w.length → Ev (fun k => shape_Shape_Items.l0 k (sumTo w j) w (w.length : Int) (j : Int)) w.sum := by
  intro d
  induction d with
  | zero =>
    intro j hj
    refine Ev.step (f := fun _ => some w.sum) (fun k => ?_) (Ev.now _)
    obtain rfl : j = w.length := by omega
    have h := sumTo_split w w.length
    rw [List.drop_length, List.sum_nil] at h
    have h' : sumTo w w.length = w.sum := by omega
    simp only [shape_Shape_Items.l0]
    rw [if_neg (by omega), h']
  | succ d ih =>
    intro j hj
    refine Ev.step (f := fun k => shape_Shape_Items.l0 k (sumTo w (j + 1)) w (w.length : Int) ((j + 1 : Nat) : Int)) (fun k => ?_) (ih (j + 1) (by omega))
    have b1 := sumTo_bd hg j
    have b2 := elem_bd hg j (by omega)
    have b3 := hg.1
    simp only [shape_Shape_Items.l0]
    rw [if_pos (by omega), if_pos (by omega), if_pos (by omega), rd_nat, sumTo_succ w j (by omega)]
    rw [show wrap64 (sumTo w j + w.getD j 0) = sumTo w j + w.getD j 0 by unfold wrap64; omega, show wrap64 ((j : Int) + 1) = ((j + 1 : Nat) : Int) by unfold wrap64; omega]
theorem items_ev : Ev (fun k => shape_Shape_Items.f k w) w.sum := by
  unfold shape_Shape_Items.f
  exact items_l0 hg w.length 0 (by omega)

/-! Item -/
def itemOf (w : List Int) (l i : Int) : Int × Int := if l < 0 then (0, 12) else if l ≥ (w.length : Int) then (0, 12) else if i < 0 then (0, 12) else if i ≥ w.getD l.toNat 0 then (0, 12) else (sumTo w l.toNat + i, 0)
theorem item_l0 (l : Nat) (i : Int) (hl : l < w.length) (h0 : 0 ≤ i) (h1 : i ≤ 1024) : ∀ (d j : Nat), j + d = l → Ev (fun k => shape_Shape_Item.l0 k (sumTo w j + i) (l : Int) (j : Int) w) (sumTo w l + i, 0) := by
  intro d
  induction d with
  | zero =>
    intro j hj
    refine Ev.step (f := fun _ => some (sumTo w l + i, 0)) (fun k => ?_) (Ev.now _)
    obtain rfl : j = l := by omega
    simp only [shape_Shape_Item.l0]
    rw [if_neg (by omega)]
  | succ d ih =>
    intro j hj
    refine Ev.step (f := fun k => shape_Shape_Item.l0 k (sumTo w (j + 1) + i) (l : Int) ((j + 1 : Nat) : Int) w) (fun k => ?_) (ih (j + 1) (by omega))
    have b1 := sumTo_bd hg j
    have b2 := elem_bd hg j (by omega)
    have b3 := hg.1
    simp only [shape_Shape_Item.l0]
    rw [if_pos (by omega), if_pos (by omega), if_pos (by omega), rd_nat, sumTo_succ w j (by omega)]
    rw [show wrap64 (sumTo w j + i + w.getD j 0) = sumTo w j + w.getD j 0 + i by unfold wrap64; omega, show wrap64 ((j : Int) + 1) = ((j + 1 : Nat) : Int) by unfold wrap64; omega]
theorem item_ev (l i : Int) : Ev (fun k => shape_Shape_Item.f k w l i) (itemOf w l i) := by
  unfold shape_Shape_Item.f itemOf
  by_cases h1 : l < 0
  · simp only [if_pos h1]
    exact Ev.step (f := fun _ => some (0, 12)) (fun k => by simp [shape_Shape_Item.j0]) (Ev.now _)
  · simp only [if_neg h1]
    by_cases h2 : l ≥ (w.length : Int)
    · simp only [if_pos h2]
      exact Ev.step (f := fun _ => some (0, 12)) (fun k => by simp [shape_Shape_Item.j0]) (Ev.now _)
    · simp only [if_neg h2]
      by_cases h3 : i < 0
      · simp only [if_pos h3]
        exact Ev.step (f := fun _ => some (0, 12)) (fun k => by simp [shape_Shape_Item.j0]) (Ev.now _)
      · obtain ⟨j, rfl⟩ : ∃ j : Nat, l = (j : Int) := ⟨l.toNat, by omega⟩
        have hj : j < w.length := by omega
        have b2 := elem_bd hg j hj
        simp only [if_neg h3, if_pos (show (0 : Int) ≤ (j : Int) by omega), if_pos (show (j : Int) < (w.length : Int) by omega), rd_nat, Int.toNat_natCast]
        by_cases h4 : i ≥ w.getD j 0
        · simp only [if_pos h4, decide_eq_true h4]
          exact Ev.step (f := fun _ => some (0, 12)) (fun k => by simp [shape_Shape_Item.j0]) (Ev.now _)
        · simp only [if_neg h4, decide_eq_false h4]
          have hz : sumTo w 0 = 0 := by simp [sumTo]
          have h5 := item_l0 hg j i hj (by omega) (by omega) j 0 (by omega)
          rw [hz, Int.zero_add] at h5
          exact Ev.step (f := fun k => shape_Shape_Item.l0 k i (j : Int) 0 w) (fun k => by simp [shape_Shape_Item.j0]) h5
omit hg

/-! Level -/
def lev : List Int → Int → Int → Int × Int × Int
  | [], _, _ => (0, 0, 12)
  | a :: t, x, l => if x < a then (l, x, 0) else lev t (x - a) (l + 1)
def levelOf (w : List Int) (x : Int) : Int × Int × Int := if x < 0 then (0, 0, 12) else lev w x 0
include hg
theorem level_l0 : ∀ (d j : Nat) (x : Int), j + d = w.length → 0 ≤ x → x ≤ 9223372036854775807 → Ev (fun k => shape_Shape_Level.l0 k x (j : Int) w) (lev (w.drop j) x (j : Int)) := by
  intro d
  induction d with
  | zero =>
    intro j x hj h0 h1
    obtain rfl : j = w.length := by omega
    rw [List.drop_length]
    refine Ev.step (f := fun _ => some (0, 0, 12)) (fun k => ?_) (Ev.now _)
    simp only [shape_Shape_Level.l0]
    rw [if_neg (by omega)]
    simp
  | succ d ih =>
    intro j x hj h0 h1
    have b2 := elem_bd hg j (by omega)
    have b3 := hg.1
    rw [drop_cons w j (by omega), lev]
    by_cases h2 : x < w.getD j 0
    · rw [if_pos h2]
      refine Ev.step (f := fun _ => some ((j : Int), x, 0)) (fun k => ?_) (Ev.now _)
      simp only [shape_Shape_Level.l0]
      rw [if_pos (by omega), if_pos (by omega), rd_nat, if_pos h2, if_neg (by omega)]
    · rw [if_neg h2]
      have h3 := ih (j + 1) (x - w.getD j 0) (by omega) (by omega) (by omega)
      rw [show ((j + 1 : Nat) : Int) = (j : Int) + 1 by omega] at h3
      refine Ev.step (f := fun k => shape_Shape_Level.l0 k (x - w.getD j 0) ((j : Int) + 1) w) (fun k => ?_) h3
      simp only [shape_Shape_Level.l0]
      rw [if_pos (by omega), if_pos (by omega), rd_nat, if_neg h2]
      rw [show wrap64 (x - w.getD j 0) = x - w.getD j 0 by unfold wrap64; omega, show wrap64 ((j : Int) + 1) = (j : Int) + 1 by unfold wrap64; omega]
theorem level_ev (x : Int) (hx : x ≤ 9223372036854775807) : Ev (fun k => shape_Shape_Level.f k w x) (levelOf w x) := by
  unfold shape_Shape_Level.f levelOf
  by_cases h : x < 0
  · simp only [if_pos h]; exact Ev.now _
  · simp only [if_neg h]
    exact level_l0 hg w.length 0 x (by omega) (by omega) hx
omit hg
/-! what level tells: at place l of the rest, the number is told by the sum ahead of it -/
theorem lev_yes : ∀ (t : List Int) (j : Nat) (x l : Int), j < t.length → (∀ y ∈ t, 1 ≤ y ∧ y ≤ 1024) → 0 ≤ x → x < t.getD j 0 → lev t (sumTo t j + x) l = (l + j, x, 0) := by
  intro t
  induction t with
  | nil => intro j x l hj; simp at hj
  | cons a t ih =>
    intro j x l hj hp h0 h1
    cases j with
    | zero =>
      have h1' : x < a := by simpa using h1
      rw [lev, if_pos (by simpa [sumTo] using h1')]
      simp [sumTo]
    | succ j =>
      have h1' : x < t.getD j 0 := by simpa using h1
      have hj' : j < t.length := by simpa using hj
      have h2 : sumTo (a :: t) (j + 1) = a + sumTo t j := by simp [sumTo]
      have h3 : 0 ≤ sumTo t j := sum_nonneg _ (fun y hy => hp y (List.mem_cons_of_mem _ (List.mem_of_mem_take hy)))
      rw [lev, if_neg (by omega), h2, show a + sumTo t j + x - a = sumTo t j + x by omega, ih j x (l + 1) hj' (fun y hy => hp y (List.mem_cons_of_mem _ hy)) h0 h1']
      simp only [Prod.mk.injEq, and_true]
      omega
theorem lev_ok : ∀ (t : List Int) (x l : Int), 0 ≤ x → x < t.sum → ∃ (j : Nat) (y : Int), j < t.length ∧ 0 ≤ y ∧ y < t.getD j 0 ∧ x = sumTo t j + y ∧ lev t x l = (l + j, y, 0) := by
  intro t
  induction t with
  | nil => intro x l h0 h1; simp at h1; omega
  | cons a t ih =>
    intro x l h0 h1
    rw [List.sum_cons] at h1
    by_cases h : x < a
    · refine ⟨0, x, by simp, h0, by simpa using h, by simp [sumTo], ?_⟩
      rw [lev, if_pos h]; simp
    · obtain ⟨j, y, g1, g2, g3, g4, g5⟩ := ih (x - a) (l + 1) (by omega) (by omega)
      refine ⟨j + 1, y, by simpa using g1, g2, by simpa using g3, ?_, ?_⟩
      · have h2 : sumTo (a :: t) (j + 1) = a + sumTo t j := by simp [sumTo]
        omega
      · rw [lev, if_neg h, g5]
        simp only [Prod.mk.injEq, and_true]
        omega
theorem lev_no : ∀ (t : List Int) (x l : Int), t.sum ≤ x → (∀ y ∈ t, 1 ≤ y ∧ y ≤ 1024) → lev t x l = (0, 0, 12) := by
  intro t
  induction t with
  | nil => intro x l h hp; rfl
  | cons a t ih =>
    intro x l h hp
    rw [List.sum_cons] at h
    have h2 := sum_nonneg t (fun y hy => hp y (List.mem_cons_of_mem _ hy))
    rw [lev, if_neg (by omega), ih _ _ (by omega) (fun y hy => hp y (List.mem_cons_of_mem _ hy))]

theorem level_err {w : List Int} (hg : FineRow w) (x : Int) : (levelOf w x).2.2 = 0 ↔ 0 ≤ x ∧ x < w.sum := by
  unfold levelOf
  by_cases h : x < 0
  · rw [if_pos h]; simp; omega
  · rw [if_neg h]
    by_cases h2 : x < w.sum
    · obtain ⟨j, y, _, _, _, _, g5⟩ := lev_ok w x 0 (by omega) h2
      rw [g5]; simp; omega
    · rw [lev_no w x 0 (by omega) hg.2.1]; simp; omega
end
end Go.Proofs.Ytnfmdalmpfppoaa.PureShapeBack
