/- The statement ShapeWidths over numbers and lists: for every number of leaves the program's widths are the reference's. Conditions: none. -/
import Derived.Test.YtnfmdalmpfppoaaQShapeWidthsx3
namespace Go.Proofs.Ytnfmdalmpfppoaa.Pure
open Go.RowKit Go.Proofs.Ytnfmdalmpfppoaa.QShapeWidths Go.Proofs.YtnfmdalmpfppoaaW.PrintWords Go.Proofs.YtnfmdalmpfppoaaW.PrintLast Go.Proofs.YtnfmdalmpfppoaaW.PrintMore

def upOf (n : Int) : Int := (n + 3) / 4
def chain : Nat → Int → List Int
  | 0, _ => []
  | f + 1, m => m :: (if m > 1 then chain f (upOf m) else [])
/-- The widths of a tree of so many leaves. -/
def ws (n : Int) : List Int := n :: chain 5 (upOf n)

theorem new_all : (List.range 1024).all (fun m => decide (shape_New.f 12 ((m : Int) + 1) = some (ws ((m : Int) + 1), 0))) = true := by
  decide +kernel
theorem new_at (n : Int) (h0 : 1 ≤ n) (h1 : n ≤ 1024) : shape_New.f 12 n = some (ws n, 0) := by
  obtain ⟨m, rfl⟩ : ∃ m : Nat, n = (m : Int) + 1 := ⟨(n - 1).toNat, by omega⟩
  exact of_decide_eq_true (List.all_eq_true.1 new_all m (List.mem_range.2 (by omega)))
theorem new_ev (n : Int) (h0 : 1 ≤ n) (h1 : n ≤ 1024) : Ev (fun k => shape_New.f k n) (ws n, 0) := Ev.of (shape_New.mono n) (new_at n h0 h1)
theorem new_no (n : Int) (h : n < 1 ∨ 1024 < n) : shape_New.f 1 n = some ([], 1) := by
  unfold shape_New.f
  by_cases h1 : n < 1
  · rw [if_pos h1]; simp [shape_New.j0]
  · rw [if_neg h1, decide_eq_true (show n > 1024 by omega)]; simp [shape_New.j0]
theorem new_no_ev (n : Int) (h : n < 1 ∨ 1024 < n) : Ev (fun k => shape_New.f k n) ([], 1) := Ev.of (shape_New.mono n) (new_no n h)

theorem awake_ev : Ev (fun k => reliquarylaw09_awake.f k) true := Ev.of reliquarylaw09_awake.mono (k := 20) (by decide +kernel)

/-! New of the reference -/
theorem ref_l1 (x4 : List Int) (n : Int) (R : List Int × Int) (h0 : 1 ≤ n) (h1 : n ≤ 1024) (hl : x4.length ≤ 100) (h : Ev (fun k => reliquaryref09_New.l0 k (x4 ++ [upOf n]) (upOf n)) R) :
    ∀ (d : Nat) (m : Int), 0 ≤ m → m + d = upOf n → Ev (fun k => reliquaryref09_New.l1 k x4 n m) R := by
  intro d
  induction d with
  | zero =>
    intro m hm he
    unfold upOf at he
    obtain rfl : m = upOf n := by unfold upOf; omega
    refine Ev.step (fun k => ?_) h
    simp only [reliquaryref09_New.l1]
    rw [show wrap64 (4 * upOf n) = 4 * upOf n by unfold wrap64 upOf; omega, if_neg (by unfold upOf; omega), if_pos (by omega)]
  | succ d ih =>
    intro m hm he
    have he' := he
    unfold upOf at he'
    refine Ev.step (fun k => ?_) (ih (m + 1) (by omega) (by omega))
    simp only [reliquaryref09_New.l1]
    rw [show wrap64 (4 * m) = 4 * m by unfold wrap64; omega, if_pos (by omega), show wrap64 (m + 1) = m + 1 by unfold wrap64; omega]
theorem ref_l0 : ∀ (f : Nat) (pre : List Int) (m : Int), 1 ≤ pre.length → pre.length + f ≤ 90 → 1 ≤ m → m ≤ 4 ^ f → m ≤ 1024 → Ev (fun k => reliquaryref09_New.l0 k (pre ++ [m]) m) (pre ++ chain (f + 1) m, 0) := by
  have stop : ∀ (f : Nat) (pre : List Int), 1 ≤ pre.length → Ev (fun k => reliquaryref09_New.l0 k (pre ++ [1]) 1) (pre ++ chain (f + 1) 1, 0) := by
    intro f pre hp
    rw [show chain (f + 1) 1 = [1] by simp [chain]]
    refine Ev.step (f := fun k => reliquaryref09_New.j2 k (pre ++ [1]) 1 false) (fun k => ?_) (Ev.step (f := fun _ => some (pre ++ [1], 0)) (fun k => ?_) (Ev.now _))
    · simp only [reliquaryref09_New.l0]
      rw [if_neg (by omega), show (((pre ++ [(1 : Int)]).length : Int) == 1) = false from beq_eq_false_iff_ne.2 (by simp; omega)]
    · simp [reliquaryref09_New.j2]
  intro f
  induction f with
  | zero =>
    intro pre m hp hl h0 h1 h2
    obtain rfl : m = 1 := by simp at h1; omega
    exact stop 0 pre hp
  | succ f ih =>
    intro pre m hp hl h0 h1 h2
    rcases Int.lt_or_eq_of_le h0 with h3 | h3
    · have hu : upOf m ≤ 4 ^ f := by unfold upOf; rw [Int.pow_succ] at h1; omega
      have h4 := ih (pre ++ [m]) (upOf m) (by simp) (by simp; omega) (by unfold upOf; omega) hu (by unfold upOf; omega)
      rw [show chain (f + 1 + 1) m = m :: chain (f + 1) (upOf m) by rw [chain, if_pos (by omega)], show pre ++ m :: chain (f + 1) (upOf m) = pre ++ [m] ++ chain (f + 1) (upOf m) by simp]
      refine Ev.step (f := fun k => reliquaryref09_New.j2 k (pre ++ [m]) m true) (fun k => ?_) (Ev.step (f := fun k => reliquaryref09_New.l1 k (pre ++ [m]) m 0) (fun k => ?_) ?_)
      · simp only [reliquaryref09_New.l0]
        rw [if_pos (by omega)]
      · simp [reliquaryref09_New.j2]
      · exact ref_l1 (pre ++ [m]) m _ h0 h2 (by simp; omega) h4 (upOf m).toNat 0 (by omega) (by unfold upOf; omega)
    · subst h3; exact stop (f + 1) pre hp
theorem ref_new_ev (n : Int) (h0 : 1 ≤ n) (h1 : n ≤ 1024) : Ev (fun k => reliquaryref09_New.f k n) (ws n, 0) := by
  have h2 := ref_l0 4 [n] (upOf n) (by simp) (by simp) (by unfold upOf; omega) (by unfold upOf; omega) (by unfold upOf; omega)
  have h3 := ref_l1 [n] n _ h0 h1 (by simp) h2 (upOf n).toNat 0 (by omega) (by unfold upOf; omega)
  have h4 : ∀ b : Bool, b = true → Ev (fun k => reliquaryref09_New.j2 k [n] n b) ([n] ++ chain (4 + 1) (upOf n), 0) := fun b hb =>
    Ev.step (f := fun k => reliquaryref09_New.l1 k [n] n 0) (fun k => by simp [reliquaryref09_New.j2, hb]) h3
  unfold reliquaryref09_New.f
  simp only [if_neg (show ¬ n < 1 by omega), decide_eq_false (show ¬ n > 1024 by omega)]
  refine Ev.step (f := fun k => reliquaryref09_New.l0 k [n] n) (fun k => by simp [reliquaryref09_New.j0]) ?_
  by_cases h : n > 1
  · exact Ev.step (f := fun k => reliquaryref09_New.j2 k [n] n true) (fun k => by simp only [reliquaryref09_New.l0]; rw [if_pos h]) (h4 true rfl)
  · exact Ev.step (f := fun k => reliquaryref09_New.j2 k [n] n (([n].length : Int) == 1)) (fun k => by simp only [reliquaryref09_New.l0]; rw [if_neg h]) (h4 _ rfl)
theorem ref_new_no (n : Int) (h : n < 1 ∨ 1024 < n) : Ev (fun k => reliquaryref09_New.f k n) ([], 1) := by
  unfold reliquaryref09_New.f
  by_cases h1 : n < 1
  · simp only [if_pos h1]
    exact Ev.step (f := fun _ => some ([], 1)) (fun k => by simp [reliquaryref09_New.j0]) (Ev.now _)
  · simp only [if_neg h1, decide_eq_true (show n > 1024 by omega)]
    exact Ev.step (f := fun _ => some ([], 1)) (fun k => by simp [reliquaryref09_New.j0]) (Ev.now _)

/-! same -/
theorem same_l0 (v : List Int) (hl : v.length ≤ 1000) : ∀ (d j : Nat), j + d = v.length → Ev (fun k => reliquarylaw09_same.l0 k v v (j : Int)) true := by
  intro d
  induction d with
  | zero =>
    intro j hj
    exact Ev.step (f := fun _ => some true) (fun k => by simp only [reliquarylaw09_same.l0]; rw [if_neg (by omega)]) (Ev.now _)
  | succ d ih =>
    intro j hj
    refine Ev.step (fun k => ?_) (ih (j + 1) (by omega))
    simp only [reliquarylaw09_same.l0]
    rw [if_pos (by omega), if_pos (by omega), if_pos (by omega), show wrap64 ((j : Int) + 1) = ((j + 1 : Nat) : Int) by unfold wrap64; omega, if_true]
theorem same_ev (v : List Int) (hl : v.length ≤ 1000) : Ev (fun k => reliquarylaw09_same.f k v v) true := by
  unfold reliquarylaw09_same.f
  simp only [if_true]
  exact same_l0 v hl v.length 0 (by omega)


theorem ws_len (n : Int) : (ws n).length ≤ 1000 := by
  have h : ∀ (f : Nat) (m : Int), (chain f m).length ≤ f := by
    intro f
    induction f with
    | zero => intro m; simp [chain]
    | succ f ih =>
      intro m
      rw [chain]
      split
      · have := ih (upOf m); simp; omega
      · simp
  have := h 5 (upOf n)
  simp [ws]; omega
theorem ShapeWidths : reliquarylaw09_ShapeWidths.Pure := by
  intro a0 w0
  have b0 : 0 ≤ a0 ∧ a0 ≤ 65535 := by simpa [Lit.wf, IntKind.min, IntKind.max, IntKind.signed, IntKind.bits] using w0
  apply Ev.rounds
  unfold reliquarylaw09_ShapeWidths.f
  refine Ev.bind awake_ev ?_
  simp only [if_true]
  rw [Int.tmod_eq_emod_of_nonneg b0.1]
  have e0 : wrap64 (wrap64 (a0 % 1030) - 2) = a0 % 1030 - 2 := by unfold wrap64; omega
  simp only [e0]
  have hb : -2 ≤ a0 % 1030 - 2 ∧ a0 % 1030 - 2 ≤ 1027 := by omega
  generalize a0 % 1030 - 2 = n at hb
  by_cases h : 1 ≤ n ∧ n ≤ 1024
  · refine Ev.bind (new_ev n h.1 h.2) ?_
    refine Ev.bind (ref_new_ev n h.1 h.2) ?_
    refine Ev.bind (same_ev (ws n) (ws_len n)) ?_
    simp only [if_true, beq_self_eq_true]
    exact Ev.now _
  · have h' : n < 1 ∨ 1024 < n := by omega
    refine Ev.bind (new_no_ev n h') ?_
    refine Ev.bind (ref_new_no n h') ?_
    refine Ev.bind (same_ev [] (by simp)) ?_
    simp only [if_true, beq_self_eq_true]
    exact Ev.now _
end Go.Proofs.Ytnfmdalmpfppoaa.Pure
