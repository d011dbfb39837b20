import Derived.Test.YtnfmdalmpfppoaaQShapeAbovex0
import Derived.Test.YtnfmdalmpfppoaaQShapeAbovex1
import Derived.Test.YtnfmdalmpfppoaaQShapeAbovex2
namespace Go.Proofs.Ytnfmdalmpfppoaa.QShapeAbove
open Go.RowKit Go.Proofs.YtnfmdalmpfppoaaW.PrintWords Go.Proofs.YtnfmdalmpfppoaaW.PrintLast Go.Proofs.YtnfmdalmpfppoaaW.PrintMore
attribute [local go_sem] max2_int min2_int max_two min_two max_three min_three max_four min_four   -- for this text's walks alone
set_option linter.unusedVariables false
set_option linter.unusedSimpArgs false

/-! ### reliquarylaw09_ShapeAbove: function 4 -/
mutual
def reliquarylaw09_ShapeAbove.j0 : Nat → Int → Bool → List Int → Option (Bool)
  | 0, _, _, _ => none
  | k + 1, x4, x36, x152000 => if x36 = true then (some false) else (reliquarylaw09_ShapeAbove.l0 k x4 0 0 x152000)
def reliquarylaw09_ShapeAbove.l0 : Nat → Int → Int → Int → List Int → Option (Bool)
  | 0, _, _, _, _ => none
  | k + 1, x4, x7, x8, x152000 => if x8 < (x152000.length : Int) then (if 0 ≤ x8 then (if x8 > 0 then (if 0 ≤ (wrap64 (x8 - 1)) then (if (wrap64 (x8 - 1)) < (x152000.length : Int) then (if (wrap64 (4 * (rd x152000 x8))) < (rd x152000 (wrap64 (x8 - 1))) then (reliquarylaw09_ShapeAbove.j2 k x4 (wrap64 (x7 + (rd x152000 x8))) x8 true x152000) else (reliquarylaw09_ShapeAbove.j2 k x4 (wrap64 (x7 + (rd x152000 x8))) x8 (decide ((wrap64 (4 * (wrap64 ((rd x152000 x8) - 1)))) ≥ (rd x152000 (wrap64 (x8 - 1))))) x152000)) else (none)) else (none)) else (reliquarylaw09_ShapeAbove.j2 k x4 (wrap64 (x7 + (rd x152000 x8))) x8 false x152000)) else (none)) else ((shape_Shape_Items.f k x152000).bind fun t153 => (if x7 = t153 then (if x4 < 4 then (some true) else (some (decide ((wrap64 (x7 - x4)) < x4)))) else (some false)))
def reliquarylaw09_ShapeAbove.j2 : Nat → Int → Int → Int → Bool → List Int → Option (Bool)
  | 0, _, _, _, _, _ => none
  | k + 1, x4, x7, x8, x83, x152000 => if x83 = true then (some false) else (if x8 > 1 then (if 0 ≤ (wrap64 (x8 - 1)) then (if (wrap64 (x8 - 1)) < (x152000.length : Int) then (if (rd x152000 (wrap64 (x8 - 1))) = 1 then (some false) else (reliquarylaw09_ShapeAbove.l0 k x4 x7 (wrap64 (x8 + 1)) x152000)) else (none)) else (none)) else (reliquarylaw09_ShapeAbove.l0 k x4 x7 (wrap64 (x8 + 1)) x152000))
end
def reliquarylaw09_ShapeAbove.f (k : Nat) (a0 : Int) : Option (Bool) := (reliquarylaw09_awake.f k).bind fun t146 => (if t146 = true then ((shape_New.f k (wrap64 ((wrap64 (Int.tmod a0 1024)) + 1))).bind fun bt147 => (if bt147.2 = 0 then (if (bt147.1.length : Int) < 2 then (reliquarylaw09_ShapeAbove.j0 k (wrap64 ((wrap64 (Int.tmod a0 1024)) + 1)) true bt147.1) else (if 0 < (bt147.1.length : Int) then (reliquarylaw09_ShapeAbove.j0 k (wrap64 ((wrap64 (Int.tmod a0 1024)) + 1)) ((rd bt147.1 0) != (wrap64 ((wrap64 (Int.tmod a0 1024)) + 1))) bt147.1) else (none))) else (reliquarylaw09_ShapeAbove.j0 k (wrap64 ((wrap64 (Int.tmod a0 1024)) + 1)) true bt147.1))) else (some false))
theorem reliquarylaw09_ShapeAbove.mono_l : ∀ k, (∀ y0 y1 y2, LeO (reliquarylaw09_ShapeAbove.j0 k y0 y1 y2) (reliquarylaw09_ShapeAbove.j0 (k + 1) y0 y1 y2)) ∧ (∀ y0 y1 y2 y3, LeO (reliquarylaw09_ShapeAbove.l0 k y0 y1 y2 y3) (reliquarylaw09_ShapeAbove.l0 (k + 1) y0 y1 y2 y3)) ∧ (∀ y0 y1 y2 y3 y4, LeO (reliquarylaw09_ShapeAbove.j2 k y0 y1 y2 y3 y4) (reliquarylaw09_ShapeAbove.j2 (k + 1) y0 y1 y2 y3 y4))
  | 0 => ⟨fun _ _ _ r h => by simp [reliquarylaw09_ShapeAbove.j0] at h, fun _ _ _ _ r h => by simp [reliquarylaw09_ShapeAbove.l0] at h, fun _ _ _ _ _ r h => by simp [reliquarylaw09_ShapeAbove.j2] at h⟩
  | k + 1 => by
    obtain ⟨ih0, ih1, ih2⟩ := reliquarylaw09_ShapeAbove.mono_l k
    refine ⟨?_, ?_, ?_⟩
    · intro y0 y1 y2
      unfold reliquarylaw09_ShapeAbove.j0
      repeat' first
      | (with_reducible exact ih0 _ _ _)
      | (with_reducible exact ih1 _ _ _ _)
      | (with_reducible exact ih2 _ _ _ _ _)
      | (with_reducible exact reliquarylaw09_awake.mono _)
      | (with_reducible exact shape_New.mono _ _)
      | (with_reducible exact shape_Shape_Items.mono _ _)
      | (with_reducible exact LeO.refl _)
      | (with_reducible exact LeO.none _)
      | (with_reducible refine LeO.ite ?_ ?_)
      | (with_reducible refine LeO.bind ?_ (fun _ => ?_))
      | exact ih0 _ _ _
      | exact ih1 _ _ _ _
      | exact ih2 _ _ _ _ _
      | exact reliquarylaw09_awake.mono _
      | exact shape_New.mono _ _
      | exact shape_Shape_Items.mono _ _
      | exact LeO.none _
      | refine LeO.ite ?_ ?_
      | refine LeO.bind ?_ (fun _ => ?_)
    · intro y0 y1 y2 y3
      unfold reliquarylaw09_ShapeAbove.l0
      repeat' first
      | (with_reducible exact ih0 _ _ _)
      | (with_reducible exact ih1 _ _ _ _)
      | (with_reducible exact ih2 _ _ _ _ _)
      | (with_reducible exact reliquarylaw09_awake.mono _)
      | (with_reducible exact shape_New.mono _ _)
      | (with_reducible exact shape_Shape_Items.mono _ _)
      | (with_reducible exact LeO.refl _)
      | (with_reducible exact LeO.none _)
      | (with_reducible refine LeO.ite ?_ ?_)
      | (with_reducible refine LeO.bind ?_ (fun _ => ?_))
      | exact ih0 _ _ _
      | exact ih1 _ _ _ _
      | exact ih2 _ _ _ _ _
      | exact reliquarylaw09_awake.mono _
      | exact shape_New.mono _ _
      | exact shape_Shape_Items.mono _ _
      | exact LeO.none _
      | refine LeO.ite ?_ ?_
      | refine LeO.bind ?_ (fun _ => ?_)
    · intro y0 y1 y2 y3 y4
      unfold reliquarylaw09_ShapeAbove.j2
      repeat' first
      | (with_reducible exact ih0 _ _ _)
      | (with_reducible exact ih1 _ _ _ _)
      | (with_reducible exact ih2 _ _ _ _ _)
      | (with_reducible exact reliquarylaw09_awake.mono _)
      | (with_reducible exact shape_New.mono _ _)
      | (with_reducible exact shape_Shape_Items.mono _ _)
      | (with_reducible exact LeO.refl _)
      | (with_reducible exact LeO.none _)
      | (with_reducible refine LeO.ite ?_ ?_)
      | (with_reducible refine LeO.bind ?_ (fun _ => ?_))
      | exact ih0 _ _ _
      | exact ih1 _ _ _ _
      | exact ih2 _ _ _ _ _
      | exact reliquarylaw09_awake.mono _
      | exact shape_New.mono _ _
      | exact shape_Shape_Items.mono _ _
      | exact LeO.none _
      | refine LeO.ite ?_ ?_
      | refine LeO.bind ?_ (fun _ => ?_)
theorem reliquarylaw09_ShapeAbove.mono : ∀ a0 k, LeO (reliquarylaw09_ShapeAbove.f k a0) (reliquarylaw09_ShapeAbove.f (k + 1) a0) := by
  intro a0 k
  obtain ⟨ih0, ih1, ih2⟩ := reliquarylaw09_ShapeAbove.mono_l k
  unfold reliquarylaw09_ShapeAbove.f
  repeat' first
      | (with_reducible exact ih0 _ _ _)
      | (with_reducible exact ih1 _ _ _ _)
      | (with_reducible exact ih2 _ _ _ _ _)
      | (with_reducible exact reliquarylaw09_awake.mono _)
      | (with_reducible exact shape_New.mono _ _)
      | (with_reducible exact shape_Shape_Items.mono _ _)
      | (with_reducible exact LeO.refl _)
      | (with_reducible exact LeO.none _)
      | (with_reducible refine LeO.ite ?_ ?_)
      | (with_reducible refine LeO.bind ?_ (fun _ => ?_))
      | exact ih0 _ _ _
      | exact ih1 _ _ _ _
      | exact ih2 _ _ _ _ _
      | exact reliquarylaw09_awake.mono _
      | exact shape_New.mono _ _
      | exact shape_Shape_Items.mono _ _
      | exact LeO.none _
      | refine LeO.ite ?_ ?_
      | refine LeO.bind ?_ (fun _ => ?_)
set_option maxHeartbeats 8000000 in
set_option maxRecDepth 100000 in
theorem reliquarylaw09_ShapeAbove.calls (k : Nat) (a0 : Int) (r : Bool) (w : World) (h : reliquarylaw09_ShapeAbove.f k a0 = some r) :
    Calls Try.prog 4 #[.int .u16 a0] w fun e w' => e = .returned (.bool r) ∧ Below w.heap.size w w' := by
  have hu26 := Try.underlying26
  have HB := Aside0.mk (Below.refl w.heap.size w)
  have H : ((reliquarylaw09_awake.f k).bind fun t146 => (if t146 = true then ((shape_New.f k (wrap64 ((wrap64 (Int.tmod a0 1024)) + 1))).bind fun bt147 => (if bt147.2 = 0 then (if (bt147.1.length : Int) < 2 then (reliquarylaw09_ShapeAbove.j0 k (wrap64 ((wrap64 (Int.tmod a0 1024)) + 1)) true bt147.1) else (if 0 < (bt147.1.length : Int) then (reliquarylaw09_ShapeAbove.j0 k (wrap64 ((wrap64 (Int.tmod a0 1024)) + 1)) ((rd bt147.1 0) != (wrap64 ((wrap64 (Int.tmod a0 1024)) + 1))) bt147.1) else (none))) else (reliquarylaw09_ShapeAbove.j0 k (wrap64 ((wrap64 (Int.tmod a0 1024)) + 1)) true bt147.1))) else (some false))) = some r := h
  clear h
  replace H := Option.bind_eq_some_iff.mp H
  obtain ⟨t146, A20, H⟩ := H
  replace H : (if t146 = true then ((shape_New.f k (wrap64 ((wrap64 (Int.tmod a0 1024)) + 1))).bind fun bt147 => (if bt147.2 = 0 then (if (bt147.1.length : Int) < 2 then (reliquarylaw09_ShapeAbove.j0 k (wrap64 ((wrap64 (Int.tmod a0 1024)) + 1)) true bt147.1) else (if 0 < (bt147.1.length : Int) then (reliquarylaw09_ShapeAbove.j0 k (wrap64 ((wrap64 (Int.tmod a0 1024)) + 1)) ((rd bt147.1 0) != (wrap64 ((wrap64 (Int.tmod a0 1024)) + 1))) bt147.1) else (none))) else (reliquarylaw09_ShapeAbove.j0 k (wrap64 ((wrap64 (Int.tmod a0 1024)) + 1)) true bt147.1))) else (some false)) = some r := H
  have A2 := Aside0.mk A20
  clear A20
  by_cases c3 : t146 = true
  · subst c3
    have H1 : ((shape_New.f k (wrap64 ((wrap64 (Int.tmod a0 1024)) + 1))).bind fun bt147 => (if bt147.2 = 0 then (if (bt147.1.length : Int) < 2 then (reliquarylaw09_ShapeAbove.j0 k (wrap64 ((wrap64 (Int.tmod a0 1024)) + 1)) true bt147.1) else (if 0 < (bt147.1.length : Int) then (reliquarylaw09_ShapeAbove.j0 k (wrap64 ((wrap64 (Int.tmod a0 1024)) + 1)) ((rd bt147.1 0) != (wrap64 ((wrap64 (Int.tmod a0 1024)) + 1))) bt147.1) else (none))) else (reliquarylaw09_ShapeAbove.j0 k (wrap64 ((wrap64 (Int.tmod a0 1024)) + 1)) true bt147.1))) = some r := by rw [if_pos rfl] at H; exact H
    clear H
    have H := H1
    clear H1
    replace H := Option.bind_eq_some_iff.mp H
    obtain ⟨⟨t147, t150⟩, A40, H⟩ := H
    replace H : (if t150 = 0 then (if (t147.length : Int) < 2 then (reliquarylaw09_ShapeAbove.j0 k (wrap64 ((wrap64 (Int.tmod a0 1024)) + 1)) true t147) else (if 0 < (t147.length : Int) then (reliquarylaw09_ShapeAbove.j0 k (wrap64 ((wrap64 (Int.tmod a0 1024)) + 1)) ((rd t147 0) != (wrap64 ((wrap64 (Int.tmod a0 1024)) + 1))) t147) else (none))) else (reliquarylaw09_ShapeAbove.j0 k (wrap64 ((wrap64 (Int.tmod a0 1024)) + 1)) true t147)) = some r := H
    have A4 := Aside0.mk A40
    clear A40
    have HC5 := Aside0.mk H
    clear H
    go_enter Try.func4, Try.ntmps4
    go_upto_region 6 with (first | (go_at_call 8; (with_reducible refine (reliquarylaw09_awake.calls k  true _ A2.out).mono ?_); rintro e w6 ⟨rfl, hb⟩; have n0_ := Aside0.mk (below_step (by repeat (first | (with_reducible first | exact HB.out | apply below_alloc | apply pw_below_drewN | apply below_drew1) | exact HB.out)) hb); clear HB; have HB := n0_; clear n0_; (try clear hb); (try clear hb2); (try clear hk); (try clear hi)) | (go_at_call 9; (with_reducible refine (shape_New.calls k (wrap64 ((wrap64 (Int.tmod a0 1024)) + 1)) t147 t150 _ A4.out).mono ?_); rintro e w7 ⟨v148, rfl, ho0, hb⟩; have n0_ := Aside0.mk (Kd.R_lower ho0 (below_size (by repeat (first | (with_reducible first | exact HB.out | apply below_alloc | apply pw_below_drewN | apply below_drew1) | exact HB.out)))); have n1_ := Aside0.mk (below_step (by repeat (first | (with_reducible first | exact HB.out | apply below_alloc | apply pw_below_drewN | apply below_drew1) | exact HB.out)) hb); clear HB; have HO149 := n0_; have HB := n1_; clear n0_ n1_; (try clear hb); (try clear hb2); (try clear hk); (try clear hi); (try clear ho0)) | ((with_reducible refine gate_dst (N := 5) rfl ?_); (try (refine gate_guard (by rfl) ?_; dsimp only)); refine box_event ?hg (N := 5) ?hd (cs := #[.slice none 0 0]) (t := 26) ?hr ?_; (case hd => rfl); (case hg => rfl); (case hr => first | (go_simp; done) | (go_simp; rfl)); intro gb151 hg w8 hbox hb; have n0_ := Aside0.mk (Kd.R_below (by (with_reducible repeat (first | apply Kd.R_alloc | apply Kd.R_drewN | apply Kd.R_drew)); exact HO149.out) hb); have n1_ := Aside0.mk (below_step (by repeat (first | (with_reducible first | exact HB.out | apply below_alloc | apply pw_below_drewN | apply below_drew1) | exact HB.out)) hb); have n2_ := Aside0.mk (hbox); have n3_ := Aside0.mk ((by rw [hg]; exact (below_size (by repeat (first | (with_reducible first | exact HB.out | apply below_alloc | apply pw_below_drewN | apply below_drew1) | exact HB.out))) : w.heap.size ≤ gb151)); have n4_ := Aside0.mk ((by rw [hg]; exact (below_size (by repeat (first | (with_reducible first | exact HB.out | apply below_alloc | apply pw_below_drewN | apply below_drew1) | exact HB.out))) : w.heap.size ≤ gb151)); clear HO149; clear HB; have HO149 := n0_; have HB := n1_; have BK151 := n2_; have GW151 := n3_; have GE151 := n4_; clear n0_ n1_ n2_ n3_ n4_; clear hb hbox hg; obtain ⟨Ao9, co9, eo9⟩ := Kd.R_slice HO149.out; subst eo9; have hcz10_0 : w8.cell? ⟨gb151, 0, none⟩ = some (.slice none 0 0) := (blk_cell BK151.out 0).trans rfl; have hfz10_0 := blk_frozen BK151.out 0))
    repeat (go_quiet (first | (go_at_call 8; (with_reducible refine (reliquarylaw09_awake.calls k  true _ A2.out).mono ?_); rintro e w6 ⟨rfl, hb⟩; have n0_ := Aside0.mk (below_step (by repeat (first | (with_reducible first | exact HB.out | apply below_alloc | apply pw_below_drewN | apply below_drew1) | exact HB.out)) hb); clear HB; have HB := n0_; clear n0_; (try clear hb); (try clear hb2); (try clear hk); (try clear hi)) | (go_at_call 9; (with_reducible refine (shape_New.calls k (wrap64 ((wrap64 (Int.tmod a0 1024)) + 1)) t147 t150 _ A4.out).mono ?_); rintro e w7 ⟨v148, rfl, ho0, hb⟩; have n0_ := Aside0.mk (Kd.R_lower ho0 (below_size (by repeat (first | (with_reducible first | exact HB.out | apply below_alloc | apply pw_below_drewN | apply below_drew1) | exact HB.out)))); have n1_ := Aside0.mk (below_step (by repeat (first | (with_reducible first | exact HB.out | apply below_alloc | apply pw_below_drewN | apply below_drew1) | exact HB.out)) hb); clear HB; have HO149 := n0_; have HB := n1_; clear n0_ n1_; (try clear hb); (try clear hb2); (try clear hk); (try clear hi); (try clear ho0)) | ((with_reducible refine gate_dst (N := 5) rfl ?_); (try (refine gate_guard (by rfl) ?_; dsimp only)); refine box_event ?hg (N := 5) ?hd (cs := #[.slice none 0 0]) (t := 26) ?hr ?_; (case hd => rfl); (case hg => rfl); (case hr => first | (go_simp; done) | (go_simp; rfl)); intro gb151 hg w8 hbox hb; have n0_ := Aside0.mk (Kd.R_below (by (with_reducible repeat (first | apply Kd.R_alloc | apply Kd.R_drewN | apply Kd.R_drew)); exact HO149.out) hb); have n1_ := Aside0.mk (below_step (by repeat (first | (with_reducible first | exact HB.out | apply below_alloc | apply pw_below_drewN | apply below_drew1) | exact HB.out)) hb); have n2_ := Aside0.mk (hbox); have n3_ := Aside0.mk ((by rw [hg]; exact (below_size (by repeat (first | (with_reducible first | exact HB.out | apply below_alloc | apply pw_below_drewN | apply below_drew1) | exact HB.out))) : w.heap.size ≤ gb151)); have n4_ := Aside0.mk ((by rw [hg]; exact (below_size (by repeat (first | (with_reducible first | exact HB.out | apply below_alloc | apply pw_below_drewN | apply below_drew1) | exact HB.out))) : w.heap.size ≤ gb151)); clear HO149; clear HB; have HO149 := n0_; have HB := n1_; have BK151 := n2_; have GW151 := n3_; have GE151 := n4_; clear n0_ n1_ n2_ n3_ n4_; clear hb hbox hg; obtain ⟨Ao9, co9, eo9⟩ := Kd.R_slice HO149.out; subst eo9; have hcz10_0 : w8.cell? ⟨gb151, 0, none⟩ = some (.slice none 0 0) := (blk_cell BK151.out 0).trans rfl; have hfz10_0 := blk_frozen BK151.out 0)); go_upto_region 6 with (first | (go_at_call 8; (with_reducible refine (reliquarylaw09_awake.calls k  true _ A2.out).mono ?_); rintro e w6 ⟨rfl, hb⟩; have n0_ := Aside0.mk (below_step (by repeat (first | (with_reducible first | exact HB.out | apply below_alloc | apply pw_below_drewN | apply below_drew1) | exact HB.out)) hb); clear HB; have HB := n0_; clear n0_; (try clear hb); (try clear hb2); (try clear hk); (try clear hi)) | (go_at_call 9; (with_reducible refine (shape_New.calls k (wrap64 ((wrap64 (Int.tmod a0 1024)) + 1)) t147 t150 _ A4.out).mono ?_); rintro e w7 ⟨v148, rfl, ho0, hb⟩; have n0_ := Aside0.mk (Kd.R_lower ho0 (below_size (by repeat (first | (with_reducible first | exact HB.out | apply below_alloc | apply pw_below_drewN | apply below_drew1) | exact HB.out)))); have n1_ := Aside0.mk (below_step (by repeat (first | (with_reducible first | exact HB.out | apply below_alloc | apply pw_below_drewN | apply below_drew1) | exact HB.out)) hb); clear HB; have HO149 := n0_; have HB := n1_; clear n0_ n1_; (try clear hb); (try clear hb2); (try clear hk); (try clear hi); (try clear ho0)) | ((with_reducible refine gate_dst (N := 5) rfl ?_); (try (refine gate_guard (by rfl) ?_; dsimp only)); refine box_event ?hg (N := 5) ?hd (cs := #[.slice none 0 0]) (t := 26) ?hr ?_; (case hd => rfl); (case hg => rfl); (case hr => first | (go_simp; done) | (go_simp; rfl)); intro gb151 hg w8 hbox hb; have n0_ := Aside0.mk (Kd.R_below (by (with_reducible repeat (first | apply Kd.R_alloc | apply Kd.R_drewN | apply Kd.R_drew)); exact HO149.out) hb); have n1_ := Aside0.mk (below_step (by repeat (first | (with_reducible first | exact HB.out | apply below_alloc | apply pw_below_drewN | apply below_drew1) | exact HB.out)) hb); have n2_ := Aside0.mk (hbox); have n3_ := Aside0.mk ((by rw [hg]; exact (below_size (by repeat (first | (with_reducible first | exact HB.out | apply below_alloc | apply pw_below_drewN | apply below_drew1) | exact HB.out))) : w.heap.size ≤ gb151)); have n4_ := Aside0.mk ((by rw [hg]; exact (below_size (by repeat (first | (with_reducible first | exact HB.out | apply below_alloc | apply pw_below_drewN | apply below_drew1) | exact HB.out))) : w.heap.size ≤ gb151)); clear HO149; clear HB; have HO149 := n0_; have HB := n1_; have BK151 := n2_; have GW151 := n3_; have GE151 := n4_; clear n0_ n1_ n2_ n3_ n4_; clear hb hbox hg; obtain ⟨Ao9, co9, eo9⟩ := Kd.R_slice HO149.out; subst eo9; have hcz10_0 : w8.cell? ⟨gb151, 0, none⟩ = some (.slice none 0 0) := (blk_cell BK151.out 0).trans rfl; have hfz10_0 := blk_frozen BK151.out 0)))
    (try simp only [Act.put, List.setIfInBounds_toArray, List.set_cons_zero, List.set_cons_succ])
    go_cut [36] (fun v36 wc => ∃ (kq : Nat) (x36_4 : Bool), v36 = .bool x36_4 ∧ Aside0 (reliquarylaw09_ShapeAbove.j0 kq (wrap64 ((wrap64 (Int.tmod a0 1024)) + 1)) x36_4 t147 = some r) ∧ Aside0 (kq ≤ k) ∧ Aside0 (Kd.R (Kd.int .i64) 3 wc w.heap.size (fun _ => True) (.slice Ao9 t147.length co9) t147) ∧ Aside0 (wc.heap[gb151]? = some (.cells #[(.slice Ao9 t147.length co9)] 26 (0, 0))) ∧ Aside0 (Below w.heap.size w wc))
    case first =>
      have H := HC5.out
      clear HC5
      by_cases c11 : t150 = 0
      · rw [if_pos c11] at H
        have c11b0 : (t150 == 0) = true := beq_iff_eq.mpr c11
        have c11b1 : (t150 != 0) = false := bne_eq_false_iff_eq.mpr c11
        clear c11
        (first | rw [c11b0] | (simp only [i64_w, i32_w]; rw [c11b0]) | skip)
        by_cases c12 : (t147.length : Int) < 2
        · rw [if_pos c12] at H
          have c12b0 : decide ((t147.length : Int) < 2) = true := decide_eq_true c12
          have c12b1 : decide (t147.length < 2) = true := decide_eq_true (by omega)
          clear c12
          have H' := Aside0.mk H
          clear H
          have hcz13_0 : w8.cell? ⟨gb151, 0, none⟩ = some (.slice none 0 0) := (blk_cell BK151.out 0).trans rfl
          have hfz13_0 := blk_frozen BK151.out 0
          go_wp2
          repeat (go_quiet (fail); try go_wp2)
          go_meet
          case rel => exact ⟨_, (true), (by first | rfl | (simp; done) | (simp [*]; done)), H', ⟨by first | omega | exact Nat.le_refl _⟩, ⟨by (with_reducible repeat (first | apply Kd.R_alloc | apply Kd.R_drewN | apply Kd.R_drew)); exact Kd.R_mono (Kd.R_far (p := ⟨gb151, 0, none⟩) (Kd.R_types HO149.out BK151.out (by decide)) (fun _ hk => hk.2) (.slice Ao9 t147.length co9)) (fun _ hk => trivial)⟩, ⟨by (with_reducible repeat (first | refine blk_drewN ?_ _ | refine blk_drew ?_ | refine blk_alloc ?_ _)); refine blk_put (cs := #[.slice none 0 0]) ?_ 0 _ rfl; (with_reducible repeat (first | refine blk_drewN ?_ _ | refine blk_drew ?_ | refine blk_alloc ?_ _)); exact BK151.out⟩, ⟨by repeat (first | (with_reducible first | exact HB.out | apply below_alloc | apply pw_below_drewN | apply below_drew1 | refine below_set ?_ GE151.out) | exact HB.out)⟩⟩
        · rw [if_neg c12] at H
          have c12b0 : decide ((t147.length : Int) < 2) = false := decide_eq_false c12
          have c12b1 : decide (t147.length < 2) = false := decide_eq_false (by omega)
          clear c12
          by_cases c14 : 0 < (t147.length : Int)
          · rw [if_pos c14] at H
            have c14b0 : decide (0 < (t147.length : Int)) = true := decide_eq_true c14
            have c14b1 : decide (0 < t147.length) = true := decide_eq_true (by omega)
            clear c14
            have H' := Aside0.mk H
            clear H
            have hcz15_0 : w8.cell? ⟨gb151, 0, none⟩ = some (.slice none 0 0) := (blk_cell BK151.out 0).trans rfl
            have hfz15_0 := blk_frozen BK151.out 0
            have p152 : 0 ≤ (0 : Int) := (by omega)
            have q152 : 0 < (t147.length : Int) := of_decide_eq_true (by first | (with_reducible assumption) | assumption)
            obtain ⟨ad152, e152, hx152_0⟩ := Kd.at_int (Kd.R_reads' HO149.out).2.2 0 p152 q152
            cases e152
            have qi152 : (0 < t147.length) = True := eq_true (by omega)
            (try rw [show ((0 : Int)).toNat = 0 from rfl] at hx152_0)
            (try rw [Addr.add_zero'] at hx152_0)
            have hn152_0 : ad152.block ≠ gb151 := Kd.own_blk (Kd.R_ne HO149.out BK151.out (by decide))
            replace hx152_0 := (cell_far (p := ⟨gb151, 0, none⟩) (by first | (rw [add_block]; exact hn152_0) | (show (Addr.add _ _).block ≠ _; rw [add_block]; exact hn152_0) | exact hn152_0) (.slice (some ad152) t147.length co9)).trans hx152_0
            (try have hy152_0 := fun (n_ : Nat) => (show (((w8.drewN n_).setCell ⟨gb151, 0, none⟩ (.slice (some ad152) t147.length co9))).cell? _ = some _ from hx152_0))
            clear hn152_0
            replace p152 := eq_true p152
            replace q152 := eq_true q152
            go_wp2
            repeat (go_quiet (fail); try go_wp2)
            go_meet
            case rel => exact ⟨_, (((rd t147 0) != (wrap64 ((wrap64 (Int.tmod a0 1024)) + 1)))), (by first | rfl | (simp; done) | (simp [*]; done)), H', ⟨by first | omega | exact Nat.le_refl _⟩, ⟨by (with_reducible repeat (first | apply Kd.R_alloc | apply Kd.R_drewN | apply Kd.R_drew)); exact Kd.R_mono (Kd.R_far (p := ⟨gb151, 0, none⟩) (Kd.R_types HO149.out BK151.out (by decide)) (fun _ hk => hk.2) (.slice (some ad152) t147.length co9)) (fun _ hk => trivial)⟩, ⟨by (with_reducible repeat (first | refine blk_drewN ?_ _ | refine blk_drew ?_ | refine blk_alloc ?_ _)); refine blk_put (cs := #[.slice none 0 0]) ?_ 0 _ rfl; (with_reducible repeat (first | refine blk_drewN ?_ _ | refine blk_drew ?_ | refine blk_alloc ?_ _)); exact BK151.out⟩, ⟨by repeat (first | (with_reducible first | exact HB.out | apply below_alloc | apply pw_below_drewN | apply below_drew1 | refine below_set ?_ GE151.out) | exact HB.out)⟩⟩
          · rw [if_neg c14] at H
            exact absurd H (by simp)
      · rw [if_neg c11] at H
        have c11b0 : (t150 == 0) = false := beq_eq_false_iff_ne.mpr c11
        have c11b1 : (t150 != 0) = true := bne_iff_ne.mpr c11
        (first | rw [c11b0] | (simp only [i64_w, i32_w]; rw [c11b0]) | skip)
        have H' := Aside0.mk H
        clear H
        go_wp2
        repeat (go_quiet (fail); try go_wp2)
        go_meet
        case rel => exact ⟨_, (true), (by first | rfl | (simp; done) | (simp [*]; done)), H', ⟨by first | omega | exact Nat.le_refl _⟩, ⟨by (with_reducible repeat (first | apply Kd.R_alloc | apply Kd.R_drewN | apply Kd.R_drew)); exact Kd.R_mono (Kd.R_far (p := ⟨gb151, 0, none⟩) (Kd.R_types HO149.out BK151.out (by decide)) (fun _ hk => hk.2) (.slice Ao9 t147.length co9)) (fun _ hk => trivial)⟩, ⟨by (with_reducible repeat (first | refine blk_drewN ?_ _ | refine blk_drew ?_ | refine blk_alloc ?_ _)); refine blk_put (cs := #[.slice none 0 0]) ?_ 0 _ rfl; (with_reducible repeat (first | refine blk_drewN ?_ _ | refine blk_drew ?_ | refine blk_alloc ?_ _)); exact BK151.out⟩, ⟨by repeat (first | (with_reducible first | exact HB.out | apply below_alloc | apply pw_below_drewN | apply below_drew1 | refine below_set ?_ GE151.out) | exact HB.out)⟩⟩
    case rest =>
      clear HC5
      try clear c1
      try clear p1
      try clear q1
      try clear hx1
      try clear qi1
      try clear p2
      try clear c3
      try clear c4
      try clear p6
      try clear c11
      try clear c11b0
      try clear c11b1
      try clear c12
      try clear c12b0
      try clear c12b1
      try clear c14
      try clear c14b0
      try clear c14b1
      try clear p15
      try clear q15
      try clear hx15
      try clear qi15
      try clear hcz10_0
      try clear hcz13_0
      try clear hcz15_0
      try clear hfz10_0
      try clear hfz13_0
      try clear hfz15_0
      try clear hx152_0
      try clear p152
      try clear q152
      obtain ⟨kq, x36_4, rfl, HA, HJ4, HO_152000, BK151, HB⟩ := hcut
      cases kq with
      | zero => exact absurd HA.out (by simp [reliquarylaw09_ShapeAbove.j0])
      | succ kj4 =>
        have H := HA.out
        clear HA
        simp only [reliquarylaw09_ShapeAbove.j0] at H
        by_cases c16 : x36_4 = true
        · subst c16
          have H1 : (some false) = some r := by rw [if_pos rfl] at H; exact H
          clear H
          have H := H1
          clear H1
          obtain rfl := Option.some.inj H
          go_wp2
          repeat (go_quiet (fail); try go_wp2)
          go_ret
          exact ⟨by first | rfl | (simp [errW_none, errW_some] <;> rfl) | (simp [*, errW_none, errW_some] <;> rfl), by repeat (first | (with_reducible first | exact HB.out | apply below_alloc | apply pw_below_drewN | apply below_drew1 | refine below_set ?_ GE151.out) | exact HB.out)⟩
        · replace c16 := Bool.eq_false_iff.mpr c16
          subst c16
          have H1 : (reliquarylaw09_ShapeAbove.l0 kj4 (wrap64 ((wrap64 (Int.tmod a0 1024)) + 1)) 0 0 t147) = some r := by rw [if_neg (show ¬ (false = true) by decide)] at H; exact H
          clear H
          have H := H1
          clear H1
          have H' := Aside0.mk H
          clear H
          go_wp2
          repeat (go_quiet (fail); try go_wp2)
          go_loopg [7, 8] kj4 (fun kq v7 v8 w' => ∃ (x7_2 : Int) (x8_2 : Int), v7 = .int .i64 x7_2 ∧ v8 = .int .i64 x8_2 ∧ Aside0 (reliquarylaw09_ShapeAbove.l0 kq (wrap64 ((wrap64 (Int.tmod a0 1024)) + 1)) x7_2 x8_2 t147 = some r) ∧ Aside0 (kq ≤ kj4) ∧ Aside0 (Kd.R (Kd.int .i64) 3 w' w.heap.size (fun _ => True) (.slice Ao9 t147.length co9) t147) ∧ Aside0 (w'.heap[gb151]? = some (.cells #[(.slice Ao9 t147.length co9)] 26 (0, 0))) ∧ Aside0 (Below w.heap.size w w'))
          case atStart => exact ⟨(0), (0), (by first | rfl | (simp; done) | (simp [*]; done)), (by first | rfl | (simp; done) | (simp [*]; done)), H', ⟨Nat.le_refl _⟩, ⟨by (with_reducible repeat (first | apply Kd.R_alloc | apply Kd.R_drewN | apply Kd.R_drew)); exact HO_152000.out⟩, ⟨by (with_reducible repeat (first | refine blk_drewN ?_ _ | refine blk_drew ?_ | refine blk_alloc ?_ _)); exact BK151.out⟩, ⟨by repeat (first | (with_reducible first | exact HB.out | apply below_alloc | apply pw_below_drewN | apply below_drew1 | refine below_set ?_ GE151.out) | exact HB.out)⟩⟩
          case round =>
            clear H'
            try clear c1
            try clear p1
            try clear q1
            try clear hx1
            try clear qi1
            try clear p2
            try clear c3
            try clear c4
            try clear p6
            try clear c11
            try clear c11b0
            try clear c11b1
            try clear c12
            try clear c12b0
            try clear c12b1
            try clear c14
            try clear c14b0
            try clear c14b1
            try clear p15
            try clear q15
            try clear hx15
            try clear qi15
            try clear c16
            try clear hcz10_0
            try clear hcz13_0
            try clear hcz15_0
            try clear hfz10_0
            try clear hfz13_0
            try clear hfz15_0
            try clear hx152_0
            try clear p1
            try clear p15
            try clear p152
            try clear p2
            try clear p6
            try clear q1
            try clear q15
            try clear q152
            obtain ⟨x7_2, x8_2, rfl, rfl, HA, HK2, HO_152000, BK151, HB⟩ := hrel
            cases gk with
            | zero => exact absurd HA.out (by simp [reliquarylaw09_ShapeAbove.l0])
            | succ k2 =>
              have H := HA.out
              clear HA
              simp only [reliquarylaw09_ShapeAbove.l0] at H
              by_cases c17 : x8_2 < (t147.length : Int)
              · rw [if_pos c17] at H
                have c17b0 : decide (x8_2 < (t147.length : Int)) = true := decide_eq_true c17
                clear c17
                by_cases c18 : 0 ≤ x8_2
                · rw [if_pos c18] at H
                  have c18b0 : decide (0 ≤ x8_2) = true := decide_eq_true c18
                  clear c18
                  have HC19 := Aside0.mk H
                  clear H
                  have hcz20_0 : wr.cell? ⟨gb151, 0, none⟩ = some (.slice Ao9 t147.length co9) := (blk_cell BK151.out 0).trans rfl
                  have hfz20_0 := blk_frozen BK151.out 0
                  have p154 : 0 ≤ (x8_2 : Int) := of_decide_eq_true (by first | (with_reducible assumption) | assumption)
                  have q154 : x8_2 < (t147.length : Int) := of_decide_eq_true (by first | (with_reducible assumption) | assumption)
                  obtain ⟨ad154, e154, hx154_0⟩ := Kd.at_int (Kd.R_reads' HO_152000.out).2.2 x8_2 p154 q154
                  cases e154
                  replace p154 := eq_true p154
                  replace q154 := eq_true q154
                  go_upto_region 13 with (fail)
                  repeat (go_quiet (fail); go_upto_region 13 with (fail))
                  go_cut [83] (fun v83 wc => ∃ (kq : Nat) (x83_18 : Bool), v83 = .bool x83_18 ∧ Aside0 (reliquarylaw09_ShapeAbove.j2 kq (wrap64 ((wrap64 (Int.tmod a0 1024)) + 1)) (wrap64 (x7_2 + (rd t147 x8_2))) x8_2 x83_18 t147 = some r) ∧ Aside0 (kq ≤ k2) ∧ Aside0 (Kd.R (Kd.int .i64) 3 wc w.heap.size (fun _ => True) (.slice (some ad154) t147.length co9) t147) ∧ Aside0 (wc.heap[gb151]? = some (.cells #[(.slice (some ad154) t147.length co9)] 26 (0, 0))) ∧ Aside0 (Below w.heap.size w wc))
                  case first =>
                    have H := HC19.out
                    clear HC19
                    by_cases c21 : x8_2 > 0
                    · rw [if_pos c21] at H
                      have c21b0 : decide (0 < x8_2) = true := decide_eq_true c21
                      clear c21
                      (first | rw [c21b0] | (simp only [i64_w, i32_w]; rw [c21b0]) | skip)
                      obtain ⟨ji22, hji22⟩ : ∃ j_ : Int, (wrap64 (x8_2 - 1)) = j_ := ⟨_, rfl⟩
                      replace H : (if 0 ≤ (ji22) then (if (ji22) < (t147.length : Int) then (if (wrap64 (4 * (rd t147 x8_2))) < (rd t147 (ji22)) then (reliquarylaw09_ShapeAbove.j2 k2 (wrap64 ((wrap64 (Int.tmod a0 1024)) + 1)) (wrap64 (x7_2 + (rd t147 x8_2))) x8_2 true t147) else (reliquarylaw09_ShapeAbove.j2 k2 (wrap64 ((wrap64 (Int.tmod a0 1024)) + 1)) (wrap64 (x7_2 + (rd t147 x8_2))) x8_2 (decide ((wrap64 (4 * (wrap64 ((rd t147 x8_2) - 1)))) ≥ (rd t147 (ji22)))) t147)) else (none)) else (none)) = some r := by first | (rw [hji22] at H; exact H) | (simp only [hji22] at H ⊢; exact H)
                      have hji22w : (IntKind.i64.wrap (x8_2 - 1)) = ji22 := (i64_w _).trans hji22
                      by_cases c23 : 0 ≤ (ji22)
                      · rw [if_pos c23] at H
                        have c23b0 : decide (0 ≤ (ji22)) = true := decide_eq_true c23
                        clear c23
                        by_cases c24 : (ji22) < (t147.length : Int)
                        · rw [if_pos c24] at H
                          have c24b0 : decide ((ji22) < (t147.length : Int)) = true := decide_eq_true c24
                          clear c24
                          by_cases c25 : (wrap64 (4 * (rd t147 x8_2))) < (rd t147 (ji22))
                          · rw [if_pos c25] at H
                            have c25b0 : decide ((wrap64 (4 * (rd t147 x8_2))) < (rd t147 (ji22))) = true := decide_eq_true c25
                            clear c25
                            have H' := Aside0.mk H
                            clear H
                            have hcz26_0 : wr.cell? ⟨gb151, 0, none⟩ = some (.slice (some ad154) t147.length co9) := (blk_cell BK151.out 0).trans rfl
                            have hfz26_0 := blk_frozen BK151.out 0
                            have p155 : 0 ≤ (x8_2 : Int) := of_decide_eq_true (by first | (with_reducible assumption) | assumption)
                            have q155 : x8_2 < (t147.length : Int) := of_decide_eq_true (by first | (with_reducible assumption) | assumption)
                            obtain ⟨ad155, e155, hx155_0⟩ := Kd.at_int (Kd.R_reads' HO_152000.out).2.2 x8_2 p155 q155
                            obtain rfl : ad154 = ad155 := (by injection e155)
                            replace p155 := eq_true p155
                            replace q155 := eq_true q155
                            have p156 : 0 ≤ ((ji22) : Int) := of_decide_eq_true (by first | (with_reducible assumption) | assumption)
                            have q156 : (ji22) < (t147.length : Int) := of_decide_eq_true (by first | (with_reducible assumption) | assumption)
                            obtain ⟨ad156, e156, hx156_0⟩ := Kd.at_int (Kd.R_reads' HO_152000.out).2.2 (ji22) p156 q156
                            obtain rfl : ad154 = ad156 := (by injection e156)
                            replace p156 := eq_true p156
                            replace q156 := eq_true q156
                            go_wp2
                            repeat (go_quiet (fail); try go_wp2)
                            go_meet
                            case rel => exact ⟨_, (true), (by first | rfl | (simp; done) | (simp [*]; done)), H', ⟨by have := HJ4.out; have := HK2.out; first | omega | exact Nat.le_refl _⟩, ⟨by (with_reducible repeat (first | apply Kd.R_alloc | apply Kd.R_drewN | apply Kd.R_drew)); exact HO_152000.out⟩, ⟨by (with_reducible repeat (first | refine blk_drewN ?_ _ | refine blk_drew ?_ | refine blk_alloc ?_ _)); exact BK151.out⟩, ⟨by repeat (first | (with_reducible first | exact HB.out | apply below_alloc | apply pw_below_drewN | apply below_drew1 | refine below_set ?_ GE151.out) | exact HB.out)⟩⟩
                          · rw [if_neg c25] at H
                            have c25b0 : decide ((wrap64 (4 * (rd t147 x8_2))) < (rd t147 (ji22))) = false := decide_eq_false c25
                            clear c25
                            have H' := Aside0.mk H
                            clear H
                            have hcz27_0 : wr.cell? ⟨gb151, 0, none⟩ = some (.slice (some ad154) t147.length co9) := (blk_cell BK151.out 0).trans rfl
                            have hfz27_0 := blk_frozen BK151.out 0
                            have p155 : 0 ≤ (x8_2 : Int) := of_decide_eq_true (by first | (with_reducible assumption) | assumption)
                            have q155 : x8_2 < (t147.length : Int) := of_decide_eq_true (by first | (with_reducible assumption) | assumption)
                            obtain ⟨ad155, e155, hx155_0⟩ := Kd.at_int (Kd.R_reads' HO_152000.out).2.2 x8_2 p155 q155
                            obtain rfl : ad154 = ad155 := (by injection e155)
                            replace p155 := eq_true p155
                            replace q155 := eq_true q155
                            have p156 : 0 ≤ ((ji22) : Int) := of_decide_eq_true (by first | (with_reducible assumption) | assumption)
                            have q156 : (ji22) < (t147.length : Int) := of_decide_eq_true (by first | (with_reducible assumption) | assumption)
                            obtain ⟨ad156, e156, hx156_0⟩ := Kd.at_int (Kd.R_reads' HO_152000.out).2.2 (ji22) p156 q156
                            obtain rfl : ad154 = ad156 := (by injection e156)
                            replace p156 := eq_true p156
                            replace q156 := eq_true q156
                            have p157 : 0 ≤ (x8_2 : Int) := of_decide_eq_true (by first | (with_reducible assumption) | assumption)
                            have q157 : x8_2 < (t147.length : Int) := of_decide_eq_true (by first | (with_reducible assumption) | assumption)
                            obtain ⟨ad157, e157, hx157_0⟩ := Kd.at_int (Kd.R_reads' HO_152000.out).2.2 x8_2 p157 q157
                            obtain rfl : ad154 = ad157 := (by injection e157)
                            replace p157 := eq_true p157
                            replace q157 := eq_true q157
                            have p158 : 0 ≤ ((ji22) : Int) := of_decide_eq_true (by first | (with_reducible assumption) | assumption)
                            have q158 : (ji22) < (t147.length : Int) := of_decide_eq_true (by first | (with_reducible assumption) | assumption)
                            obtain ⟨ad158, e158, hx158_0⟩ := Kd.at_int (Kd.R_reads' HO_152000.out).2.2 (ji22) p158 q158
                            obtain rfl : ad154 = ad158 := (by injection e158)
                            replace p158 := eq_true p158
                            replace q158 := eq_true q158
                            go_wp2
                            repeat (go_quiet (fail); try go_wp2)
                            go_meet
                            case rel => exact ⟨_, (decide ((wrap64 (4 * (wrap64 ((rd t147 x8_2) - 1)))) ≥ (rd t147 (ji22)))), (by first | rfl | (simp; done) | (simp only [← hji22] <;> (first | rfl | simp)) | (simp [*]; done)), H', ⟨by have := HJ4.out; have := HK2.out; first | omega | exact Nat.le_refl _⟩, ⟨by (with_reducible repeat (first | apply Kd.R_alloc | apply Kd.R_drewN | apply Kd.R_drew)); exact HO_152000.out⟩, ⟨by (with_reducible repeat (first | refine blk_drewN ?_ _ | refine blk_drew ?_ | refine blk_alloc ?_ _)); exact BK151.out⟩, ⟨by repeat (first | (with_reducible first | exact HB.out | apply below_alloc | apply pw_below_drewN | apply below_drew1 | refine below_set ?_ GE151.out) | exact HB.out)⟩⟩
                        · rw [if_neg c24] at H
                          exact absurd H (by simp)
                      · rw [if_neg c23] at H
                        exact absurd H (by simp)
                    · rw [if_neg c21] at H
                      have c21b0 : decide (0 < x8_2) = false := decide_eq_false c21
                      clear c21
                      (first | rw [c21b0] | (simp only [i64_w, i32_w]; rw [c21b0]) | skip)
                      have H' := Aside0.mk H
                      clear H
                      go_wp2
                      repeat (go_quiet (fail); try go_wp2)
                      go_meet
                      case rel => exact ⟨_, (false), (by first | rfl | (simp; done) | (simp [*]; done)), H', ⟨by have := HJ4.out; have := HK2.out; first | omega | exact Nat.le_refl _⟩, ⟨by (with_reducible repeat (first | apply Kd.R_alloc | apply Kd.R_drewN | apply Kd.R_drew)); exact HO_152000.out⟩, ⟨by (with_reducible repeat (first | refine blk_drewN ?_ _ | refine blk_drew ?_ | refine blk_alloc ?_ _)); exact BK151.out⟩, ⟨by repeat (first | (with_reducible first | exact HB.out | apply below_alloc | apply pw_below_drewN | apply below_drew1 | refine below_set ?_ GE151.out) | exact HB.out)⟩⟩
                  case rest =>
                    clear HC19
                    try clear c1
                    try clear p1
                    try clear q1
                    try clear hx1
                    try clear qi1
                    try clear c2
                    try clear p2
                    try clear c3
                    try clear c4
                    try clear p6
                    try clear c11
                    try clear c11b0
                    try clear c11b1
                    try clear c12
                    try clear c12b0
                    try clear c12b1
                    try clear c14
                    try clear c14b0
                    try clear c14b1
                    try clear p15
                    try clear q15
                    try clear hx15
                    try clear qi15
                    try clear c16
                    try clear c17
                    try clear c17b0
                    try clear c18
                    try clear c18b0
                    try clear c21
                    try clear c21b0
                    try clear c23
                    try clear c23b0
                    try clear c24
                    try clear c24b0
                    try clear c25
                    try clear c25b0
                    try clear hcz10_0
                    try clear hcz13_0
                    try clear hcz15_0
                    try clear hcz20_0
                    try clear hcz26_0
                    try clear hcz27_0
                    try clear hfz10_0
                    try clear hfz13_0
                    try clear hfz15_0
                    try clear hfz20_0
                    try clear hfz26_0
                    try clear hfz27_0
                    try clear hx152_0
                    try clear hx154_0
                    try clear hx155_0
                    try clear hx156_0
                    try clear hx157_0
                    try clear hx158_0
                    try clear p1
                    try clear p15
                    try clear p152
                    try clear p154
                    try clear p155
                    try clear p156
                    try clear p157
                    try clear p158
                    try clear p2
                    try clear p6
                    try clear q1
                    try clear q15
                    try clear q152
                    try clear q154
                    try clear q155
                    try clear q156
                    try clear q157
                    try clear q158
                    obtain ⟨kq, x83_18, rfl, HA, HJ18, HO_152000, BK151, HB⟩ := hcut
                    cases kq with
                    | zero => exact absurd HA.out (by simp [reliquarylaw09_ShapeAbove.j2])
                    | succ kj18 =>
                      have H := HA.out
                      clear HA
                      simp only [reliquarylaw09_ShapeAbove.j2] at H
                      by_cases c28 : x83_18 = true
                      · subst c28
                        have H1 : (some false) = some r := by rw [if_pos rfl] at H; exact H
                        clear H
                        have H := H1
                        clear H1
                        obtain rfl := Option.some.inj H
                        go_wp2
                        repeat (go_quiet (fail); try go_wp2)
                        go_ret
                        exact ⟨by first | rfl | (simp [errW_none, errW_some] <;> rfl) | (simp [*, errW_none, errW_some] <;> rfl), by repeat (first | (with_reducible first | exact HB.out | apply below_alloc | apply pw_below_drewN | apply below_drew1 | refine below_set ?_ GE151.out) | exact HB.out)⟩
                      · replace c28 := Bool.eq_false_iff.mpr c28
                        subst c28
                        have H1 : (if x8_2 > 1 then (if 0 ≤ (wrap64 (x8_2 - 1)) then (if (wrap64 (x8_2 - 1)) < (t147.length : Int) then (if (rd t147 (wrap64 (x8_2 - 1))) = 1 then (some false) else (reliquarylaw09_ShapeAbove.l0 kj18 (wrap64 ((wrap64 (Int.tmod a0 1024)) + 1)) (wrap64 (x7_2 + (rd t147 x8_2))) (wrap64 (x8_2 + 1)) t147)) else (none)) else (none)) else (reliquarylaw09_ShapeAbove.l0 kj18 (wrap64 ((wrap64 (Int.tmod a0 1024)) + 1)) (wrap64 (x7_2 + (rd t147 x8_2))) (wrap64 (x8_2 + 1)) t147)) = some r := by rw [if_neg (show ¬ (false = true) by decide)] at H; exact H
                        clear H
                        have H := H1
                        clear H1
                        by_cases c29 : x8_2 > 1
                        · rw [if_pos c29] at H
                          have c29b0 : decide (1 < x8_2) = true := decide_eq_true c29
                          clear c29
                          obtain ⟨ji30, hji30⟩ : ∃ j_ : Int, (wrap64 (x8_2 - 1)) = j_ := ⟨_, rfl⟩
                          replace H : (if 0 ≤ (ji30) then (if (ji30) < (t147.length : Int) then (if (rd t147 (ji30)) = 1 then (some false) else (reliquarylaw09_ShapeAbove.l0 kj18 (wrap64 ((wrap64 (Int.tmod a0 1024)) + 1)) (wrap64 (x7_2 + (rd t147 x8_2))) (wrap64 (x8_2 + 1)) t147)) else (none)) else (none)) = some r := by first | (rw [hji30] at H; exact H) | (simp only [hji30] at H ⊢; exact H)
                          have hji30w : (IntKind.i64.wrap (x8_2 - 1)) = ji30 := (i64_w _).trans hji30
                          by_cases c31 : 0 ≤ (ji30)
                          · rw [if_pos c31] at H
                            have c31b0 : decide (0 ≤ (ji30)) = true := decide_eq_true c31
                            clear c31
                            by_cases c32 : (ji30) < (t147.length : Int)
                            · rw [if_pos c32] at H
                              have c32b0 : decide ((ji30) < (t147.length : Int)) = true := decide_eq_true c32
                              clear c32
                              by_cases c33 : (rd t147 (ji30)) = 1
                              · rw [if_pos c33] at H
                                have c33b0 : ((rd t147 (ji30)) == 1) = true := beq_iff_eq.mpr c33
                                have c33b1 : ((rd t147 (ji30)) != 1) = false := bne_eq_false_iff_eq.mpr c33
                                clear c33
                                obtain rfl := Option.some.inj H
                                have hcz34_0 : wc.cell? ⟨gb151, 0, none⟩ = some (.slice (some ad154) t147.length co9) := (blk_cell BK151.out 0).trans rfl
                                have hfz34_0 := blk_frozen BK151.out 0
                                have p159 : 0 ≤ ((ji30) : Int) := of_decide_eq_true (by first | (with_reducible assumption) | assumption)
                                have q159 : (ji30) < (t147.length : Int) := of_decide_eq_true (by first | (with_reducible assumption) | assumption)
                                obtain ⟨ad159, e159, hx159_0⟩ := Kd.at_int (Kd.R_reads' HO_152000.out).2.2 (ji30) p159 q159
                                obtain rfl : ad154 = ad159 := (by injection e159)
                                replace p159 := eq_true p159
                                replace q159 := eq_true q159
                                go_wp2
                                repeat (go_quiet (fail); try go_wp2)
                                go_ret
                                exact ⟨by first | rfl | (simp [errW_none, errW_some] <;> rfl) | (simp only [← hji30]; first | rfl | (simp [errW_none, errW_some] <;> rfl)) | (simp [*, errW_none, errW_some] <;> rfl), by repeat (first | (with_reducible first | exact HB.out | apply below_alloc | apply pw_below_drewN | apply below_drew1 | refine below_set ?_ GE151.out) | exact HB.out)⟩
                              · rw [if_neg c33] at H
                                have c33b0 : ((rd t147 (ji30)) == 1) = false := beq_eq_false_iff_ne.mpr c33
                                have c33b1 : ((rd t147 (ji30)) != 1) = true := bne_iff_ne.mpr c33
                                have H' := Aside0.mk H
                                clear H
                                have hcz35_0 : wc.cell? ⟨gb151, 0, none⟩ = some (.slice (some ad154) t147.length co9) := (blk_cell BK151.out 0).trans rfl
                                have hfz35_0 := blk_frozen BK151.out 0
                                have p159 : 0 ≤ ((ji30) : Int) := of_decide_eq_true (by first | (with_reducible assumption) | assumption)
                                have q159 : (ji30) < (t147.length : Int) := of_decide_eq_true (by first | (with_reducible assumption) | assumption)
                                obtain ⟨ad159, e159, hx159_0⟩ := Kd.at_int (Kd.R_reads' HO_152000.out).2.2 (ji30) p159 q159
                                obtain rfl : ad154 = ad159 := (by injection e159)
                                replace p159 := eq_true p159
                                replace q159 := eq_true q159
                                go_wp2
                                repeat (go_quiet (fail); try go_wp2)
                                go_roundg kj18
                                case measure => have := HJ4.out; have := HK2.out; have := HJ18.out; omega
                                case rel => exact ⟨((wrap64 (x7_2 + (rd t147 x8_2)))), (wrap64 (x8_2 + 1)), (by first | rfl | (simp; done) | (simp [*]; done)), (by first | rfl | (simp; done) | (simp [*]; done)), H', ⟨by have := HJ4.out; have := HK2.out; have := HJ18.out; omega⟩, ⟨by (with_reducible repeat (first | apply Kd.R_alloc | apply Kd.R_drewN | apply Kd.R_drew)); exact HO_152000.out⟩, ⟨by (with_reducible repeat (first | refine blk_drewN ?_ _ | refine blk_drew ?_ | refine blk_alloc ?_ _)); exact BK151.out⟩, ⟨by repeat (first | (with_reducible first | exact HB.out | apply below_alloc | apply pw_below_drewN | apply below_drew1 | refine below_set ?_ GE151.out) | exact HB.out)⟩⟩
                            · rw [if_neg c32] at H
                              exact absurd H (by simp)
                          · rw [if_neg c31] at H
                            exact absurd H (by simp)
                        · rw [if_neg c29] at H
                          have c29b0 : decide (1 < x8_2) = false := decide_eq_false c29
                          clear c29
                          have H' := Aside0.mk H
                          clear H
                          go_wp2
                          repeat (go_quiet (fail); try go_wp2)
                          go_roundg kj18
                          case measure => have := HJ4.out; have := HK2.out; have := HJ18.out; omega
                          case rel => exact ⟨((wrap64 (x7_2 + (rd t147 x8_2)))), (wrap64 (x8_2 + 1)), (by first | rfl | (simp; done) | (simp [*]; done)), (by first | rfl | (simp; done) | (simp [*]; done)), H', ⟨by have := HJ4.out; have := HK2.out; have := HJ18.out; omega⟩, ⟨by (with_reducible repeat (first | apply Kd.R_alloc | apply Kd.R_drewN | apply Kd.R_drew)); exact HO_152000.out⟩, ⟨by (with_reducible repeat (first | refine blk_drewN ?_ _ | refine blk_drew ?_ | refine blk_alloc ?_ _)); exact BK151.out⟩, ⟨by repeat (first | (with_reducible first | exact HB.out | apply below_alloc | apply pw_below_drewN | apply below_drew1 | refine below_set ?_ GE151.out) | exact HB.out)⟩⟩
                · rw [if_neg c18] at H
                  exact absurd H (by simp)
              · rw [if_neg c17] at H
                have c17b0 : decide (x8_2 < (t147.length : Int)) = false := decide_eq_false c17
                clear c17
                replace H := Option.bind_eq_some_iff.mp H
                obtain ⟨t153, A360, H⟩ := H
                replace H : (if x7_2 = t153 then (if (wrap64 ((wrap64 (Int.tmod a0 1024)) + 1)) < 4 then (some true) else (some (decide ((wrap64 (x7_2 - (wrap64 ((wrap64 (Int.tmod a0 1024)) + 1)))) < (wrap64 ((wrap64 (Int.tmod a0 1024)) + 1)))))) else (some false)) = some r := H
                have A36 := Aside0.mk A360
                clear A360
                by_cases c37 : x7_2 = t153
                · rw [if_pos c37] at H
                  have c37b0 : (x7_2 == t153) = true := beq_iff_eq.mpr c37
                  have c37b1 : (x7_2 != t153) = false := bne_eq_false_iff_eq.mpr c37
                  clear c37
                  by_cases c38 : (wrap64 ((wrap64 (Int.tmod a0 1024)) + 1)) < 4
                  · rw [if_pos c38] at H
                    have c38b0 : decide ((wrap64 ((wrap64 (Int.tmod a0 1024)) + 1)) < 4) = true := decide_eq_true c38
                    clear c38
                    obtain rfl := Option.some.inj H
                    have hcz39_0 : wr.cell? ⟨gb151, 0, none⟩ = some (.slice Ao9 t147.length co9) := (blk_cell BK151.out 0).trans rfl
                    have hfz39_0 := blk_frozen BK151.out 0
                    go_wp2_with (first | (go_at_call 12; (with_reducible refine (shape_Shape_Items.calls k2 _ _ t147 t153 _ ?side1 ?side2 A36.out).mono ?_); (case side1 => repeat (first | exact (Kd.R_reads' HO_152000.out).2.2 | (with_reducible refine Kd.C_alloc ?_ _) | (with_reducible refine Kd.C_drewN ?_ _) | (with_reducible refine Kd.C_drew ?_))); (case side2 => exact (Kd.R_reads' HO_152000.out).2.1); rintro e w40 ⟨rfl, hb⟩; have n0_ := Aside0.mk (Kd.R_below (by (with_reducible repeat (first | apply Kd.R_alloc | apply Kd.R_drewN | apply Kd.R_drew)); exact HO_152000.out) hb); have n1_ := Aside0.mk (blk_below (g := gb151) (o := .cells #[.slice Ao9 t147.length co9] 26 (0, 0)) (by (with_reducible repeat (first | refine blk_drewN ?_ _ | refine blk_drew ?_ | refine blk_alloc ?_ _)); exact BK151.out) hb); have n2_ := Aside0.mk (below_step (by repeat (first | (with_reducible first | exact HB.out | apply below_alloc | apply pw_below_drewN | apply below_drew1 | refine below_set ?_ GE151.out) | exact HB.out)) hb); clear HO_152000; clear BK151; clear HB; have HO_152000 := n0_; have BK151 := n1_; have HB := n2_; clear n0_ n1_ n2_; (try clear hb); (try clear hb2); (try clear hk); (try clear hi)))
                    repeat (go_quiet (first | (go_at_call 12; (with_reducible refine (shape_Shape_Items.calls k2 _ _ t147 t153 _ ?side1 ?side2 A36.out).mono ?_); (case side1 => repeat (first | exact (Kd.R_reads' HO_152000.out).2.2 | (with_reducible refine Kd.C_alloc ?_ _) | (with_reducible refine Kd.C_drewN ?_ _) | (with_reducible refine Kd.C_drew ?_))); (case side2 => exact (Kd.R_reads' HO_152000.out).2.1); rintro e w40 ⟨rfl, hb⟩; have n0_ := Aside0.mk (Kd.R_below (by (with_reducible repeat (first | apply Kd.R_alloc | apply Kd.R_drewN | apply Kd.R_drew)); exact HO_152000.out) hb); have n1_ := Aside0.mk (blk_below (g := gb151) (o := .cells #[.slice Ao9 t147.length co9] 26 (0, 0)) (by (with_reducible repeat (first | refine blk_drewN ?_ _ | refine blk_drew ?_ | refine blk_alloc ?_ _)); exact BK151.out) hb); have n2_ := Aside0.mk (below_step (by repeat (first | (with_reducible first | exact HB.out | apply below_alloc | apply pw_below_drewN | apply below_drew1 | refine below_set ?_ GE151.out) | exact HB.out)) hb); clear HO_152000; clear BK151; clear HB; have HO_152000 := n0_; have BK151 := n1_; have HB := n2_; clear n0_ n1_ n2_; (try clear hb); (try clear hb2); (try clear hk); (try clear hi))); try go_wp2_with (first | (go_at_call 12; (with_reducible refine (shape_Shape_Items.calls k2 _ _ t147 t153 _ ?side1 ?side2 A36.out).mono ?_); (case side1 => repeat (first | exact (Kd.R_reads' HO_152000.out).2.2 | (with_reducible refine Kd.C_alloc ?_ _) | (with_reducible refine Kd.C_drewN ?_ _) | (with_reducible refine Kd.C_drew ?_))); (case side2 => exact (Kd.R_reads' HO_152000.out).2.1); rintro e w40 ⟨rfl, hb⟩; have n0_ := Aside0.mk (Kd.R_below (by (with_reducible repeat (first | apply Kd.R_alloc | apply Kd.R_drewN | apply Kd.R_drew)); exact HO_152000.out) hb); have n1_ := Aside0.mk (blk_below (g := gb151) (o := .cells #[.slice Ao9 t147.length co9] 26 (0, 0)) (by (with_reducible repeat (first | refine blk_drewN ?_ _ | refine blk_drew ?_ | refine blk_alloc ?_ _)); exact BK151.out) hb); have n2_ := Aside0.mk (below_step (by repeat (first | (with_reducible first | exact HB.out | apply below_alloc | apply pw_below_drewN | apply below_drew1 | refine below_set ?_ GE151.out) | exact HB.out)) hb); clear HO_152000; clear BK151; clear HB; have HO_152000 := n0_; have BK151 := n1_; have HB := n2_; clear n0_ n1_ n2_; (try clear hb); (try clear hb2); (try clear hk); (try clear hi))))
                    go_ret
                    exact ⟨by first | rfl | (simp [errW_none, errW_some] <;> rfl) | (simp [*, errW_none, errW_some] <;> rfl), by repeat (first | (with_reducible first | exact HB.out | apply below_alloc | apply pw_below_drewN | apply below_drew1 | refine below_set ?_ GE151.out) | exact HB.out)⟩
                  · rw [if_neg c38] at H
                    have c38b0 : decide ((wrap64 ((wrap64 (Int.tmod a0 1024)) + 1)) < 4) = false := decide_eq_false c38
                    clear c38
                    obtain rfl := Option.some.inj H
                    have hcz41_0 : wr.cell? ⟨gb151, 0, none⟩ = some (.slice Ao9 t147.length co9) := (blk_cell BK151.out 0).trans rfl
                    have hfz41_0 := blk_frozen BK151.out 0
                    go_wp2_with (first | (go_at_call 12; (with_reducible refine (shape_Shape_Items.calls k2 _ _ t147 t153 _ ?side1 ?side2 A36.out).mono ?_); (case side1 => repeat (first | exact (Kd.R_reads' HO_152000.out).2.2 | (with_reducible refine Kd.C_alloc ?_ _) | (with_reducible refine Kd.C_drewN ?_ _) | (with_reducible refine Kd.C_drew ?_))); (case side2 => exact (Kd.R_reads' HO_152000.out).2.1); rintro e w42 ⟨rfl, hb⟩; have n0_ := Aside0.mk (Kd.R_below (by (with_reducible repeat (first | apply Kd.R_alloc | apply Kd.R_drewN | apply Kd.R_drew)); exact HO_152000.out) hb); have n1_ := Aside0.mk (blk_below (g := gb151) (o := .cells #[.slice Ao9 t147.length co9] 26 (0, 0)) (by (with_reducible repeat (first | refine blk_drewN ?_ _ | refine blk_drew ?_ | refine blk_alloc ?_ _)); exact BK151.out) hb); have n2_ := Aside0.mk (below_step (by repeat (first | (with_reducible first | exact HB.out | apply below_alloc | apply pw_below_drewN | apply below_drew1 | refine below_set ?_ GE151.out) | exact HB.out)) hb); clear HO_152000; clear BK151; clear HB; have HO_152000 := n0_; have BK151 := n1_; have HB := n2_; clear n0_ n1_ n2_; (try clear hb); (try clear hb2); (try clear hk); (try clear hi)))
                    repeat (go_quiet (first | (go_at_call 12; (with_reducible refine (shape_Shape_Items.calls k2 _ _ t147 t153 _ ?side1 ?side2 A36.out).mono ?_); (case side1 => repeat (first | exact (Kd.R_reads' HO_152000.out).2.2 | (with_reducible refine Kd.C_alloc ?_ _) | (with_reducible refine Kd.C_drewN ?_ _) | (with_reducible refine Kd.C_drew ?_))); (case side2 => exact (Kd.R_reads' HO_152000.out).2.1); rintro e w42 ⟨rfl, hb⟩; have n0_ := Aside0.mk (Kd.R_below (by (with_reducible repeat (first | apply Kd.R_alloc | apply Kd.R_drewN | apply Kd.R_drew)); exact HO_152000.out) hb); have n1_ := Aside0.mk (blk_below (g := gb151) (o := .cells #[.slice Ao9 t147.length co9] 26 (0, 0)) (by (with_reducible repeat (first | refine blk_drewN ?_ _ | refine blk_drew ?_ | refine blk_alloc ?_ _)); exact BK151.out) hb); have n2_ := Aside0.mk (below_step (by repeat (first | (with_reducible first | exact HB.out | apply below_alloc | apply pw_below_drewN | apply below_drew1 | refine below_set ?_ GE151.out) | exact HB.out)) hb); clear HO_152000; clear BK151; clear HB; have HO_152000 := n0_; have BK151 := n1_; have HB := n2_; clear n0_ n1_ n2_; (try clear hb); (try clear hb2); (try clear hk); (try clear hi))); try go_wp2_with (first | (go_at_call 12; (with_reducible refine (shape_Shape_Items.calls k2 _ _ t147 t153 _ ?side1 ?side2 A36.out).mono ?_); (case side1 => repeat (first | exact (Kd.R_reads' HO_152000.out).2.2 | (with_reducible refine Kd.C_alloc ?_ _) | (with_reducible refine Kd.C_drewN ?_ _) | (with_reducible refine Kd.C_drew ?_))); (case side2 => exact (Kd.R_reads' HO_152000.out).2.1); rintro e w42 ⟨rfl, hb⟩; have n0_ := Aside0.mk (Kd.R_below (by (with_reducible repeat (first | apply Kd.R_alloc | apply Kd.R_drewN | apply Kd.R_drew)); exact HO_152000.out) hb); have n1_ := Aside0.mk (blk_below (g := gb151) (o := .cells #[.slice Ao9 t147.length co9] 26 (0, 0)) (by (with_reducible repeat (first | refine blk_drewN ?_ _ | refine blk_drew ?_ | refine blk_alloc ?_ _)); exact BK151.out) hb); have n2_ := Aside0.mk (below_step (by repeat (first | (with_reducible first | exact HB.out | apply below_alloc | apply pw_below_drewN | apply below_drew1 | refine below_set ?_ GE151.out) | exact HB.out)) hb); clear HO_152000; clear BK151; clear HB; have HO_152000 := n0_; have BK151 := n1_; have HB := n2_; clear n0_ n1_ n2_; (try clear hb); (try clear hb2); (try clear hk); (try clear hi))))
                    go_ret
                    exact ⟨by first | rfl | (simp [errW_none, errW_some] <;> rfl) | (simp [*, errW_none, errW_some] <;> rfl), by repeat (first | (with_reducible first | exact HB.out | apply below_alloc | apply pw_below_drewN | apply below_drew1 | refine below_set ?_ GE151.out) | exact HB.out)⟩
                · rw [if_neg c37] at H
                  have c37b0 : (x7_2 == t153) = false := beq_eq_false_iff_ne.mpr c37
                  have c37b1 : (x7_2 != t153) = true := bne_iff_ne.mpr c37
                  obtain rfl := Option.some.inj H
                  have hcz43_0 : wr.cell? ⟨gb151, 0, none⟩ = some (.slice Ao9 t147.length co9) := (blk_cell BK151.out 0).trans rfl
                  have hfz43_0 := blk_frozen BK151.out 0
                  go_wp2_with (first | (go_at_call 12; (with_reducible refine (shape_Shape_Items.calls k2 _ _ t147 t153 _ ?side1 ?side2 A36.out).mono ?_); (case side1 => repeat (first | exact (Kd.R_reads' HO_152000.out).2.2 | (with_reducible refine Kd.C_alloc ?_ _) | (with_reducible refine Kd.C_drewN ?_ _) | (with_reducible refine Kd.C_drew ?_))); (case side2 => exact (Kd.R_reads' HO_152000.out).2.1); rintro e w44 ⟨rfl, hb⟩; have n0_ := Aside0.mk (Kd.R_below (by (with_reducible repeat (first | apply Kd.R_alloc | apply Kd.R_drewN | apply Kd.R_drew)); exact HO_152000.out) hb); have n1_ := Aside0.mk (blk_below (g := gb151) (o := .cells #[.slice Ao9 t147.length co9] 26 (0, 0)) (by (with_reducible repeat (first | refine blk_drewN ?_ _ | refine blk_drew ?_ | refine blk_alloc ?_ _)); exact BK151.out) hb); have n2_ := Aside0.mk (below_step (by repeat (first | (with_reducible first | exact HB.out | apply below_alloc | apply pw_below_drewN | apply below_drew1 | refine below_set ?_ GE151.out) | exact HB.out)) hb); clear HO_152000; clear BK151; clear HB; have HO_152000 := n0_; have BK151 := n1_; have HB := n2_; clear n0_ n1_ n2_; (try clear hb); (try clear hb2); (try clear hk); (try clear hi)))
                  repeat (go_quiet (first | (go_at_call 12; (with_reducible refine (shape_Shape_Items.calls k2 _ _ t147 t153 _ ?side1 ?side2 A36.out).mono ?_); (case side1 => repeat (first | exact (Kd.R_reads' HO_152000.out).2.2 | (with_reducible refine Kd.C_alloc ?_ _) | (with_reducible refine Kd.C_drewN ?_ _) | (with_reducible refine Kd.C_drew ?_))); (case side2 => exact (Kd.R_reads' HO_152000.out).2.1); rintro e w44 ⟨rfl, hb⟩; have n0_ := Aside0.mk (Kd.R_below (by (with_reducible repeat (first | apply Kd.R_alloc | apply Kd.R_drewN | apply Kd.R_drew)); exact HO_152000.out) hb); have n1_ := Aside0.mk (blk_below (g := gb151) (o := .cells #[.slice Ao9 t147.length co9] 26 (0, 0)) (by (with_reducible repeat (first | refine blk_drewN ?_ _ | refine blk_drew ?_ | refine blk_alloc ?_ _)); exact BK151.out) hb); have n2_ := Aside0.mk (below_step (by repeat (first | (with_reducible first | exact HB.out | apply below_alloc | apply pw_below_drewN | apply below_drew1 | refine below_set ?_ GE151.out) | exact HB.out)) hb); clear HO_152000; clear BK151; clear HB; have HO_152000 := n0_; have BK151 := n1_; have HB := n2_; clear n0_ n1_ n2_; (try clear hb); (try clear hb2); (try clear hk); (try clear hi))); try go_wp2_with (first | (go_at_call 12; (with_reducible refine (shape_Shape_Items.calls k2 _ _ t147 t153 _ ?side1 ?side2 A36.out).mono ?_); (case side1 => repeat (first | exact (Kd.R_reads' HO_152000.out).2.2 | (with_reducible refine Kd.C_alloc ?_ _) | (with_reducible refine Kd.C_drewN ?_ _) | (with_reducible refine Kd.C_drew ?_))); (case side2 => exact (Kd.R_reads' HO_152000.out).2.1); rintro e w44 ⟨rfl, hb⟩; have n0_ := Aside0.mk (Kd.R_below (by (with_reducible repeat (first | apply Kd.R_alloc | apply Kd.R_drewN | apply Kd.R_drew)); exact HO_152000.out) hb); have n1_ := Aside0.mk (blk_below (g := gb151) (o := .cells #[.slice Ao9 t147.length co9] 26 (0, 0)) (by (with_reducible repeat (first | refine blk_drewN ?_ _ | refine blk_drew ?_ | refine blk_alloc ?_ _)); exact BK151.out) hb); have n2_ := Aside0.mk (below_step (by repeat (first | (with_reducible first | exact HB.out | apply below_alloc | apply pw_below_drewN | apply below_drew1 | refine below_set ?_ GE151.out) | exact HB.out)) hb); clear HO_152000; clear BK151; clear HB; have HO_152000 := n0_; have BK151 := n1_; have HB := n2_; clear n0_ n1_ n2_; (try clear hb); (try clear hb2); (try clear hk); (try clear hi))))
                  go_ret
                  exact ⟨by first | rfl | (simp [errW_none, errW_some] <;> rfl) | (simp [*, errW_none, errW_some] <;> rfl), by repeat (first | (with_reducible first | exact HB.out | apply below_alloc | apply pw_below_drewN | apply below_drew1 | refine below_set ?_ GE151.out) | exact HB.out)⟩
  · replace c3 := Bool.eq_false_iff.mpr c3
    subst c3
    have H1 : (some false) = some r := by rw [if_neg (show ¬ (false = true) by decide)] at H; exact H
    clear H
    have H := H1
    clear H1
    obtain rfl := Option.some.inj H
    go_enter Try.func4, Try.ntmps4
    go_wp2_with (first | (go_at_call 8; (with_reducible refine (reliquarylaw09_awake.calls k  false _ A2.out).mono ?_); rintro e w45 ⟨rfl, hb⟩; have n0_ := Aside0.mk (below_step (by repeat (first | (with_reducible first | exact HB.out | apply below_alloc | apply pw_below_drewN | apply below_drew1) | exact HB.out)) hb); clear HB; have HB := n0_; clear n0_; (try clear hb); (try clear hb2); (try clear hk); (try clear hi)))
    repeat (go_quiet (first | (go_at_call 8; (with_reducible refine (reliquarylaw09_awake.calls k  false _ A2.out).mono ?_); rintro e w45 ⟨rfl, hb⟩; have n0_ := Aside0.mk (below_step (by repeat (first | (with_reducible first | exact HB.out | apply below_alloc | apply pw_below_drewN | apply below_drew1) | exact HB.out)) hb); clear HB; have HB := n0_; clear n0_; (try clear hb); (try clear hb2); (try clear hk); (try clear hi))); try go_wp2_with (first | (go_at_call 8; (with_reducible refine (reliquarylaw09_awake.calls k  false _ A2.out).mono ?_); rintro e w45 ⟨rfl, hb⟩; have n0_ := Aside0.mk (below_step (by repeat (first | (with_reducible first | exact HB.out | apply below_alloc | apply pw_below_drewN | apply below_drew1) | exact HB.out)) hb); clear HB; have HB := n0_; clear n0_; (try clear hb); (try clear hb2); (try clear hk); (try clear hi))))
    go_ret
    exact ⟨by first | rfl | (simp [errW_none, errW_some] <;> rfl) | (simp [*, errW_none, errW_some] <;> rfl), by repeat (first | (with_reducible first | exact HB.out | apply below_alloc | apply pw_below_drewN | apply below_drew1) | exact HB.out)⟩

/-- THE ONE PURE STATEMENT of reliquarylaw09_ShapeAbove: yours. -/
def reliquarylaw09_ShapeAbove.Pure : Prop := ∀ (a0 : Int), (Lit.int .u16 a0).wf = true → ∃ k, reliquarylaw09_ShapeAbove.f k a0 = some true
theorem reliquarylaw09_ShapeAbove.walk (P : reliquarylaw09_ShapeAbove.Pure) (a0 : Int) (w : World) (w0 : (Lit.int .u16 a0).wf = true) :
    Calls Try.prog 4 #[.int .u16 a0] w fun e w' => e = .returned (.bool true) ∧ Below w.heap.size w w' := by
  obtain ⟨k, h⟩ := P a0 w0
  refine (reliquarylaw09_ShapeAbove.calls k a0 true w h).mono ?_
  rintro e w' ⟨rfl, hd⟩
  exact ⟨rfl, hd⟩

end Go.Proofs.Ytnfmdalmpfppoaa.QShapeAbove
