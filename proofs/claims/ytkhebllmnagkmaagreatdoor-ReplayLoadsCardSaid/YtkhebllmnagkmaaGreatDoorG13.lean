/- Contracts and lemmas under the statements of this seat, one behind the other. Conditions: what each names. -/
import Derived.Test.YtkhebllmnagkmaaGreatDoorG12
import Derived.Test.YtkhebllmnagkmaaGreatDoorG9
import Derived.Test.YtkhebllmnagkmaaGreatDoorG11
/- Contracts of the disk's Stop, of its Write when it is to stop, of its Read at no place and of one that is down. Conditions: what each names. -/
namespace Go.Proofs.YtkhebllmnagkmaaGreatDoor
open Go.RowKit
set_option linter.unusedVariables false

/-- A field of the disk is written. -/
theorem DiskAt.setG {F : Nat → Prop} {w : World} {g : Nat} {D : Dk} {vp vu vo : Value} {xp xu xo : List Value} (h : DiskAt w g F D vp vu vo xp xu xo) (k : Nat) (u : Value) (left : Int) (down : Bool) (hb : (#[vp, vu, .int .i64 D.left, .bool D.down, vo] : Array Value).setIfInBounds k u = #[vp, vu, .int .i64 left, .bool down, vo]) :
    DiskAt (w.setCell ⟨g, k, none⟩ u) g F { D with left := left, down := down } vp vu vo xp xu xo := by
  have hgk := h.blk.kind
  have hne : ∀ {b : Nat} {t : TypeId}, Kind w b t → t ≠ 85 → (w.setCell ⟨g, k, none⟩ u).heap[b]? = w.heap[b]? := fun hk ht => Below.heap_setCell _ _ _ _ (by rintro rfl; exact ht (hk.uniq hgk))
  have hsz : w.heap.size ≤ (w.setCell ⟨g, k, none⟩ u).heap.size := by simp [World.setCell]
  refine ⟨?_, h.fg, own_keep h.op fun k e => hne (own_kind h.op e) (by decide), h.fp, h.rp.keep hsz fun k hk => hne hk (by decide), own_keep h.ou fun k e => hne (own_kind h.ou e) (by decide), h.fu, h.ru.keep hsz fun k hk => hne hk (by decide), own_keep h.oo fun k e => hne (own_kind h.oo e) (by decide), h.fo⟩
  have h5 := h.blk.set_ k u
  rw [hb] at h5
  exact h5
theorem dstop_any (g : Nat) (F : Nat → Prop) (D : Dk) (w : World) (hD : Disk w g F D) :
    Calls Tryz.prog 26 #[.pointer (some ⟨g, 0, none⟩), .int .i64 0] w fun e w' => e = .returned (.tuple #[]) ∧ Disk w' g F { D with left := 0 } ∧ Only F w w' := by
  obtain ⟨vp, vu, vo, xp, xu, xo, h⟩ := hD
  have c2 : w.cell? ⟨g, 2, none⟩ = some (.int .i64 D.left) := h.blk.cell 2
  have f2 := h.blk.frozen 2
  have H := Lib.hid h
  clear h
  go_enter Tryz.func26, Tryz.ntmps26
  go_wp2
  go_end0
  have h := H.out.setG 2 (.int .i64 0) 0 D.down rfl
  exact ⟨rfl, ⟨_, _, _, _, _, _, h⟩, (Only.refl F w).setCell (p := ⟨g, 2, none⟩) (.inl H.out.fg) H.out.blk.kind (by decide) _⟩
set_option maxRecDepth 100000 in
set_option maxHeartbeats 4000000 in
theorem dwrite_stop (g i : Nat) (F : Nat → Prop) (D : Dk) (A : Option Addr) (c : Nat) (w : World) (hD : Disk w g F D) (hdn : D.down = false) (hlf : D.left = 0) (hi : i < D.places.length) :
    Calls Tryz.prog 27 #[.pointer (some ⟨g, 0, none⟩), .int .i64 (i : Int), .slice A 192 c] w fun e w' => e = .returned (.int .i64 13) ∧ Disk w' g F { D with down := true } ∧ Only F w w' := by
  have hfit := dfits_any g i F D A c w hD hi
  obtain ⟨vp, vu, vo, xp, xu, xo, h⟩ := hD
  have c2 : w.cell? ⟨g, 2, none⟩ = some (.int .i64 0) := by rw [← hlf]; exact h.blk.cell 2
  have c3 : w.cell? ⟨g, 3, none⟩ = some (.bool false) := by rw [← hdn]; exact h.blk.cell 3
  have f3 := h.blk.frozen 3
  have H := Lib.hid h
  have HL := Lib.hid hlf
  clear h hlf hdn
  go_enter Tryz.func27, Tryz.ntmps27
  go_wp2_with (go_at_call 54; refine hfit.mono ?_; rintro e w1 ⟨rfl, rfl⟩)
  go_ret
  have h := H.out.setG 3 (.bool true) D.left true rfl
  exact ⟨rfl, ⟨_, _, _, _, _, _, h⟩, (Only.refl F w).setCell (p := ⟨g, 3, none⟩) (.inl H.out.fg) H.out.blk.kind (by decide) _⟩
set_option maxRecDepth 100000 in
set_option maxHeartbeats 4000000 in
theorem dread_down (g : Nat) (i : Int) (F : Nat → Prop) (D : Dk) (w : World) (hD : Disk w g F D) (hdn : D.down = true) :
    Calls Tryz.prog 15 #[.pointer (some ⟨g, 0, none⟩), .int .i64 i] w fun e w' => e = .returned (.tuple #[.slice none 0 0, .int .i64 13]) ∧ Below w.heap.size w w' := by
  obtain ⟨vp, vu, vo, xp, xu, xo, h⟩ := hD
  obtain ⟨W0, hW0⟩ : ∃ W0 : World, W0 = (((w.alloc (.cells #[.int .i64 i] 3)).alloc (.cells #[.slice none 0 0] 55)).alloc (.cells #[.int .i64 0] 27)) := ⟨_, rfl⟩
  have b0 : Below w.heap.size w W0 := by rw [hW0]; exact (((Below.refl _ _).alloc (Nat.le_refl _) _).alloc (by simp) _).alloc (by simp; omega) _
  have h3 := h.under b0
  have k4 : Blk W0 (w.heap.size + 1) 55 #[.slice none 0 0] := by rw [hW0]; exact (Blk.new_of (by simp) rfl).alloc _
  have k5 : Blk W0 (w.heap.size + 2) 27 #[.int .i64 0] := by rw [hW0]; exact Blk.new_of (by simp) rfl
  have c3 : W0.cell? ⟨g, 3, none⟩ = some (.bool true) := by rw [← hdn]; exact h3.blk.cell 3
  have m4 : W0.cell? ⟨w.heap.size + 1, 0, none⟩ = some (.slice none 0 0) := k4.cell 0
  have m5 : W0.cell? ⟨w.heap.size + 1 + 1, 0, none⟩ = some (.int .i64 0) := k5.cell 0
  have z4 := k4.frozen 0
  have z5 : W0.frozen? ⟨w.heap.size + 1 + 1, 0, none⟩ = false := k5.frozen 0
  rw [hW0] at c3 m4 m5 z4 z5
  have HW0 := Lib.hid hW0
  clear hW0
  go_enter Tryz.func15, Tryz.ntmps15
  go_wp2
  obtain ⟨WF, hWF⟩ : ∃ WF : World, WF = (((w.alloc (.cells #[.int .i64 i] 3)).alloc (.cells #[.slice none 0 0] 55)).alloc (.cells #[.int .i64 13] 27)) := ⟨_, rfl⟩
  have kF4 : Blk WF (w.heap.size + 1) 55 #[.slice none 0 0] := by rw [hWF]; exact (Blk.new_of (by simp) rfl).alloc _
  have kF5 : Blk WF (w.heap.size + 2) 27 #[.int .i64 13] := by rw [hWF]; exact Blk.new_of (by simp) rfl
  have bF : Below w.heap.size w WF := by rw [hWF]; exact (((Below.refl _ _).alloc (Nat.le_refl _) _).alloc (by simp) _).alloc (by simp; omega) _
  rw [← hWF]
  refine bodyPost_ret (results_cells2 rfl _ _ _ _ (.slice none 0 0) (.int .i64 13) rfl rfl (load34 kF4) (load41 kF5)) rfl ?_
  exact ⟨rfl, bF⟩
set_option maxRecDepth 100000 in
set_option maxHeartbeats 4000000 in
theorem dread_range (g : Nat) (i : Int) (F : Nat → Prop) (D : Dk) (w : World) (hD : Disk w g F D) (hdn : D.down = false) (hi : i < 0 ∨ (D.places.length : Int) ≤ i) :
    Calls Tryz.prog 15 #[.pointer (some ⟨g, 0, none⟩), .int .i64 i] w fun e w' => e = .returned (.tuple #[.slice none 0 0, .int .i64 12]) ∧ Below w.heap.size w w' := by
  obtain ⟨vp, vu, vo, xp, xu, xo, h⟩ := hD
  obtain ⟨Ap, cp, hvp⟩ := own_shape h.op
  subst hvp
  obtain ⟨W0, hW0⟩ : ∃ W0 : World, W0 = (((w.alloc (.cells #[.int .i64 i] 3)).alloc (.cells #[.slice none 0 0] 55)).alloc (.cells #[.int .i64 0] 27)) := ⟨_, rfl⟩
  have b0 : Below w.heap.size w W0 := by rw [hW0]; exact (((Below.refl _ _).alloc (Nat.le_refl _) _).alloc (by simp) _).alloc (by simp; omega) _
  have h3 := h.under b0
  have kb : Blk W0 w.heap.size 3 #[.int .i64 i] := by rw [hW0]; exact ((Blk.new_of rfl rfl).alloc _).alloc _
  have k4 : Blk W0 (w.heap.size + 1) 55 #[.slice none 0 0] := by rw [hW0]; exact (Blk.new_of (by simp) rfl).alloc _
  have k5 : Blk W0 (w.heap.size + 2) 27 #[.int .i64 0] := by rw [hW0]; exact Blk.new_of (by simp) rfl
  have c3 : W0.cell? ⟨g, 3, none⟩ = some (.bool false) := by rw [← hdn]; exact h3.blk.cell 3
  have m4 : W0.cell? ⟨w.heap.size + 1, 0, none⟩ = some (.slice none 0 0) := k4.cell 0
  have m5 : W0.cell? ⟨w.heap.size + 1 + 1, 0, none⟩ = some (.int .i64 0) := k5.cell 0
  have z4 := k4.frozen 0
  have z5 : W0.frozen? ⟨w.heap.size + 1 + 1, 0, none⟩ = false := k5.frozen 0
  have s0 : W0.drew.cell? ⟨g, 0, none⟩ = some (.slice Ap D.places.length cp) := h3.blk.cell 0
  have s1 : W0.drew.cell? ⟨w.heap.size, 0, none⟩ = some (.int .i64 i) := kb.cell 0
  rw [hW0] at c3
  have HW0 := Lib.hid hW0
  have HI := Lib.hid hi
  clear hW0 hi
  have kF4 : Blk ((W0.setCell ⟨w.heap.size + 1, 0, none⟩ (.slice none 0 0)).setCell ⟨w.heap.size + 1 + 1, 0, none⟩ (.int .i64 12)).drew (w.heap.size + 1) 55 #[.slice none 0 0] := (k4.set_ 0 _).far (p := ⟨w.heap.size + 1 + 1, 0, none⟩) (by show w.heap.size + 1 ≠ w.heap.size + 1 + 1; omega) _
  have kF5 : Blk ((W0.setCell ⟨w.heap.size + 1, 0, none⟩ (.slice none 0 0)).setCell ⟨w.heap.size + 1 + 1, 0, none⟩ (.int .i64 12)).drew (w.heap.size + 2) 27 #[.int .i64 12] := (k5.far (p := ⟨w.heap.size + 1, 0, none⟩) (by show w.heap.size + 2 ≠ w.heap.size + 1; omega) _).set_ 0 _
  have yF : Below w.heap.size w ((W0.setCell ⟨w.heap.size + 1, 0, none⟩ (.slice none 0 0)).setCell ⟨w.heap.size + 1 + 1, 0, none⟩ (.int .i64 12)).drew := ((b0.setCell (p := ⟨w.heap.size + 1, 0, none⟩) (Nat.le_succ _) _).setCell (p := ⟨w.heap.size + 1 + 1, 0, none⟩) (by show w.heap.size ≤ w.heap.size + 1 + 1; omega) _).drew
  by_cases n0 : i < 0
  · have d0 : decide (i < 0) = true := decide_eq_true n0
    go_enter Tryz.func15, Tryz.ntmps15
    go_wp2
    rw [← HW0.out]
    have hS0 : W0.drew.cell? ⟨g, 0, none⟩ = some (.slice Ap D.places.length cp) ∧ W0.drew.cell? ⟨w.heap.size, 0, none⟩ = some (.int .i64 i) := ⟨s0, s1⟩
    refine wp_region_held_drew (S := fun w' => w'.cell? ⟨g, 0, none⟩ = some (.slice Ap D.places.length cp) ∧ w'.cell? ⟨w.heap.size, 0, none⟩ = some (.int .i64 i)) (by kernel_rfl) hS0 (fun _ => ?_)
    refine wpAnyH_take (i := 0) (oi := ⟨some 17, _, _, _, _, _⟩) (v := .int .i64 i) rfl (by kernel_rfl) (by kernel_rfl) (by kernel_rfl) (fun _ _ _ h => h) (Or.inl ⟨by rfl, by intro W hS; obtain ⟨s1, s2⟩ := hS; first | (go_simp; done) | (go_simp; simp [n0]; done)⟩) hS0 ?_
    simp only [Act.put, List.setIfInBounds_toArray, List.set_cons_zero, List.set_cons_succ]
    refine wpAnyH_take (i := 1) (oi := ⟨some 18, _, _, _, _, _⟩) (v := .bool true) rfl (by kernel_rfl) (by kernel_rfl) (by kernel_rfl) (fun _ _ _ h => h) (Or.inl ⟨by rfl, by intro W hS; obtain ⟨s1, s2⟩ := hS; first | (go_simp; done) | (go_simp; simp [n0]; done)⟩) hS0 ?_
    simp only [Act.put, List.setIfInBounds_toArray, List.set_cons_zero, List.set_cons_succ]
    refine wpAnyH_take (i := 2) (oi := ⟨some 19, _, _, _, _, _⟩) (v := .bool true) rfl (by kernel_rfl) (by kernel_rfl) (by kernel_rfl) (fun _ _ _ h => h) (Or.inl ⟨by rfl, by intro W hS; obtain ⟨s1, s2⟩ := hS; first | (go_simp; done) | (go_simp; simp [n0]; done)⟩) hS0 ?_
    simp only [Act.put, List.setIfInBounds_toArray, List.set_cons_zero, List.set_cons_succ]
    refine wpAnyH_take (i := 3) (oi := ⟨some 20, _, _, _, _, _⟩) (v := undef) rfl (by kernel_rfl) (by kernel_rfl) (by kernel_rfl) (fun _ _ _ h => h) (Or.inr ⟨by rfl, rfl⟩) hS0 ?_
    simp only [Act.put, List.setIfInBounds_toArray, List.set_cons_zero, List.set_cons_succ]
    refine wpAnyH_take (i := 4) (oi := ⟨some 21, _, _, _, _, _⟩) (v := undef) rfl (by kernel_rfl) (by kernel_rfl) (by kernel_rfl) (fun _ _ _ h => h) (Or.inr ⟨by rfl, rfl⟩) hS0 ?_
    simp only [Act.put, List.setIfInBounds_toArray, List.set_cons_zero, List.set_cons_succ]
    refine wpAnyH_take (i := 5) (oi := ⟨some 22, _, _, _, _, _⟩) (v := undef) rfl (by kernel_rfl) (by kernel_rfl) (by kernel_rfl) (fun _ _ _ h => h) (Or.inr ⟨by rfl, rfl⟩) hS0 ?_
    simp only [Act.put, List.setIfInBounds_toArray, List.set_cons_zero, List.set_cons_succ]
    refine wpAnyH_take (i := 6) (oi := ⟨some 23, _, _, _, _, _⟩) (v := undef) rfl (by kernel_rfl) (by kernel_rfl) (by kernel_rfl) (fun _ _ _ h => h) (Or.inr ⟨by rfl, rfl⟩) hS0 ?_
    simp only [Act.put, List.setIfInBounds_toArray, List.set_cons_zero, List.set_cons_succ]
    refine wpAnyH_take (i := 7) (oi := ⟨some 24, _, _, _, _, _⟩) (v := undef) rfl (by kernel_rfl) (by kernel_rfl) (by kernel_rfl) (fun _ _ _ h => h) (Or.inr ⟨by rfl, rfl⟩) hS0 ?_
    simp only [Act.put, List.setIfInBounds_toArray, List.set_cons_zero, List.set_cons_succ]
    refine wpAnyH_take (i := 8) (oi := ⟨some 25, _, _, _, _, _⟩) (v := undef) rfl (by kernel_rfl) (by kernel_rfl) (by kernel_rfl) (fun _ _ _ h => h) (Or.inr ⟨by rfl, rfl⟩) hS0 ?_
    simp only [Act.put, List.setIfInBounds_toArray, List.set_cons_zero, List.set_cons_succ]
    refine wpAnyH_take (i := 9) (oi := ⟨some 26, _, _, _, _, _⟩) (v := undef) rfl (by kernel_rfl) (by kernel_rfl) (by kernel_rfl) (fun _ _ _ h => h) (Or.inr ⟨by rfl, rfl⟩) hS0 ?_
    simp only [Act.put, List.setIfInBounds_toArray, List.set_cons_zero, List.set_cons_succ]
    refine wpAnyH_take (i := 10) (oi := ⟨some 27, _, _, _, _, _⟩) (v := .bool true) rfl (by kernel_rfl) (by kernel_rfl) (by kernel_rfl) (fun _ _ _ h => h) (Or.inl ⟨by rfl, by intro W hS; obtain ⟨s1, s2⟩ := hS; first | (go_simp; done) | (go_simp; simp [n0]; done)⟩) hS0 ?_
    simp only [Act.put, List.setIfInBounds_toArray, List.set_cons_zero, List.set_cons_succ]
    refine wpAnyH_take (i := 11) (oi := ⟨some 16, _, _, _, _, _⟩) (v := .bool true) rfl (by kernel_rfl) (by kernel_rfl) (by kernel_rfl) (fun _ _ _ h => h) (Or.inl ⟨by rfl, by intro W hS; obtain ⟨s1, s2⟩ := hS; first | (go_simp; done) | (go_simp; simp [n0]; done)⟩) hS0 ?_
    simp only [Act.put, List.setIfInBounds_toArray, List.set_cons_zero, List.set_cons_succ]
    refine wpAnyH_done (by kernel_rfl) ?_ _
    clear hS0
    clear s0 s1 c3
    go_wp2
    refine bodyPost_ret (results_cells2 rfl _ _ _ _ (.slice none 0 0) (.int .i64 12) rfl rfl (load34 kF4) (load41 kF5)) rfl ?_
    exact ⟨rfl, yF⟩
  · have n1 : (D.places.length : Int) ≤ i := HI.out.resolve_left n0
    have d0 : decide (i < 0) = false := decide_eq_false n0
    have d1 : decide ((D.places.length : Int) ≤ i) = true := decide_eq_true n1
    go_enter Tryz.func15, Tryz.ntmps15
    go_wp2
    rw [← HW0.out]
    go_region_held3 (fun w' => w'.cell? ⟨g, 0, none⟩ = some (.slice Ap D.places.length cp) ∧ w'.cell? ⟨w.heap.size, 0, none⟩ = some (.int .i64 i)) (first | (exact ⟨s0, s1⟩)) (fail)
    clear s0 s1 c3
    go_wp2
    refine bodyPost_ret (results_cells2 rfl _ _ _ _ (.slice none 0 0) (.int .i64 12) rfl rfl (load34 kF4) (load41 kF5)) rfl ?_
    exact ⟨rfl, yF⟩
end Go.Proofs.YtkhebllmnagkmaaGreatDoor
/- append, with the old row as it lay; rows of images, rows of changes, in memory. Plain lemmas: no function of the program is walked here. -/
namespace Go.Proofs.YtkhebllmnagkmaaGreatDoor
open Go.RowKit
set_option linter.unusedVariables false

section
variable {P : Program} (w : World)
theorem run_append_old (base : Nat) (t ty e : TypeId) (i : TypeInfo) (z : Value) (size bytes : Nat) (ht : P.underlying t = some (.slice e)) (hi : P.info? e = some i) (hz : i.zero = some z)
    (hsize : i.size = size) (hby : i.bytes = bytes) (hzs : z.cells.size = size) (hsz : 0 < size)
    (v : Value) (n : Nat) (xs : List Value) (hown : w.ownsRow base e size v n xs)
    (a : Addr) (m c : Nat) (news : List Value) (hl : news.length = m * size) (hnews : ∀ j u, news[j]? = some u → w.cell? (a.add j) = some u) (h1 : ∀ u ∈ news, u.oneCell' = true)
    (h63 : n + m ≤ maxLen) (hbytes : (n + m) * bytes ≤ 140737488355328) (hbase : base ≤ w.heap.size) :
    ∃ v' w', (Builtin.append_ #[t, t] ty #[v, .slice (some a) m c]).run P w = .ok v' w' ∧ w'.ownsRow base e size v' (n + m) (xs ++ news) ∧ w.grownBy w' v.ownBlock ∧
      (v'.ownBlock = v.ownBlock ∨ v'.ownBlock = some w.heap.size) ∧ (∀ g, v.ownBlock = some g → Kind w' g e ∧ ∀ j u, xs[j]? = some u → w'.cell? ⟨g, j, none⟩ = some u) := by
  obtain ⟨v', w', hrun, h2, h3, _, h5⟩ := run_append_own_at (P := P) w base t ty e i z size bytes ht hi hz hsize hby hzs hsz v n xs hown a m c news hl hnews h1 h63 hbytes hbase
  refine ⟨v', w', hrun, h2, h3, h5, fun g hg => ?_⟩
  subst hsize
  subst hby
  have hsmall : n + m ≤ 9223372036854775807 := by simp only [maxLen] at h63; omega
  rcases hown.2 with ⟨rfl, rfl⟩ | ⟨g', cap, cur, rfl, hbg, hg', hnc, hcm, hcs, htake⟩
  · cases hg
  · injection hg with hg
    subst hg
    have holds := hown.cells (g := g') rfl
    by_cases hroom : n + m ≤ cap
    · have hfit : n * i.size + news.length ≤ cur.size := by rw [hl, hcs, ← Nat.add_mul]; exact Nat.mul_le_mul_right _ hroom
      have hr := run_append_room (P := P) w t ty e i ht hi g' n cap cur hg' a m c news hl hnews h1 hroom hfit
      rw [hr] at hrun
      injection hrun with e1 e2
      subst e1 e2
      refine ⟨own_kind h2 rfl, fun j u hu => ?_⟩
      have h := h2.cells (g := g') rfl j u (by rw [List.getElem?_append_left (List.getElem?_eq_some_iff.1 hu).1]; exact hu)
      rwa [add_head] at h
    · have hr := run_append_grow (P := P) w t ty e i z ht hi hz ⟨g', 0, none⟩ n cap xs hown.1 holds a m c news hl hnews (by omega) (by omega) (growslice_fits (by omega) hbytes)
      rw [hr] at hrun
      injection hrun with e1 e2
      subst e1 e2
      refine ⟨⟨cur, (0, 0), (Below.heap_alloc w.drew _ g' (Array.getElem?_eq_some_iff.1 hg').1).trans hg'⟩, fun j u hu => ?_⟩
      have hc := holds j u hu
      rw [add_head] at hc
      exact (World.cell?_of_block (a := ⟨g', j, none⟩) (Below.heap_alloc w.drew _ g' (Array.getElem?_eq_some_iff.1 hg').1)).trans hc
theorem wpList_append_old {ops : Array Oper} {rest : List Oper} {o : Oper} {a : Act} {Q : Exit → Act → World → Prop} (hgd : o.guard = none) (s x : Operand) (t : TypeId)
    (ho : o.op = .call { callee := .builtin .append, args := #[s, x], argTypes := #[t, t] })
    (base : Nat) (e : TypeId) (i : TypeInfo) (z : Value) (size bytes : Nat) (ht : P.underlying t = some (.slice e)) (hi : P.info? e = some i) (hz : i.zero = some z)
    (hsize : i.size = size) (hby : i.bytes = bytes) (hzs : z.cells.size = size) (hsz : 0 < size)
    (v : Value) (n : Nat) (xs : List Value) (hs : a.eval s = v) (hown : w.ownsRow base e size v n xs)
    (ad : Addr) (m c : Nat) (news : List Value) (hx : a.eval x = .slice (some ad) m c) (hl : news.length = m * size) (hnews : ∀ j u, news[j]? = some u → w.cell? (ad.add j) = some u) (h1 : ∀ u ∈ news, u.oneCell' = true)
    (h63 : n + m ≤ maxLen) (hbytes : (n + m) * bytes ≤ 140737488355328) (hbase : base ≤ w.heap.size)
    (h : ∀ v' w', w'.ownsRow base e size v' (n + m) (xs ++ news) → w.grownBy w' v.ownBlock → (v'.ownBlock = v.ownBlock ∨ v'.ownBlock = some w.heap.size) → (∀ g, v.ownBlock = some g → Kind w' g e ∧ ∀ j u, xs[j]? = some u → w'.cell? ⟨g, j, none⟩ = some u) → wpList P ops Q rest (a.put o.dst v') w') : wpList P ops Q (o :: rest) a w := by
  refine wpList_plain hgd fun K hK => ?_
  obtain ⟨v', w', hrun, h2, h3, h4, h5⟩ := run_append_old (P := P) w base t o.type e i z size bytes ht hi hz hsize hby hzs hsz v n xs hown ad m c news hl hnews h1 h63 hbytes hbase
  unfold Oper.wp execOp
  simp only [ho, resolve, invoke, builtin, Sem.run_bind, Sem.run_pure, Result.andThen_ok, List.map_toArray, List.map_cons, List.map_nil, hs, hx, hrun]
  exact hK _ _ (h v' w' h2 h3 h4 h5)
end

/-! ### Slices of images, rows of changes -/
abbrev Img := Nat × List UInt8
def IsIm (w : World) (v : Value) (l : List Img) : Prop := ∃ A c xs, v = .slice A l.length c ∧ l.length ≤ c ∧ Reads w w.heap.size 2 A l.length xs ∧ RowI w xs l ∧ ∀ ad, A = some ad → Kind w ad.block 79 ∧ ad.spot = none
def RowC (w : World) (xs : List Value) (ll : List (List Img)) : Prop := ∀ (i : Nat) (l : List Img), ll[i]? = some l → ∃ v, xs[i]? = some v ∧ IsIm w v l
/-- A slice of images within a block, of which the first N cells stay, if it is the one that grows. -/
def ImAt (w : World) (v : Value) (l : List Img) (row : Option Nat) (N : Nat) : Prop := ∃ ga off c xs, v = .slice (some ⟨ga, off, none⟩) l.length c ∧ l.length ≤ c ∧ Kind w ga 79 ∧ xs.length = l.length * 2 ∧ (∀ j u, xs[j]? = some u → w.cell? ⟨ga, off + j, none⟩ = some u) ∧ RowI w xs l ∧ (row = some ga → off + l.length * 2 ≤ N)
def RowCA (w : World) (xs : List Value) (ll : List (List Img)) (row : Option Nat) (N : Nat) : Prop := ∀ (i : Nat) (l : List Img), ll[i]? = some l → ∃ v, xs[i]? = some v ∧ ImAt w v l row N
section
variable {w w' : World} {v : Value} {l : List Img} {ll : List (List Img)} {xs : List Value} {row row' : Option Nat} {N N' : Nat}
theorem ImAt.isIm (h : ImAt w v l row N) : IsIm w v l := by
  obtain ⟨ga, off, c, xs, h1, h2, h3, h4, h5, h6, _⟩ := h
  exact ⟨_, c, xs, h1, h2, ⟨h4, fun _ => ⟨_, rfl, h3.lt, fun j u hu => by rw [Addr.add_mid]; exact h5 j u hu⟩⟩, h6, fun ad e => by injection e with e; subst e; exact ⟨h3, rfl⟩⟩
theorem RowCA.rowC (h : RowCA w xs ll row N) : RowC w xs ll := fun i l hl => by
  obtain ⟨v, h1, h2⟩ := h i l hl
  exact ⟨v, h1, h2.isIm⟩
/-- The row of all images grows: what lay in it lies there. -/
theorem ImAt.step (h : ImAt w v l row N) (hs : w.heap.size ≤ w'.heap.size) (h8 : ∀ k, Kind w k 5 → w'.heap[k]? = w.heap[k]?) (hk : ∀ k, Kind w k 79 → some k ≠ row → w'.heap[k]? = w.heap[k]?)
    (hK : ∀ k, row = some k → Kind w' k 79) (hrow : ∀ k j u, row = some k → j < N → w.cell? ⟨k, j, none⟩ = some u → w'.cell? ⟨k, j, none⟩ = some u)
    (hN : ∀ k, row' = some k → (row = some k ∧ N ≤ N') ∨ w.heap.size ≤ k) : ImAt w' v l row' N' := by
  obtain ⟨ga, off, c, xs, h1, h2, h3, h4, h5, h6, h7⟩ := h
  refine ⟨ga, off, c, xs, h1, h2, ?_, h4, ?_, h6.keep hs h8, ?_⟩
  · by_cases hr : some ga = row
    · exact hK ga hr.symm
    · exact h3.same (hk ga h3 hr)
  · intro j u hu
    have hjl := (List.getElem?_eq_some_iff.1 hu).1
    by_cases hr : some ga = row
    · have := h7 hr.symm
      exact hrow ga _ u hr.symm (by omega) (h5 j u hu)
    · exact (World.cell?_of_block (a := ⟨ga, off + j, none⟩) (hk ga h3 hr)).trans (h5 j u hu)
  · intro e
    rcases hN ga e with ⟨h8, h9⟩ | h8
    · exact Nat.le_trans (h7 h8) h9
    · have := h3.lt; omega
theorem RowCA.step (h : RowCA w xs ll row N) (hs : w.heap.size ≤ w'.heap.size) (h8 : ∀ k, Kind w k 5 → w'.heap[k]? = w.heap[k]?) (hk : ∀ k, Kind w k 79 → some k ≠ row → w'.heap[k]? = w.heap[k]?)
    (hK : ∀ k, row = some k → Kind w' k 79) (hrow : ∀ k j u, row = some k → j < N → w.cell? ⟨k, j, none⟩ = some u → w'.cell? ⟨k, j, none⟩ = some u)
    (hN : ∀ k, row' = some k → (row = some k ∧ N ≤ N') ∨ w.heap.size ≤ k) : RowCA w' xs ll row' N' := fun i l hl => by
  obtain ⟨v, h1, h2⟩ := h i l hl
  exact ⟨v, h1, h2.step hs h8 hk hK hrow hN⟩
theorem RowCA.snoc (h : RowCA w xs ll row N) (hl : xs.length = ll.length) (hv : ImAt w v l row N) : RowCA w (xs ++ [v]) (ll ++ [l]) row N := by
  intro j p hp
  rw [List.getElem?_append] at hp
  split at hp
  · obtain ⟨u, h1, h2⟩ := h j p hp
    exact ⟨u, by rw [List.getElem?_append_left (by omega)]; exact h1, h2⟩
  · have hi : j = ll.length := by
      rcases Nat.lt_or_ge (j - ll.length) 1 with h1 | h1
      · omega
      · rw [List.getElem?_eq_none (by simp; omega)] at hp; cases hp
    subst hi
    rw [Nat.sub_self] at hp
    cases hp
    exact ⟨v, by rw [← hl, List.getElem?_append_right (Nat.le_refl _), Nat.sub_self]; rfl, hv⟩
theorem IsIm.keep (h : IsIm w v l) (hs : w.heap.size ≤ w'.heap.size) (h8 : ∀ k, Kind w k 5 → w'.heap[k]? = w.heap[k]?) (hk : ∀ k, Kind w k 79 → w'.heap[k]? = w.heap[k]?) : IsIm w' v l := by
  obtain ⟨A, c, xs, h1, h2, h3, h4, h5⟩ := h
  refine ⟨A, c, xs, h1, h2, ⟨h3.1, fun hn => ?_⟩, h4.keep hs h8, fun ad e => ⟨(h5 ad e).1.same (hk _ (h5 ad e).1), (h5 ad e).2⟩⟩
  obtain ⟨ad, e, hb, hc⟩ := h3.2 hn
  exact ⟨ad, e, Nat.lt_of_lt_of_le hb hs, fun j u hu => (World.cell?_of_block (by rw [block_of_add]; exact hk _ (h5 ad e).1)).trans (hc j u hu)⟩
theorem IsIm.under (h : IsIm w v l) (hb : Below w.heap.size w w') : IsIm w' v l := h.keep hb.size (fun k hk => hb.block k hk.lt) (fun k hk => hb.block k hk.lt)
theorem RowC.keep (h : RowC w xs ll) (hs : w.heap.size ≤ w'.heap.size) (h8 : ∀ k, Kind w k 5 → w'.heap[k]? = w.heap[k]?) (hk : ∀ k, Kind w k 79 → w'.heap[k]? = w.heap[k]?) : RowC w' xs ll := fun i l hl => by
  obtain ⟨v, h1, h2⟩ := h i l hl
  exact ⟨v, h1, h2.keep hs h8 hk⟩
theorem RowC.under (h : RowC w xs ll) (hb : Below w.heap.size w w') : RowC w' xs ll := h.keep hb.size (fun k hk => hb.block k hk.lt) (fun k hk => hb.block k hk.lt)
theorem RowI.snoc {l : List Img} {x : Nat} {b : List UInt8} (h : RowI w xs l) (hl : xs.length = 2 * l.length) (hv : IsSl w v b) : RowI w (xs ++ [.int .u64 (x : Int), v]) (l ++ [(x, b)]) := by
  intro j p hp
  rw [List.getElem?_append] at hp
  split at hp
  · obtain ⟨h0, u, h1, h2⟩ := h j p hp
    exact ⟨by rw [List.getElem?_append_left (by omega)]; exact h0, u, by rw [List.getElem?_append_left (by omega)]; exact h1, h2⟩
  · have hi : j = l.length := by
      rcases Nat.lt_or_ge (j - l.length) 1 with h1 | h1
      · omega
      · rw [List.getElem?_eq_none (by simp; omega)] at hp; cases hp
    subst hi
    rw [Nat.sub_self] at hp
    cases hp
    refine ⟨by rw [← hl, List.getElem?_append_right (Nat.le_refl _), Nat.sub_self]; rfl, v, ?_, hv⟩
    rw [List.getElem?_append_right (by omega), show 2 * l.length + 1 - xs.length = 1 by omega]
    rfl
theorem RowI.drop {l : List Img} (h : RowI w xs l) (f : Nat) : RowI w (xs.drop (2 * f)) (l.drop f) := fun i p hp => by
  rw [List.getElem?_drop] at hp
  obtain ⟨h0, u, h1, h2⟩ := h _ p hp
  exact ⟨by rw [List.getElem?_drop, ← Nat.mul_add]; exact h0, u, by rw [List.getElem?_drop, ← Nat.add_assoc, ← Nat.mul_add]; exact h1, h2⟩
end

/-! ### What Changes makes of records -/
abbrev Rec := Img × Bool
structure Chg where
  out : List (List Img)
  from' : Nat
  all : List Img
def chgStep (s : Chg) (r : Rec) : Chg := if r.2 then ⟨s.out ++ [(s.all ++ [r.1]).drop s.from'], (s.all ++ [r.1]).length, s.all ++ [r.1]⟩ else ⟨s.out, s.from', s.all ++ [r.1]⟩
def chg (l : List Rec) : Chg := l.foldl chgStep ⟨[], 0, []⟩
theorem chg_snoc (l : List Rec) (k : Nat) (r : Rec) (h : l[k]? = some r) : chg (l.take (k + 1)) = chgStep (chg (l.take k)) r := by
  unfold chg
  rw [List.take_add_one, h, Option.toList_some, List.foldl_append]
  rfl
theorem chg_fold (l : List Rec) (s : Chg) (h : s.from' ≤ s.all.length) : (l.foldl chgStep s).all = s.all ++ l.map (·.1) ∧ (l.foldl chgStep s).from' ≤ (l.foldl chgStep s).all.length := by
  induction l generalizing s with
  | nil => exact ⟨by simp, h⟩
  | cons r l ih =>
    have hs : (chgStep s r).all = s.all ++ [r.1] ∧ (chgStep s r).from' ≤ (chgStep s r).all.length := by
      unfold chgStep
      split
      · exact ⟨rfl, Nat.le_refl _⟩
      · exact ⟨rfl, by simp; omega⟩
    obtain ⟨h1, h2⟩ := ih _ hs.2
    refine ⟨?_, h2⟩
    rw [List.foldl_cons, h1, hs.1, List.map_cons, List.append_assoc]
    rfl
theorem chg_all (l : List Rec) : (chg l).all = l.map (·.1) := by have h := (chg_fold l ⟨[], 0, []⟩ (Nat.le_refl _)).1; simpa [chg] using h
theorem chg_from (l : List Rec) : (chg l).from' ≤ l.length := by have h := (chg_fold l ⟨[], 0, []⟩ (Nat.le_refl _)).2; rw [show (l.foldl chgStep ⟨[], 0, []⟩).all = l.map (·.1) from chg_all l, List.length_map] at h; exact h
/-- A row of records, in memory. -/
def RowG (w : World) (xs : List Value) (l : List Rec) : Prop := ∀ (i : Nat) (r : Rec), l[i]? = some r → xs[3 * i]? = some (.int .u64 (r.1.1 : Int)) ∧ (∃ v, xs[3 * i + 1]? = some v ∧ IsSl w v r.1.2) ∧ xs[3 * i + 2]? = some (.bool r.2)
theorem RowG.keep {w w' : World} {xs : List Value} {l : List Rec} (h : RowG w xs l) (hs : w.heap.size ≤ w'.heap.size) (hk : ∀ k, Kind w k 5 → w'.heap[k]? = w.heap[k]?) : RowG w' xs l := fun i b hb => by
  obtain ⟨h0, ⟨v, h1, h2⟩, h3⟩ := h i b hb
  exact ⟨h0, ⟨v, h1, h2.keep hs hk⟩, h3⟩
theorem RowG.under {w w' : World} {xs : List Value} {l : List Rec} (h : RowG w xs l) (hb : Below w.heap.size w w') : RowG w' xs l := h.keep hb.size fun k hk => hb.block k hk.lt
end Go.Proofs.YtkhebllmnagkmaaGreatDoor
