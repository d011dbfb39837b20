/- Contracts and lemmas under the statements of this seat, one behind the other. Conditions: what each names. -/
import Derived.Test.YtkhebllmnagkmaaGreatDoorG7
import Derived.Deep.RegionLaw
import Derived.Test.YtkhebllmnagkmaaGreatDoorG6
/- Contracts of the package disk: Size, fits, New. Conditions: what each names. -/
namespace Go.Proofs.YtkhebllmnagkmaaGreatDoor
open Go.RowKit
set_option linter.unusedVariables false

theorem info103 : (Tryz.prog.info? 116).map (fun i => (i.zero, i.size, i.bytes)) = some (some (.agg #[.int .i64 0, .slice none 0 0]), 2, 32) := by kernel_rfl
theorem info105 : (Tryz.prog.info? 111).map (fun i => (i.zero, i.size, i.bytes)) = some (some (.agg #[.int .i64 0, .int .i64 0]), 2, 16) := by kernel_rfl
theorem own_shape {w : World} {base : Nat} {e : TypeId} {size n : Nat} {v : Value} {xs : List Value} (h : w.ownsRow base e size v n xs) : ∃ A c, v = .slice A n c := by
  rcases h.2 with ⟨hv, h0⟩ | ⟨g, cap, cur, hv, _⟩
  · exact ⟨none, 0, by rw [hv, h0]⟩
  · exact ⟨_, cap, hv⟩
theorem Blk.rows {w : World} {g : Nat} {t : TypeId} {xs : List Value} (n size : Nat) (h : Blk w g t xs.toArray) (hl : xs.length = n * size) : Reads w w.heap.size size (some ⟨g, 0, none⟩) n xs := by
  refine ⟨hl, fun _ => ⟨_, rfl, h.lt, fun j u hu => ?_⟩⟩
  rw [add_head]
  exact (h.cell j).trans (by rw [List.getElem?_toArray]; exact hu)
theorem IsSl.grown {w w' : World} {v : Value} {b : List UInt8} {row : Option Nat} (h : IsSl w v b) (hg : w.grownBy w' row) (hr : ∀ k, row = some k → k < w.heap.size → ¬ Kind w k 5) : IsSl w' v b :=
  h.keep hg.size fun k hk => hg.block k hk.lt (fun e => hr k e.symm hk.lt hk)
theorem RowB.grown {w w' : World} {xs : List Value} {l : List (List UInt8)} {row : Option Nat} (h : RowB w xs l) (hg : w.grownBy w' row) (hr : ∀ k, row = some k → k < w.heap.size → ¬ Kind w k 5) : RowB w' xs l :=
  h.keep hg.size fun k hk => hg.block k hk.lt (fun e => hr k e.symm hk.lt hk)
theorem RowW.grown {w w' : World} {xs : List Value} {l : List (Nat × List UInt8)} {row : Option Nat} (h : RowW w xs l) (hg : w.grownBy w' row) (hr : ∀ k, row = some k → k < w.heap.size → ¬ Kind w k 5) : RowW w' xs l :=
  h.keep hg.size fun k hk => hg.block k hk.lt (fun e => hr k e.symm hk.lt hk)
theorem not_u8 {w : World} {k : Nat} {t : TypeId} (h : Kind w k t) (ht : t ≠ 5) : ¬ Kind w k 5 := fun h' => ht (h.uniq h')
theorem RowB.snoc {w : World} {xs : List Value} {l : List (List UInt8)} {v : Value} {b : List UInt8} (h : RowB w xs l) (hl : xs.length = l.length) (hv : IsSl w v b) : RowB w (xs ++ [v]) (l ++ [b]) := by
  intro i c hc
  rw [List.getElem?_append] at hc
  split at hc
  · obtain ⟨u, h1, h2⟩ := h i c hc
    exact ⟨u, by rw [List.getElem?_append_left (by omega)]; exact h1, h2⟩
  · have hi : i = l.length := by
      rcases Nat.lt_or_ge (i - l.length) 1 with h1 | h1
      · omega
      · rw [List.getElem?_eq_none (by simp; omega)] at hc; cases hc
    subst hi
    rw [Nat.sub_self] at hc
    cases hc
    exact ⟨v, by rw [← hl, List.getElem?_append_right (Nat.le_refl _), Nat.sub_self]; rfl, hv⟩

theorem dsize_any (g : Nat) (F : Nat → Prop) (D : Dk) (w : World) (hD : Disk w g F D) : Calls Tryz.prog 31 #[.pointer (some ⟨g, 0, none⟩)] w fun e w' => e = .returned (.int .i64 (D.places.length : Int)) ∧ w = w' := by
  obtain ⟨vp, vu, vo, xp, xu, xo, h⟩ := hD
  obtain ⟨A, c, rfl⟩ := own_shape h.op
  have c0 : w.cell? ⟨g, 0, none⟩ = some (.slice A D.places.length c) := h.blk.cell 0
  clear h
  go_enter Tryz.func31, Tryz.ntmps31
  go_wp2
  go_ret
  exact ⟨rfl, rfl⟩
theorem dfits_any (g i : Nat) (F : Nat → Prop) (D : Dk) (A : Option Addr) (c : Nat) (w : World) (hD : Disk w g F D) (hi : i < D.places.length) : Calls Tryz.prog 54 #[.pointer (some ⟨g, 0, none⟩), .int .i64 (i : Int), .slice A 192 c] w fun e w' => e = .returned (.int .i64 0) ∧ w = w' := by
  obtain ⟨vp, vu, vo, xp, xu, xo, h⟩ := hD
  obtain ⟨A', c', rfl⟩ := own_shape h.op
  have c0 : w.cell? ⟨g, 0, none⟩ = some (.slice A' D.places.length c') := h.blk.cell 0
  have h1 : ¬ (i : Int) < 0 := by omega
  have h2 : ¬ (D.places.length : Int) ≤ (i : Int) := by omega
  clear h
  go_enter Tryz.func54, Tryz.ntmps54
  go_wp2
  go_ret
  exact ⟨rfl, rfl⟩

/-! ### New -/
def zeros192 : List UInt8 := List.replicate 192 0
theorem run_make192 (W : World) : (Instr.makeSlice 55 (.int .i64 192) (.int .i64 192)).run Tryz.prog W = .ok (.slice (some ⟨W.heap.size, 0, none⟩) 192 192) (W.alloc (.cells (bs zeros192).toArray 5)) := by
  obtain ⟨i0, hi, hz0, hz1, hz2⟩ := info_parts info5
  have hrun := run_make (P := Tryz.prog) W 55 5 i0 (.int .u8 0) Tryz.underlying55 hi hz0 .i64 .i64 192 192 (by omega) (by omega) (by rw [hz2]; omega) (by omega)
  rw [hz1] at hrun
  rw [hrun]
  have hz : bs zeros192 = List.replicate 192 (Value.int .u8 0) := by unfold bs zeros192; rw [List.map_replicate]; rfl
  rw [hz, show Int.toNat 192 = 192 from rfl]
  rw [← show (madeCells (Value.int .u8 0).cells (192 * 1)).toList.toArray = madeCells (Value.int .u8 0).cells (192 * 1) from by simp]
  rw [show (Value.int .u8 0).cells = #[Value.int .u8 0] from rfl, toList_madeCells_one]
set_option maxRecDepth 100000 in
set_option maxHeartbeats 2000000 in
theorem dnew_any (n : Nat) (w : World) (h1 : 1 ≤ n) (hn : n ≤ 4096) :
    Calls Tryz.prog 6 #[.int .i64 (n : Int)] w fun e w' => e = .returned (.tuple #[.pointer (some ⟨w.heap.size, 0, none⟩), .int .i64 0]) ∧ Disk w' w.heap.size (fun k => w.heap.size ≤ k) ⟨List.replicate n zeros192, [], -1, false, 0⟩ ∧ Below w.heap.size w w' := by
  have g1 : ¬ (n : Int) < 1 := by omega
  have g2 : ¬ 4096 < (n : Int) := by omega
  obtain ⟨i0, hi, hz0, hz1, hz2⟩ := info_parts info34
  go_enter Tryz.func6, Tryz.ntmps6
  go_wp2
  go_loopw [14] (fun ix wr => ∃ k : Nat, k ≤ n ∧ ix = .int .i64 k ∧ ∃ A c xp, Blk wr w.heap.size 85 #[.slice A k c, .slice none 0 0, .int .i64 (-1), .bool false, .slice none 0 0] ∧ wr.ownsRow (w.heap.size + 1) 55 1 (.slice A k c) k xp ∧ RowB wr xp (List.replicate k zeros192) ∧ Below w.heap.size w wr) (fun ix _ => n - (intOf ix).toNat)
  case atStart => exact ⟨0, by omega, rfl, none, 0, [], Blk.new_of rfl rfl, World.ownsRow_nil _ _ _ _, fun i b hb => by simp at hb, (Below.refl _ _).alloc (Nat.le_refl _) _⟩
  case round =>
    obtain ⟨k, hk, rfl, A, c, xp, hb, ho, hr, hw⟩ := hrel
    have hlt0 := hb.lt
    by_cases hlt : k < n
    · have c0 : wr.cell? ⟨w.heap.size, 0, none⟩ = some (.slice A k c) := hb.cell 0
      obtain ⟨W2, hW2⟩ : ∃ W2 : World, W2 = ((wr.alloc (.cells (bs zeros192).toArray 5)).alloc (.cells #[.slice (some ⟨wr.heap.size, 0, none⟩) 192 192] 55)).drew := ⟨_, rfl⟩
      have hod : W2.ownsRow (w.heap.size + 1) 55 1 (.slice A k c) k xp := by rw [hW2]; exact World.ownsRow.alloc (World.ownsRow.alloc ho _) _
      have hs2 : W2.heap.size = wr.heap.size + 2 := by rw [hW2]; show ((wr.alloc _).alloc _).heap.size = _; rw [size_alloc', size_alloc']
      have knew : Blk W2 (wr.heap.size + 1) 55 [Value.slice (some ⟨wr.heap.size, 0, none⟩) 192 192].toArray := by rw [hW2]; exact (Blk.new_of (by rw [size_alloc']) rfl).drew
      have hnews : Reads W2 W2.heap.size 1 (some ⟨wr.heap.size + 1, 0, none⟩) 1 [Value.slice (some ⟨wr.heap.size, 0, none⟩) 192 192] := knew.rows 1 1 rfl
      have kz : Blk W2 wr.heap.size 5 (bs zeros192).toArray := by rw [hW2]; exact ((Blk.new_of rfl rfl).alloc _).drew
      have hone : ∀ u ∈ [Value.slice (some ⟨wr.heap.size, 0, none⟩) 192 192], u.oneCell' = true := by simp [Value.oneCell']
      have hb2 : Blk W2 w.heap.size 85 #[.slice A k c, .slice none 0 0, .int .i64 (-1), .bool false, .slice none 0 0] := by rw [hW2]; exact ((hb.alloc _).alloc _).drew
      have hr2 : RowB W2 xp (List.replicate k zeros192) := hr.keep (by omega) fun b hk => by rw [hW2]; exact (Below.heap_alloc _ _ b (by rw [size_alloc']; exact Nat.lt_succ_of_lt hk.lt)).trans (Below.heap_alloc _ _ b hk.lt)
      have hw2 : Below w.heap.size w W2 := by rw [hW2]; exact ((hw.alloc hw.size _).alloc (by rw [size_alloc']; exact Nat.le_succ_of_le hw.size) _).drew
      have hm1 : k + 1 ≤ maxLen := by unfold maxLen; omega
      have hm2 : (k + 1) * 24 ≤ 140737488355328 := by omega
      have hbs : w.heap.size + 1 ≤ W2.heap.size := by omega
      have h01 : 0 < 1 := by omega
      have hne : some w.heap.size ≠ (Value.slice A k c).ownBlock := fun e => by have := (World.ownsRow.lt ho _ e.symm).1; omega
      have HW2 := Lib.hid hW2
      have hmk := run_make192
      clear hW2
      go_wp2
      go_region_law (first | ((refine step_append_any _ (by rfl) (.tmp 20) (.tmp 22) 81 (by rfl) (w.heap.size + 1) 55 i0 _ 1 24 Tryz.underlying81 hi hz0 hz1 hz2 (by rfl) h01 (.slice A k c) k xp (by rfl) (by rw [← HW2.out]; exact hod) W2.heap.size (some ⟨wr.heap.size + 1, 0, none⟩) 1 1 [Value.slice (some ⟨wr.heap.size, 0, none⟩) 192 192] (by rfl) (by rw [← HW2.out]; exact hnews) hone hm1 hm2 (by rw [← HW2.out]; exact hbs) ?_; intro v4 w4 hown4 hg4 hat4; rw [← HW2.out] at hg4; obtain ⟨A4, cc4, rfl⟩ := own_shape hown4; have kb4 := hb2.grown hg4 hne; have c4 : w4.cell? ⟨w.heap.size, 0, none⟩ = some (.slice A k c) := kb4.cell 0; have f4 := kb4.frozen 0)))
      all_goals
        have kF := kb4.set_ 0 (.slice A4 (k + 1) cc4)
        have hrow : ∀ b, (Value.slice A k c).ownBlock = some b → b < W2.heap.size → ¬ Kind W2 b 5 := fun b e _ => not_u8 (own_kind hod e) (by decide)
        have hxl : xp.length = (List.replicate k zeros192).length := by have := ho.1; rw [List.length_replicate]; omega
        have hsl : IsSl W2 (.slice (some ⟨wr.heap.size, 0, none⟩) 192 192) zeros192 := kz.isSl
        have hr4 := (hr2.grown hg4 hrow).snoc hxl (hsl.grown hg4 hrow)
        have hgs : w4.grownBy (w4.setCell ⟨w.heap.size, 0, none⟩ (.slice A4 (k + 1) cc4)) (some w.heap.size) := only_setCell (World.grownBy.refl _ _) (.inl rfl) _
        have hr5 := hr4.grown hgs (fun b e _ => by injection e with e; subst e; exact not_u8 kb4.kind (by decide))
        rw [← List.replicate_succ'] at hr5
        have hw5 := (hw2.grown hg4 (by omega) (fun b e => by have := (World.ownsRow.lt hod b e).1; omega)).setCell (p := ⟨w.heap.size, 0, none⟩) (Nat.le_refl _) (.slice A4 (k + 1) cc4)
        have ho5 := ownsRow_setCell_below hown4 (a := ⟨w.heap.size, 0, none⟩) (Nat.lt_succ_self _) (.slice A4 (k + 1) cc4)
        clear hmk hr hb ho hw c0 hr2 hb2 hod hown4 hg4 kb4 c4 f4 hr4 hgs
        go_wp2
        go_roundw
        case rel => exact ⟨k + 1, by omega, by go_num, A4, cc4, _, kF, ho5, hr5, hw5⟩
        case measure => simp [intOf]; omega
    · have hkk : k = n := by omega
      have hps : n ≤ k := by omega
      have HK := Lib.hid hkk
      clear hkk hlt hk
      go_wp2
      go_ret2
      have hxl := ho.1
      refine ⟨rfl, ⟨_, _, _, xp, [], [], hb, Nat.le_refl _, ?_, ?_, ?_, World.ownsRow_nil _ _ _ _, (fun _ e => by cases e), (fun i b hb => by simp at hb), World.ownsRow_nil _ _ _ _, (fun _ e => by cases e)⟩, hw⟩
      · show wr.ownsRow 0 55 1 (.slice A k c) (List.replicate n zeros192).length xp
        rw [List.length_replicate, ← HK.out]
        exact ownsRow_lower ho (by omega)
      · intro b e
        have := (World.ownsRow.lt ho b e).1
        omega
      · show RowB wr xp (List.replicate n zeros192)
        rw [← HK.out]
        exact hr
end Go.Proofs.YtkhebllmnagkmaaGreatDoor
/- Words for the disk's memory: a row is appended to, a field of the disk is written. Plain lemmas over worlds: no function of the program is walked here. -/
namespace Go.Proofs.YtkhebllmnagkmaaGreatDoor
open Go.RowKit
set_option linter.unusedVariables false

section
variable {F F' : Nat → Prop} {a w w' : World} {g : Nat} {D : Dk} {vp vu vo : Value} {xp xu xo : List Value}
theorem Only.grown {row : Option Nat} (h : Only F a w) (hg : w.grownBy w' row) (hr : ∀ k, row = some k → F k ∨ a.heap.size ≤ k) (ht : ∀ k, row = some k → k < w.heap.size → ∃ t, Kind w k t ∧ t ∈ wet) : Only F a w' :=
  h.trans (Only.of_grown (F := more F a.heap.size) hg hr ht) (fun i hi hf => hf.elim id (fun h => by omega))
theorem Only.setCell (h : Only F a w) {p : Addr} (hp : F p.block ∨ a.heap.size ≤ p.block) {t : TypeId} (hk : Kind w p.block t) (ht : t ∈ wet) (u : Value) : Only F a (w.setCell p u) :=
  h.grown (row := some p.block) (only_setCell (World.grownBy.refl _ _) (.inl rfl) u) (fun k e => by injection e with e; subst e; exact hp) (fun k e _ => by injection e with e; subst e; exact ⟨t, hk, ht⟩)
theorem Only.under (h : Only F a w) (hb : Below w.heap.size w w') : Only F a w' := h.trans (Only.of_below (F := F) hb) (fun _ _ hf => hf)
theorem Only.alloc (h : Only F a w) (o : Obj) : Only F a (w.alloc o) := h.under ((Below.refl _ _).alloc (Nat.le_refl _) _)
theorem Only.drew (h : Only F a w) : Only F a w.drew := ⟨h.os, h.tape, h.output, h.size, h.block⟩
theorem own_keep {base : Nat} {e : TypeId} {size n : Nat} {v : Value} {xs : List Value} (ho : w.ownsRow base e size v n xs) (hk : ∀ k, v.ownBlock = some k → w'.heap[k]? = w.heap[k]?) : w'.ownsRow base e size v n xs := by
  refine ⟨ho.1, ?_⟩
  rcases ho.2 with hn | ⟨g, cap, cur, hv, hg, hh, rest⟩
  · exact .inl hn
  · exact .inr ⟨g, cap, cur, hv, hg, (hk g (by rw [hv]; rfl)).trans hh, rest⟩
theorem DiskAt.keep (h : DiskAt w g F D vp vu vo xp xu xo) (hs : w.heap.size ≤ w'.heap.size) (hk : ∀ k t, Kind w k t → (F k ∨ t = 5) → w'.heap[k]? = w.heap[k]?) : DiskAt w' g F D vp vu vo xp xu xo :=
  ⟨(hk g _ h.blk.kind (.inl h.fg)).trans h.blk, h.fg, own_keep h.op (fun k e => hk k _ (own_kind h.op e) (.inl (h.fp k e))), h.fp, h.rp.keep hs fun k hK => hk k _ hK (.inr rfl), own_keep h.ou (fun k e => hk k _ (own_kind h.ou e) (.inl (h.fu k e))), h.fu,
    h.ru.keep hs fun k hK => hk k _ hK (.inr rfl), own_keep h.oo (fun k e => hk k _ (own_kind h.oo e) (.inl (h.fo k e))), h.fo⟩
theorem DiskAt.under (h : DiskAt w g F D vp vu vo xp xu xo) (hb : Below w.heap.size w w') : DiskAt w' g F D vp vu vo xp xu xo := h.keep hb.size fun k t hK _ => hb.block k hK.lt
theorem DiskAt.alloc (h : DiskAt w g F D vp vu vo xp xu xo) (o : Obj) : DiskAt (w.alloc o) g F D vp vu vo xp xu xo := h.under ((Below.refl _ _).alloc (Nat.le_refl _) _)
theorem DiskAt.drew (h : DiskAt w g F D vp vu vo xp xu xo) : DiskAt w.drew g F D vp vu vo xp xu xo := h.under (Below.refl _ _).drew
theorem DiskAt.mono (h : DiskAt w g F D vp vu vo xp xu xo) (hF : ∀ k, F k → F' k) : DiskAt w g F' D vp vu vo xp xu xo :=
  ⟨h.blk, hF _ h.fg, h.op, fun k e => hF _ (h.fp k e), h.rp, h.ou, fun k e => hF _ (h.fu k e), h.ru, h.oo, fun k e => hF _ (h.fo k e)⟩
theorem kind_ne {k : Nat} {t t' : TypeId} {row : Option Nat} (h : Kind w k t) (hr : ∀ j, row = some j → Kind w j t') (hne : t ≠ t') : some k ≠ row := fun e => hne (h.uniq (hr k e.symm))
theorem RowW.snoc {l : List (Nat × List UInt8)} {i : Nat} {s : Value} {b : List UInt8} (h : RowW w xu l) (hl : xu.length = 2 * l.length) (hs : IsSl w s b) : RowW w (xu ++ [.int .i64 (i : Int), s]) (l ++ [(i, b)]) := by
  intro j p hp
  rw [List.getElem?_append] at hp
  split at hp
  · obtain ⟨h0, u, h1, h2⟩ := h j p hp
    exact ⟨by rw [List.getElem?_append_left (by omega)]; exact h0, u, by rw [List.getElem?_append_left (by omega)]; exact h1, h2⟩
  · have hi : j = l.length := by
      rcases Nat.lt_or_ge (j - l.length) 1 with h1 | h1
      · omega
      · rw [List.getElem?_eq_none (by simp; omega)] at hp; cases hp
    subst hi
    rw [Nat.sub_self] at hp
    cases hp
    refine ⟨by rw [← hl, List.getElem?_append_right (Nat.le_refl _), Nat.sub_self]; rfl, s, ?_, hs⟩
    rw [List.getElem?_append_right (by omega), show 2 * l.length + 1 - xu.length = 1 by omega]
    rfl
/-- A write goes under way. -/
theorem DiskAt.addWay (h : DiskAt w g F D vp vu vo xp xu xo) {v4 : Value} {w4 : World} {i : Nat} {s : Value} {b : List UInt8} (ho : w4.ownsRow 0 116 2 v4 (D.way.length + 1) (xu ++ [.int .i64 (i : Int), s])) (hg : w.grownBy w4 vu.ownBlock)
    (ha : v4.ownBlock = vu.ownBlock ∨ v4.ownBlock = some w.heap.size) (hs : IsSl w s b) :
    DiskAt (w4.setCell ⟨g, 1, none⟩ v4) g (more F w.heap.size) { D with way := D.way ++ [(i, b)] } vp v4 vo xp (xu ++ [.int .i64 (i : Int), s]) xo := by
  have hK : ∀ j, vu.ownBlock = some j → Kind w j 116 := fun j e => own_kind h.ou e
  have hne : ∀ {k : Nat} {t : TypeId}, Kind w k t → t ≠ 116 → w4.heap[k]? = w.heap[k]? := fun hk ht => hg.block _ hk.lt (kind_ne hk hK ht)
  have b4 : Blk w4 g 85 _ := (hne h.blk.kind (by decide)).trans h.blk
  have hv4 : v4.ownBlock ≠ some g := own_blk_ne ho b4 (by decide)
  have hst : ∀ k, k ≠ g → (w4.setCell ⟨g, 1, none⟩ v4).heap[k]? = w4.heap[k]? := fun k hk => Below.heap_setCell _ _ _ _ hk
  have hsz : w.heap.size ≤ (w4.setCell ⟨g, 1, none⟩ v4).heap.size := by have := hg.size; simpa [World.setCell] using this
  have hgk := h.blk.kind
  have hu8 : ∀ k, Kind w k 5 → (w4.setCell ⟨g, 1, none⟩ v4).heap[k]? = w.heap[k]? := fun k hk => (hst k (by rintro rfl; exact absurd (hk.uniq hgk) (by decide))).trans (hne hk (by decide))
  have hown : ∀ {e : TypeId} {size n : Nat} {v : Value} {xs : List Value}, w.ownsRow 0 e size v n xs → e ≠ 116 → e ≠ 85 → (w4.setCell ⟨g, 1, none⟩ v4).ownsRow 0 e size v n xs := fun ho h1 h2 =>
    own_keep ho fun k e => (hst k (by rintro rfl; exact h2 ((own_kind ho e).uniq hgk))).trans (hne (own_kind ho e) h1)
  refine ⟨?_, .inl h.fg, hown h.op (by decide) (by decide), fun k e => .inl (h.fp k e), h.rp.keep hsz hu8, ?_, fun k e => ?_, ?_, hown h.oo (by decide) (by decide), fun k e => .inl (h.fo k e)⟩
  · have h5 := b4.set_ 1 v4
    exact h5
  · show (w4.setCell ⟨g, 1, none⟩ v4).ownsRow 0 116 2 v4 (D.way ++ [(i, b)]).length _
    rw [List.length_append, List.length_singleton]
    exact own_keep ho fun k e => hst k (by rintro rfl; exact hv4 e)
  · rcases ha with ha | ha
    · exact .inl (h.fu k (ha ▸ e))
    · rw [ha] at e; injection e with e; exact .inr (by omega)
  · exact (h.ru.keep hsz hu8).snoc (by have := h.ou.1; omega) (hs.keep hsz hu8)
theorem DiskAt.addWay_only (h : DiskAt w g F D vp vu vo xp xu xo) {v4 : Value} {w4 : World} (hg : w.grownBy w4 vu.ownBlock) (hO : Only F a w) : Only F a (w4.setCell ⟨g, 1, none⟩ v4) := by
  have hK : ∀ j, vu.ownBlock = some j → Kind w j 116 := fun j e => own_kind h.ou e
  have b4 : Blk w4 g 85 _ := (hg.block _ h.blk.lt (kind_ne h.blk.kind hK (by decide))).trans h.blk
  exact (hO.grown hg (fun k e => .inl (h.fu k e)) (fun k e _ => ⟨_, hK k e, by decide⟩)).setCell (p := ⟨g, 1, none⟩) (.inl h.fg) b4.kind (by decide) v4
/-- A call is noted. -/
theorem DiskAt.addOp (h : DiskAt w g F D vp vu vo xp xu xo) {v4 : Value} {w4 : World} {ys : List Value} (ho : w4.ownsRow 0 111 2 v4 (D.ops + 1) (xo ++ ys)) (hg : w.grownBy w4 vo.ownBlock)
    (ha : v4.ownBlock = vo.ownBlock ∨ v4.ownBlock = some w.heap.size) :
    DiskAt (w4.setCell ⟨g, 4, none⟩ v4) g (more F w.heap.size) { D with ops := D.ops + 1 } vp vu v4 xp xu (xo ++ ys) := by
  have hK : ∀ j, vo.ownBlock = some j → Kind w j 111 := fun j e => own_kind h.oo e
  have hne : ∀ {k : Nat} {t : TypeId}, Kind w k t → t ≠ 111 → w4.heap[k]? = w.heap[k]? := fun hk ht => hg.block _ hk.lt (kind_ne hk hK ht)
  have b4 : Blk w4 g 85 _ := (hne h.blk.kind (by decide)).trans h.blk
  have hv4 : v4.ownBlock ≠ some g := own_blk_ne ho b4 (by decide)
  have hst : ∀ k, k ≠ g → (w4.setCell ⟨g, 4, none⟩ v4).heap[k]? = w4.heap[k]? := fun k hk => Below.heap_setCell _ _ _ _ hk
  have hsz : w.heap.size ≤ (w4.setCell ⟨g, 4, none⟩ v4).heap.size := by have := hg.size; simpa [World.setCell] using this
  have hgk := h.blk.kind
  have hu8 : ∀ k, Kind w k 5 → (w4.setCell ⟨g, 4, none⟩ v4).heap[k]? = w.heap[k]? := fun k hk => (hst k (by rintro rfl; exact absurd (hk.uniq hgk) (by decide))).trans (hne hk (by decide))
  have hown : ∀ {e : TypeId} {size n : Nat} {v : Value} {xs : List Value}, w.ownsRow 0 e size v n xs → e ≠ 111 → e ≠ 85 → (w4.setCell ⟨g, 4, none⟩ v4).ownsRow 0 e size v n xs := fun ho h1 h2 =>
    own_keep ho fun k e => (hst k (by rintro rfl; exact h2 ((own_kind ho e).uniq hgk))).trans (hne (own_kind ho e) h1)
  refine ⟨?_, .inl h.fg, hown h.op (by decide) (by decide), fun k e => .inl (h.fp k e), h.rp.keep hsz hu8, hown h.ou (by decide) (by decide), fun k e => .inl (h.fu k e), h.ru.keep hsz hu8, ?_, fun k e => ?_⟩
  · have h5 := b4.set_ 4 v4
    exact h5
  · exact own_keep ho fun k e => hst k (by rintro rfl; exact hv4 e)
  · rcases ha with ha | ha
    · exact .inl (h.fo k (ha ▸ e))
    · rw [ha] at e; injection e with e; exact .inr (by omega)
theorem DiskAt.addOp_only (h : DiskAt w g F D vp vu vo xp xu xo) {v4 : Value} {w4 : World} (hg : w.grownBy w4 vo.ownBlock) (hO : Only F' a w) (hF : ∀ k, F k → F' k ∨ a.heap.size ≤ k) : Only F' a (w4.setCell ⟨g, 4, none⟩ v4) := by
  have hK : ∀ j, vo.ownBlock = some j → Kind w j 111 := fun j e => own_kind h.oo e
  have b4 : Blk w4 g 85 _ := (hg.block _ h.blk.lt (kind_ne h.blk.kind hK (by decide))).trans h.blk
  exact (hO.grown hg (fun k e => hF _ (h.fo k e)) (fun k e _ => ⟨_, hK k e, by decide⟩)).setCell (p := ⟨g, 4, none⟩) (hF _ h.fg) b4.kind (by decide) v4
theorem RowB.set_ {l : List (List UInt8)} {i : Nat} {v : Value} {b : List UInt8} (h : RowB w xp l) (hl : xp.length = l.length) (hv : IsSl w v b) : RowB w (xp.set i v) (l.set i b) := by
  intro j c hc
  rw [List.getElem?_set] at hc
  split at hc
  · rename_i hij
    split at hc
    · rename_i hlt
      cases hc
      exact ⟨v, by rw [List.getElem?_set, if_pos hij, if_pos (by omega)], hv⟩
    · cases hc
  · rename_i hij
    obtain ⟨u, h1, h2⟩ := h j c hc
    exact ⟨u, by rw [List.getElem?_set, if_neg hij]; exact h1, h2⟩
/-- A place is written. -/
theorem DiskAt.setPlace {gp cap i n : Nat} {v : Value} {b : List UInt8} (h : DiskAt w g F D (.slice (some ⟨gp, 0, none⟩) n cap) vu vo xp xu xo) (hn : n = D.places.length) (hv : IsSl w v b) :
    DiskAt (w.setCell ⟨gp, i, none⟩ v) g F { D with places := D.places.set i b } (.slice (some ⟨gp, 0, none⟩) n cap) vu vo (xp.set i v) xu xo := by
  subst hn
  have kp : Kind w gp 55 := own_kind h.op rfl
  have hst : ∀ k, k ≠ gp → (w.setCell ⟨gp, i, none⟩ v).heap[k]? = w.heap[k]? := fun k hk => Below.heap_setCell _ _ _ _ hk
  have hne : ∀ {k : Nat} {t : TypeId}, Kind w k t → t ≠ 55 → (w.setCell ⟨gp, i, none⟩ v).heap[k]? = w.heap[k]? := fun hk ht => hst _ (by rintro rfl; exact ht (hk.uniq kp))
  have hsz : w.heap.size ≤ (w.setCell ⟨gp, i, none⟩ v).heap.size := by simp [World.setCell]
  refine ⟨(hne h.blk.kind (by decide)).trans h.blk, h.fg, ?_, h.fp, ?_, own_keep h.ou fun k e => hne (own_kind h.ou e) (by decide), h.fu, h.ru.keep hsz fun k hk => hne hk (by decide), own_keep h.oo fun k e => hne (own_kind h.oo e) (by decide), h.fo⟩
  · have h5 := (World.ownsRow.stored h.op i v).1
    show World.ownsRow _ 0 55 1 _ (D.places.set i b).length _
    rw [List.length_set]
    exact h5
  · exact (RowB.set_ h.rp (by have := h.op.1; omega) hv).keep hsz fun k hk => hne hk (by decide)
end
end Go.Proofs.YtkhebllmnagkmaaGreatDoor
/- Contract of the disk's Write, where it may write. Conditions: what each names. -/
namespace Go.Proofs.YtkhebllmnagkmaaGreatDoor
open Go.RowKit
set_option linter.unusedVariables false

/-- A call of a function by its contract, as one step of a region that draws its order. -/
theorem step_call_fn {P : Program} {ops : Array Oper} {o : Oper} {a : Act} {w : World} {K : Act → World → Prop} {Q : Exit → Act → World → Prop} {E : Prop} (hgd : o.guard = none) (f : FuncId) (argOps : List Operand) (tys : Array TypeId)
    (ho : o.op = .call { callee := .value (.func f), args := argOps.toArray, argTypes := tys }) (args : List Value) (ha : argOps.map a.eval = args) (he : ∀ args w, (callFunc f args).run P w = .ok (.enter f args) w) (R : Ending → World → Prop) (hc : Calls P f args.toArray w R)
    (hR : ∀ e w', R e w' → ∃ v, e = .returned v ∧ K (a.put o.dst v) w') : if Region.wanted o (yielded ops a.tmps) = true then Oper.wp P o a w K Q else E := by
  have hw : Region.wanted o (yielded ops a.tmps) = true := by simp [Region.wanted, hgd]
  rw [if_pos hw]
  subst ha
  unfold Oper.wp
  have hrun : (execOp a.eval o).run P w = .ok (.enter f (argOps.map a.eval).toArray) w := by
    simp only [execOp, ho, resolve, invoke, Act.eval, go_sem]
    simp [he]
  rw [hrun, Oper.upon_enter]
  refine hc.mono fun e w' h => ?_
  obtain ⟨v, rfl, hk⟩ := hR e w' h
  exact hk
set_option maxRecDepth 100000 in
set_option maxHeartbeats 4000000 in
theorem dwrite_any (g i : Nat) (F : Nat → Prop) (D : Dk) (A : Option Addr) (c : Nat) (b : List UInt8) (w : World) (hD : Disk w g F D) (hdn : D.down = false) (hlf : D.left < 0) (hi : i < D.places.length) (hr : Reads w w.heap.size 1 A 192 (bs b))
    (hn1 : D.way.length ≤ 1048576) (hn2 : D.ops ≤ 1048576) :
    Calls Tryz.prog 27 #[.pointer (some ⟨g, 0, none⟩), .int .i64 (i : Int), .slice A 192 c] w fun e w' => e = .returned (.int .i64 0) ∧ Disk w' g (more F w.heap.size) { D with way := D.way ++ [(i, b)], ops := D.ops + 1 } ∧ Only F w w' := by
  have hfit := dfits_any g i F D A c w hD hi
  obtain ⟨vp, vu, vo, xp, xu, xo, h⟩ := hD
  obtain ⟨i0, ii0, hz0, hz1, hz2⟩ := info_parts info103
  obtain ⟨i1, ii1, hy0, hy1, hy2⟩ := info_parts info105
  have hbl : b.length = 192 := by have := hr.1; rw [bs_length] at this; omega
  have hclo := clone_any A 192 c b w.drew hr (by omega)
  obtain ⟨Au, cu, hvu⟩ := own_shape h.ou
  obtain ⟨Ao, co, hvo⟩ := own_shape h.oo
  subst hvu hvo
  have c1 : w.cell? ⟨g, 1, none⟩ = some (.slice Au D.way.length cu) := h.blk.cell 1
  have c2 : w.cell? ⟨g, 2, none⟩ = some (.int .i64 D.left) := h.blk.cell 2
  have c3 : w.cell? ⟨g, 3, none⟩ = some (.bool false) := by rw [← hdn]; exact h.blk.cell 3
  have e0 : (D.left == 0) = false := by rw [beq_eq_false_iff_ne]; omega
  have e1 : ¬ 0 < D.left := by omega
  have e2 : ¬ D.left = 0 := by omega
  have hone : ∀ (A : Option Addr) (n c : Nat), ∀ u ∈ [Value.int .i64 (i : Int), .slice A n c], u.oneCell' = true := by intro A n c u hu; simp only [List.mem_cons, List.not_mem_nil, or_false] at hu; rcases hu with rfl | rfl <;> rfl
  have hone2 : ∀ u ∈ [Value.int .i64 2, .int .i64 (i : Int)], u.oneCell' = true := by intro u hu; simp only [List.mem_cons, List.not_mem_nil, or_false] at hu; rcases hu with rfl | rfl <;> rfl
  have hm1 : D.way.length + 1 ≤ maxLen := by unfold maxLen; omega
  have hm2 : (D.way.length + 1) * 32 ≤ 140737488355328 := by omega
  have hm3 : D.ops + 1 ≤ maxLen := by unfold maxLen; omega
  have hm4 : (D.ops + 1) * 16 ≤ 140737488355328 := by omega
  have h02 : 0 < 2 := by omega
  have H1d := h.drew
  have HH := Lib.hid H1d
  have eclo := enters_of Tryz.func43 (by kernel_rfl) rfl
  have HB := Lib.hid hbl
  have HEC := Lib.hid eclo
  have H := Lib.hid h
  clear hbl h hdn H1d eclo
  go_enter Tryz.func27, Tryz.ntmps27
  go_wp2_with (go_at_call 54; refine hfit.mono ?_; rintro e w1 ⟨rfl, rfl⟩)
  have eclo := HEC.out
  go_region_law (first | ((refine step_call_fn (by rfl) 43 [_] _ (by rfl) [_] (by rfl) eclo _ hclo ?_; rintro e w1 ⟨v1, rfl, hv1, b1⟩; obtain ⟨A1, cc1, rfl⟩ := hv1.shape; have H1 := HH.out.under b1; have hcw : w1.cell? ⟨g, 1, none⟩ = some (.slice Au D.way.length cu) := H1.blk.cell 1; have H2 := H1.alloc (.cells #[.int .i64 (i : Int), .slice A1 b.length cc1] 116); have hcw2 : (w1.alloc (.cells #[.int .i64 (i : Int), .slice A1 b.length cc1] 116)).cell? ⟨g, 1, none⟩ = some (.slice Au D.way.length cu) := H2.blk.cell 1; have hnews := Blk.rows (xs := [.int .i64 (i : Int), .slice A1 b.length cc1]) 1 2 (Blk.new w1 116 #[.int .i64 (i : Int), .slice A1 b.length cc1]) rfl; refine ⟨_, rfl, ?_⟩)) | ((refine step_append_any _ (by rfl) (.tmp 47) (.tmp 52) 82 (by rfl) 0 116 i0 _ 2 32 Tryz.underlying82 ii0 hz0 hz1 hz2 (by rfl) h02 (.slice Au D.way.length cu) D.way.length xu (by rfl) H2.ou _ (some ⟨w1.heap.size, 0, none⟩) 1 1 [_, _] (by rfl) hnews (hone _ _ _) hm1 hm2 (Nat.zero_le _) ?_; intro v4 w4 hown4 hg4 hat4; obtain ⟨A4, cc4, rfl⟩ := own_shape hown4; have kb4 := H2.blk.grown hg4 (fun e => own_blk_ne H2.ou H2.blk (by decide) e.symm); have c4 : w4.cell? ⟨g, 1, none⟩ = some (.slice Au D.way.length cu) := kb4.cell 1; have f4 := kb4.frozen 1)))
  all_goals
    have H5 := H2.addWay hown4 hg4 hat4 (hv1.isSl.alloc _)
    have O1 : Only F w w1 := (Only.refl F w).drew.under b1
    have O5 := H2.addWay_only (v4 := .slice A4 (D.way.length + 1) cc4) hg4 (O1.alloc _)
    have s1 : w.heap.size ≤ w1.heap.size := O1.size
    have s5 := O5.size
    rw [size_alloc'] at H5
    clear c1 c2 c3 H1 H2 hcw hcw2 hnews hown4 hg4 hat4 kb4 c4 f4 hv1 b1 hfit hclo hr eclo
    generalize w4.setCell ⟨g, 1, none⟩ (.slice A4 (D.way.length + 1) cc4) = W5 at *
    have c5 : W5.cell? ⟨g, 4, none⟩ = some (.slice Ao D.ops co) := H5.blk.cell 4
    have H6 := H5.alloc (.cells #[.int .i64 2, .int .i64 (i : Int)] 111)
    go_wp2_with (at_builtin; refine wpList_append_any _ rfl (.tmp 60) (.tmp 63) 83 rfl 0 111 i1 _ 2 16 Tryz.underlying83 ii1 hy0 hy1 hy2 rfl (by omega) (.slice Ao D.ops co) D.ops xo rfl H6.oo _ (some ⟨W5.heap.size, 0, none⟩) 1 1 [.int .i64 2, .int .i64 (i : Int)] rfl (Blk.rows (xs := [.int .i64 2, .int .i64 (i : Int)]) 1 2 (Blk.new W5 111 #[.int .i64 2, .int .i64 (i : Int)]) rfl) hone2 hm3 hm4 (Nat.zero_le _) ?_; intro v7 w7 hown7 hg7 hat7; obtain ⟨A7, cc7, rfl⟩ := own_shape hown7; have kb7 := H6.blk.grown hg7 (fun e => own_blk_ne H6.oo H6.blk (by decide) e.symm); have c7 : w7.cell? ⟨g, 4, none⟩ = some (.slice Ao D.ops co) := kb7.cell 4; have f7 := kb7.frozen 4)
    go_ret
    refine ⟨rfl, ⟨_, _, _, _, _, _, (H6.addOp hown7 hg7 hat7).mono ?_⟩, H6.addOp_only hg7 (O5.alloc _) ?_⟩
    · rintro k ((hk | hk) | hk)
      · exact .inl hk
      · exact .inr (by omega)
      · exact .inr (by rw [size_alloc'] at hk; omega)
    · rintro k (hk | hk)
      · exact .inl hk
      · exact .inr (by omega)
end Go.Proofs.YtkhebllmnagkmaaGreatDoor
/- slices.Backward at the disk's writes: what the iterator hands over, from the last one on. Conditions: what each names. -/
namespace Go.Proofs.YtkhebllmnagkmaaGreatDoor
open Go.RowKit Go.Shelf
set_option linter.unusedVariables false
attribute [local go_sem] Oper.semAt_some

/-- The write that comes up as number x, from behind. -/
def backAt (n x : Nat) : Nat := n - 1 - min x (n - 1)
def backEnc (xs : List Value) (n x : Nat) : Array Value := #[.int .i64 (backAt n x : Int), .agg #[xs.getD (backAt n x * 2) undef, xs.getD (backAt n x * 2 + 1) undef]]
set_option maxRecDepth 100000 in
set_option maxHeartbeats 2000000 in
theorem back1_in (F : Fence) (d : Nat) (hf : F.fn 74) (hro : F.round = none) (hd : 1 ≤ d) (l c1 r : Nat) (A : Option Addr) (n cap : Nat) (xs : List Value) (hA : 0 < n → A = some ⟨r, 0, none⟩) (hxl : xs.length = n * 2) (hcap : n ≤ 140737488351232)
    (J Jx : List Nat → World → Prop) (B0 : Nat) (hJa : AbidesFrom B0 J)
    (hY : ∀ pre x W, J pre W → pre.length < n → YieldAt F (d - 1) Tryz.prog l (backEnc xs n x) W fun e W' =>
      (e = .returned (.bool true) ∧ J (pre ++ [x]) W' ∧ KeepTwo c1 r W W') ∨ (e = .returned (.bool false) ∧ Jx (pre ++ [x]) W'))
    (W : World) (hc1 : Blk W c1 82 #[.slice A n cap]) (hrow : ∀ j u, xs[j]? = some u → W.cell? ⟨r, j, none⟩ = some u) (hJ : J [] W) :
    CallsIn F d Tryz.prog 74 #[.func (.yield l) #[] #[], .pointer (some ⟨c1, 0, none⟩)] W fun e W' => (∃ v, e = .returned v) ∧
      ((∃ ys, ys = List.range n ∧ J ys W') ∨ (∃ pre, (∃ k, k ≤ n ∧ pre = List.range k) ∧ Jx pre W')) := by
  have c1W : W.cell? ⟨c1, 0, none⟩ = some (.slice A n cap) := hc1.cell 0
  refine callsIn_of_wp Tryz.func74 rfl hf ?_ hro
  simp only [Tryz.ntmps74, List.size_toArray, List.length_cons, List.length_nil, Nat.reduceAdd, Nat.reduceSub, Array.replicate_succ, Array.replicate_zero, List.push_toArray, List.append_toArray, List.nil_append, List.cons_append]
  gi_wp2
  gi_loopw [3] (fun i wr => ∃ k : Nat, k ≤ n ∧ i = .int .i64 ((n : Int) - 1 - (k : Int)) ∧ J (List.range k) wr ∧ Blk wr c1 82 #[.slice A n cap] ∧ ∀ j u, xs[j]? = some u → wr.cell? ⟨r, j, none⟩ = some u)
    (fun i _ => (intOf i + 1).toNat)
  case atStart => exact ⟨0, Nat.zero_le _, by simp, hJ, hc1, hrow⟩
  case round =>
    clear hc1 hJ hrow c1W
    obtain ⟨k, hk, rfl, hJs, hb1, hrow⟩ := hrel
    have x1 : wr.cell? ⟨c1, 0, none⟩ = some (.slice A n cap) := hb1.cell 0
    by_cases hlt : k < n
    · have hyy := hY _ k wr hJs (by rw [List.length_range]; exact hlt)
      have eA := hA (by omega)
      subst eA
      obtain ⟨y, hy⟩ : ∃ y, y = n - 1 - k := ⟨_, rfl⟩
      have hya : backAt n k = y := by unfold backAt; omega
      unfold backEnc at hyy
      rw [hya] at hyy
      have e1 : (n : Int) - 1 - (k : Int) = (y : Int) := by omega
      have hu1 : y * 2 < xs.length := by omega
      have hu2 : y * 2 + 1 < xs.length := by omega
      have d1 := hrow (y * 2) _ (List.getElem?_eq_getElem hu1)
      have d2 := hrow (y * 2 + 1) _ (List.getElem?_eq_getElem hu2)
      rw [List.getD_eq_getElem?_getD, List.getD_eq_getElem?_getD, List.getElem?_eq_getElem hu1, List.getElem?_eq_getElem hu2, Option.getD_some, Option.getD_some] at hyy
      generalize xs[y * 2] = u1 at *
      generalize xs[y * 2 + 1] = u2 at *
      rw [e1]
      obtain ⟨fn, tmps, assign, body, hy2, hR⟩ := hyy
      have HE1 := Lib.hid e1
      have HY := Lib.hid hy
      have HYA := Lib.hid hya
      clear e1 hy hya
      have iy : (y : Int) < n := by have := HY.out; omega
      have jy : (0 : Int) ≤ (y : Int) := by omega
      gi_wp2
      refine hR.mono ?_
      rintro e W3 (⟨rfl, hJ3, hk3⟩ | ⟨rfl, hJx3⟩)
      · have y1 : Blk W3 c1 82 _ := hk3.1.trans hb1
        have hrow3 : ∀ j u, xs[j]? = some u → W3.cell? ⟨r, j, none⟩ = some u := fun j u hu => (World.cell?_of_block (a := ⟨r, j, none⟩) hk3.2).trans (hrow j u hu)
        clear hR hy2 hY
        gi_wp2
        go_roundw
        case rel => exact ⟨k + 1, by omega, by have := HE1.out; go_num, by rw [List.range_succ]; exact hJ3, y1, hrow3⟩
        case measure => have := HE1.out; simp [intOf] <;> omega
      · gi_wp2
        refine bodyPost_ret (results_none rfl _ _ _) rfl ?_
        exact ⟨⟨_, rfl⟩, .inr ⟨_, ⟨k + 1, by omega, List.range_succ.symm⟩, hJx3⟩⟩
    · have hkk : k = n := by omega
      have hneg : ¬ (0 : Int) ≤ (n : Int) - 1 - (k : Int) := by omega
      have HK := Lib.hid hkk
      clear hkk hlt hk
      gi_wp2
      go_end0
      rw [HK.out] at hJs
      first
      | exact ⟨⟨_, rfl⟩, .inl ⟨_, rfl, hJs⟩⟩
      | exact ⟨⟨_, rfl⟩, .inl hJs⟩
/-- slices.Backward itself: the slice is boxed. -/
theorem back_any (F : Fence) (d : Nat) (hf : F.fn 42) (hro : F.round = none) (A : Option Addr) (n c : Nat) (w : World) :
    CallsIn F d Tryz.prog 42 #[.slice A n c] w fun e w' => e = .returned (.func (.func 74) #[] #[.pointer (some ⟨w.heap.size, 0, none⟩)]) ∧
      Blk w' w.heap.size 82 #[.slice A n c] ∧ w'.heap.size = w.heap.size + 1 ∧ Below w.heap.size w w' := by
  refine callsIn_of_wp Tryz.func42 rfl hf ?_ hro
  simp only [Tryz.ntmps42, List.size_toArray, List.length_cons, List.length_nil, Nat.reduceAdd, Nat.reduceSub, Array.replicate_succ, Array.replicate_zero, List.push_toArray, List.append_toArray, List.nil_append, List.cons_append]
  gi_wp2
  go_ret
  exact ⟨rfl, heap_alloc_new w _, by simp, (Below.refl _ _).alloc (Nat.le_refl _) _⟩
/-- What slices.Backward hands back, as an iterator. -/
theorem back_stops (F : Fence) (d : Nat) (hf : F.fn 74) (hro : F.round = none) (hd : 1 ≤ d) (c1 r : Nat) (A : Option Addr) (n cap : Nat) (xs : List Value) (hA : 0 < n → A = some ⟨r, 0, none⟩) (hxl : xs.length = n * 2) (hcap : n ≤ 140737488351232) (w : World)
    (hc1 : Blk w c1 82 #[.slice A n cap]) (hr : r < w.heap.size) (hrow : ∀ j u, xs[j]? = some u → w.cell? ⟨r, j, none⟩ = some u) :
    SeqStopsK F d Tryz.prog 74 #[.pointer (some ⟨c1, 0, none⟩)] (backEnc xs n) (KeepTwo c1 r) (fun ys => ys = List.range n) (fun pre => ∃ k, k ≤ n ∧ pre = List.range k) n w := fun l J Jx W hW hJ _ hY hJ0 => by
  exact back1_in F d hf hro hd l c1 r A n cap xs hA hxl hcap J Jx _ hJ hY W (hc1.below hW hc1.lt) (fun j u hu => (hW.cell (p := ⟨r, j, none⟩) hr).trans (hrow j u hu)) hJ0
end Go.Proofs.YtkhebllmnagkmaaGreatDoor
