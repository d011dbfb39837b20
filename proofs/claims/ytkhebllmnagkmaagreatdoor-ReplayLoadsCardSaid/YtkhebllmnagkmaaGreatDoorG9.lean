/- Contracts and lemmas under the statements of this seat, one behind the other. Conditions: what each names. -/
import Derived.Test.YtkhebllmnagkmaaGreatDoorG8
/- Contract of journal.Link. Conditions: what each names. -/
namespace Go.Proofs.YtkhebllmnagkmaaGreatDoor
open Go.RowKit
set_option linter.unusedVariables false

def linkB (tag : List UInt8) (place : Nat) (slot : List UInt8) : List UInt8 := sha256 ([255] ++ tag ++ putB place 4 ++ slot)
theorem linkB_length (tag : List UInt8) (place : Nat) (slot : List UInt8) : (linkB tag place slot).length = 32 := sha256_length _
theorem pieces4_new (tag slot p4 : List UInt8) (A : Option Addr) (c : Nat) (ht : tag.length = 32) (hp : p4.length = 4) (hs : slot.length = 192) (W : World) (g1 g2 g3 : Nat) (r1 : Reads W W.heap.size 1 (some ⟨g1, 0, none⟩) 1 (bs [255]))
    (r2 : Reads W W.heap.size 1 (some ⟨g2, 0, none⟩) 32 (bs tag)) (r3 : Reads W W.heap.size 1 (some ⟨g3, 0, none⟩) 4 (bs p4)) (r4 : Reads W W.heap.size 1 A 192 (bs slot)) (hT : Tabs W) :
    Calls Tryz.prog 44 #[.slice (some ⟨W.heap.size, 0, none⟩) 4 4] (W.alloc (.cells #[.slice (some ⟨g1, 0, none⟩) 1 1, .slice (some ⟨g2, 0, none⟩) 32 32, .slice (some ⟨g3, 0, none⟩) 4 4, .slice A 192 c] 55)) fun e w' =>
      e = .returned (.agg (bs (sha256 ([255] ++ tag ++ p4 ++ slot))).toArray) ∧ Below (W.heap.size + 1) (W.alloc (.cells #[.slice (some ⟨g1, 0, none⟩) 1 1, .slice (some ⟨g2, 0, none⟩) 32 32, .slice (some ⟨g3, 0, none⟩) 4 4, .slice A 192 c] 55)) w' := by
  have hb : Blk (W.alloc (.cells ([Value.slice (some ⟨g1, 0, none⟩) 1 1, .slice (some ⟨g2, 0, none⟩) 32 32, .slice (some ⟨g3, 0, none⟩) 4 4, .slice A 192 c]).toArray 55)) W.heap.size 55 ([Value.slice (some ⟨g1, 0, none⟩) 1 1, .slice (some ⟨g2, 0, none⟩) 32 32, .slice (some ⟨g3, 0, none⟩) 4 4, .slice A 192 c]).toArray := Blk.new _ _ _
  have hr := hb.row
  have up : ∀ {A' n xs}, Reads W W.heap.size 1 A' n xs → Reads (W.alloc (.cells ([Value.slice (some ⟨g1, 0, none⟩) 1 1, .slice (some ⟨g2, 0, none⟩) 32 32, .slice (some ⟨g3, 0, none⟩) 4 4, .slice A 192 c]).toArray 55)) (W.alloc (.cells ([Value.slice (some ⟨g1, 0, none⟩) 1 1, .slice (some ⟨g2, 0, none⟩) 32 32, .slice (some ⟨g3, 0, none⟩) 4 4, .slice A 192 c]).toArray 55)).heap.size 1 A' n xs := fun h => (h.alloc (Nat.le_refl _) _).more (by simp)
  have hz : (W.alloc (.cells ([Value.slice (some ⟨g1, 0, none⟩) 1 1, .slice (some ⟨g2, 0, none⟩) 32 32, .slice (some ⟨g3, 0, none⟩) 4 4, .slice A 192 c]).toArray 55)).heap.size = W.heap.size + 1 := by simp
  have hps : ([((some ⟨g1, 0, none⟩ : Option Addr), 1, [255]), (some ⟨g2, 0, none⟩, 32, tag), (some ⟨g3, 0, none⟩, 4, p4), (A, c, slot)] : List (Option Addr × Nat × List UInt8)).map partV = [Value.slice (some ⟨g1, 0, none⟩) 1 1, .slice (some ⟨g2, 0, none⟩) 32 32, .slice (some ⟨g3, 0, none⟩) 4 4, .slice A 192 c] := by simp [partV, ht, hp, hs]
  have h := pieces_any (some ⟨W.heap.size, 0, none⟩) 4 [((some ⟨g1, 0, none⟩ : Option Addr), 1, [255]), (some ⟨g2, 0, none⟩, 32, tag), (some ⟨g3, 0, none⟩, 4, p4), (A, c, slot)] _ (by rw [hps]; exact hr) (by
    intro p hpm
    simp only [List.mem_cons, List.not_mem_nil, or_false] at hpm
    rcases hpm with rfl | rfl | rfl | rfl
    · exact up r1
    · simp only [ht]; exact up r2
    · simp only [hp]; exact up r3
    · simp only [hs]; exact up r4) (by simp [cat, ht, hp, hs]) (by simp) (hT.alloc _)
  rw [show cat [((some ⟨g1, 0, none⟩ : Option Addr), 1, [255]), (some ⟨g2, 0, none⟩, 32, tag), (some ⟨g3, 0, none⟩, 4, p4), (A, c, slot)] = [255] ++ tag ++ p4 ++ slot from by simp [cat], hz] at h
  exact h
theorem grownBy_setCells (g : Nat) : ∀ (vs : List Value) (o : Nat) {a w : World}, a.grownBy w (some g) → a.grownBy (w.setCells g o vs) (some g)
  | [], _, _, _, h => h
  | v :: r, o, _, _, h => grownBy_setCells g r (o + 1) (only_setCell h (p := ⟨g, o, none⟩) (.inl rfl) v)
theorem Blk.put {g : Nat} {t : TypeId} : ∀ (vs pre old post : List Value) (w : World), old.length = vs.length → Blk w g t (pre ++ (old ++ post)).toArray → Blk (w.setCells g pre.length vs) g t (pre ++ (vs ++ post)).toArray
  | [], pre, old, post, w, hl, h => by
    have : old = [] := List.eq_nil_of_length_eq_zero hl
    subst this
    exact h
  | v :: r, pre, old, post, w, hl, h => by
    cases old with
    | nil => cases hl
    | cons o old' =>
      have h1 := h.set_ pre.length v
      rw [List.setIfInBounds_toArray, List.set_append_right _ _ (Nat.le_refl _), Nat.sub_self] at h1
      have h2 := Blk.put (g := g) (t := t) r (pre ++ [v]) old' post (w.setCell ⟨g, pre.length, none⟩ v) (by simpa using hl) (by simpa using h1)
      rw [List.length_append, List.length_singleton] at h2
      show Blk ((w.setCell ⟨g, pre.length, none⟩ v).setCells g (pre.length + 1) r) g t _
      simpa using h2
theorem Blk.there {w : World} {g : Nat} {t : TypeId} {cs : Array Value} {n : Nat} (h : Blk w g t cs) (hn : n ≤ cs.size) : w.there g 0 n := fun j hj => by
  rw [Nat.zero_add]
  exact ⟨by rw [h.cell j, Array.getElem?_eq_getElem (by omega)]; rfl, h.frozen j⟩
set_option maxRecDepth 100000 in
set_option maxHeartbeats 4000000 in
theorem link_any (tag slot : List UInt8) (place : Nat) (A : Option Addr) (c : Nat) (w : World) (ht : tag.length = 32) (hp : place < 4294967296) (hr : Reads w w.heap.size 1 A 192 (bs slot)) (hT : Tabs w) :
    Calls Tryz.prog 16 #[.agg (bs tag).toArray, .int .u32 (place : Int), .slice A 192 c] w fun e w' => e = .returned (.agg (bs (linkB tag place slot)).toArray) ∧ Below w.heap.size w w' := by
  have hs : slot.length = 192 := by have := hr.1; rw [bs_length] at this; omega
  have hpie := fun W g1 g2 g3 => pieces4_new tag slot (putB place 4) A c ht (putB_length _ _) hs W g1 g2 g3
  have hput : ∀ W, Calls Tryz.prog 45 #[.int .u64 (place : Int), .int .i64 4] W fun e w' => e = .returned (.slice (some ⟨W.heap.size, 0, none⟩) 4 4) ∧ Reads w' w'.heap.size 1 (some ⟨W.heap.size, 0, none⟩) 4 (bs (putB place 4)) ∧ Below W.heap.size W w' := fun W => (wput_bs place 4 W (by omega) (by omega) (by omega)).mono fun e w' h => ⟨h.1, by have h2 := h.2.1.reads; rw [putB_length] at h2; exact h2, h.2.2.2⟩
  have hfin : sha256 ([255] ++ tag ++ putB place 4 ++ slot) = linkB tag place slot := rfl
  rw [hfin] at hpie
  generalize putB place 4 = p4 at *
  have hll := linkB_length tag place slot
  have hones := bs_one (l := linkB tag place slot)
  generalize linkB tag place slot = lk at *
  obtain ⟨W0, hW0⟩ : ∃ W0 : World, W0 = (w.alloc (.cells (bs tag).toArray 23)).alloc (.cells (bs (List.replicate 32 0)).toArray 23) := ⟨_, rfl⟩
  have y0 : Below w.heap.size w W0.drew := by rw [hW0]; exact (((Below.refl _ _).alloc (Nat.le_refl _) _).alloc (by simp) _).drew
  have hs0 : W0.heap.size = w.heap.size + 2 := by rw [hW0]; simp
  have kt : Blk W0.drew w.heap.size 23 (bs tag).toArray := by rw [hW0]; exact ((Blk.new_of rfl rfl).alloc _).drew
  have kz : Blk W0.drew (w.heap.size + 1) 23 (bs (List.replicate 32 0)).toArray := by rw [hW0]; exact (Blk.new_of (by simp) rfl).drew
  have rt := kt.reads
  rw [ht] at rt
  have rs : Reads W0.drew W0.drew.heap.size 1 A 192 (bs slot) := (hr.below y0).more y0.size
  have hT0 : Tabs W0.drew := hT.under y0
  have HW0 := Lib.hid hW0
  have HF := Lib.hid hfin
  have HL := Lib.hid hll
  have HS0 := Lib.hid hs0
  have hu39 := Tryz.underlying23
  have hi39 : (Tryz.prog.info? 23).map (·.size) = some (bs lk).length := by rw [bs_length, hll]; kernel_rfl
  have HI := Lib.hid hi39
  have Ht := Lib.hid ht
  have Hs := Lib.hid hs
  clear hW0 hfin hll hs0 hi39 ht hs hr hT
  go_enter Tryz.func16, Tryz.ntmps16
  go_wp2
  rw [show ((w.alloc (.cells (bs tag).toArray 23)).alloc (.cells #[.int .u8 0, .int .u8 0, .int .u8 0, .int .u8 0, .int .u8 0, .int .u8 0, .int .u8 0, .int .u8 0, .int .u8 0, .int .u8 0, .int .u8 0, .int .u8 0, .int .u8 0, .int .u8 0, .int .u8 0, .int .u8 0, .int .u8 0, .int .u8 0, .int .u8 0, .int .u8 0, .int .u8 0, .int .u8 0, .int .u8 0, .int .u8 0, .int .u8 0, .int .u8 0, .int .u8 0, .int .u8 0, .int .u8 0, .int .u8 0, .int .u8 0, .int .u8 0] 23)) = W0 from HW0.out.symm]
  have tz : ∀ {W : World}, Blk W (w.heap.size + 1) 23 (bs (List.replicate 32 0)).toArray → W.there (w.heap.size + 1) 0 (bs lk).length := fun h => h.there (by rw [bs_length, HL.out]; simp [bs_length])
  have t0 := tz kz
  obtain ⟨Wa, hWa⟩ : ∃ Wa : World, Wa = (W0.alloc (.cells #[.int .u8 255] 5)).drew := ⟨_, rfl⟩
  have bWa : Below W0.drew.heap.size W0.drew Wa := by rw [hWa]; exact (Below.refl _ W0.drew).alloc (Nat.le_refl _) _
  have ka : Blk Wa W0.heap.size 5 (bs [255]).toArray := by rw [hWa]; exact (Blk.new_of rfl rfl).drew
  have ra1 := ka.reads
  have ra2 := (rt.below bWa).more bWa.size
  have ra4 := (rs.below bWa).more bWa.size
  have kza := kz.below bWa kz.lt
  have ta := tz kza
  have hTa := hT0.under bWa
  have ya : Below w.heap.size w Wa := y0.trans (bWa.mono y0.size)
  have HWa := Lib.hid hWa
  have hi39 := HI.out
  have hw64 : IntKind.u64.wrap (place : Int) = (place : Int) := by rw [IntKind.wrap_u64]; omega
  have hsA : ((W0.alloc (.cells #[.int .u8 255] 5)).drew).heap.size = W0.heap.size + 1 := size_alloc' _ _
  have HSA := Lib.hid hsA
  have hpieB : ∀ (w1 : World) (g1 g2 g3 : Nat), _ := fun w1 g1 g2 g3 => hpie (w1.alloc (.cells #[.int .u8 255] 5)) g1 g2 g3
  simp only [size_alloc'] at hpieB
  have hL1 : bs [(255 : UInt8)] = [Value.int .u8 255] := rfl
  clear hWa hsA hu39
  have hu39 := Tryz.underlying23
  go_region_held3 (fun w' => w'.there (w.heap.size + 1) 0 (bs lk).length) (first | (exact t0) | (rw [← HWa.out]; exact ta) | (exact t1) | (exact World.there_alloc t1 _) | (exact World.there_alloc (World.there_alloc t1 _) _) | (exact t5) | (exact World.there_setCells t5 _ _ _)) (first | (go_at_call 45; with_reducible refine (hput _).mono ?_; rintro e w1 ⟨rfl, k1, b1⟩; first | (rw [HSA.out] at k1; rw [← HWa.out] at b1; have kz1 := kza.below b1 kza.lt; have t1 := tz kz1; have rA1 := (ra1.below b1).more b1.size; have rA2 := (ra2.below b1).more b1.size; have rA4 := (ra4.below b1).more b1.size; have hTA := hTa.under b1; have y1 := ya.trans (b1.mono ya.size)) | (have kz1 := kz.below b1 kz.lt; have t1 := tz kz1; have rB1 := ((Blk.new w1 5 (bs [255]).toArray).reads.more (Nat.le_of_eq (size_alloc' _ _))); have rB2 := ((((rt.below b1).more b1.size).alloc (Nat.le_refl _) (.cells #[.int .u8 255] 5)).more (Nat.le_succ _)); have rB3 := ((k1.alloc (Nat.le_refl _) (.cells #[.int .u8 255] 5)).more (Nat.le_succ _)); have rB4 := ((((rs.below b1).more b1.size).alloc (Nat.le_refl _) (.cells #[.int .u8 255] 5)).more (Nat.le_succ _)); have hTB := (hT0.under b1).alloc (.cells #[.int .u8 255] 5); have y1 := y0.trans (b1.mono y0.size))) | (go_at_call 44; first | (refine (hpie w1 _ _ _ rA1 rA2 k1 rA4 hTA).mono ?_; rintro e w5 ⟨rfl, b5⟩; have kz5 := (kz1.alloc _).below b5 (Nat.lt_succ_of_lt kz1.lt); have t5 := tz kz5; have y5 := (y1.alloc y1.size _).trans (b5.mono (Nat.le_succ_of_le y1.size))) | (refine (hpieB w1 _ _ _ rB1 rB2 rB3 rB4 hTB).mono ?_; rintro e w5 ⟨rfl, b5⟩; have kz5 := ((kz1.alloc _).alloc _).below b5 (Nat.lt_succ_of_lt (Nat.lt_succ_of_lt kz1.lt)); have t5 := tz kz5; have y5 := ((y1.alloc y1.size _).alloc (Nat.le_trans y1.size (Nat.le_of_lt (by simp))) _).trans (b5.mono (Nat.le_succ_of_le (Nat.le_succ_of_le y1.size))))))
  all_goals
    have kF : Blk (w5.setCells (w.heap.size + 1) 0 (bs lk)) (w.heap.size + 1) 23 (bs lk).toArray := by
      have h := Blk.put (bs lk) [] (bs (List.replicate 32 0)) [] w5 (by rw [bs_length, bs_length, HL.out, List.length_replicate]) (by simpa using kz5)
      simpa using h
    have gF : w5.grownBy (w5.setCells (w.heap.size + 1) 0 (bs lk)) (some (w.heap.size + 1)) := grownBy_setCells _ _ _ (World.grownBy.refl _ _)
    clear hpie hpieB hput hw64 hL1
    go_wp2
    exact ret_cell 6 23 rfl rfl (w.heap.size + 1) 23 _ _ rfl kF Tryz.underlying23 rfl (by rw [List.size_toArray]; exact hi39) ⟨rfl, y5.grown gF y5.size (fun k e => by injection e with e; omega)⟩
end Go.Proofs.YtkhebllmnagkmaaGreatDoor
/- Contract of slices.DeleteFunc at writes under way, those to one place struck. Conditions: what each names. -/
namespace Go.Proofs.YtkhebllmnagkmaaGreatDoor
open Go.RowKit
set_option linter.unusedVariables false

theorem tdel_any (gb i s n c : Nat) (A : Option Addr) (w : World) (hb : w.cell? ⟨gb, 0, none⟩ = some (.int .i64 (i : Int))) :
    Calls Tryz.prog 56 #[.agg #[.int .i64 (s : Int), .slice A n c], .pointer (some ⟨gb, 0, none⟩)] w fun e w' => e = .returned (.bool (s == i)) ∧ Below w.heap.size w w' := by
  have hB : gb < w.heap.size := World.block_lt_of_cell? w ⟨gb, 0, none⟩ hb
  have b0 : Below w.heap.size w (w.alloc (.cells #[.int .i64 (s : Int), .slice A n c] 116)) := (Below.refl _ _).alloc (Nat.le_refl _) _
  have c0 : (w.alloc (.cells #[.int .i64 (s : Int), .slice A n c] 116)).cell? ⟨gb, 0, none⟩ = some (.int .i64 (i : Int)) := (b0.cell (p := ⟨gb, 0, none⟩) hB).trans hb
  have d0 : (w.alloc (.cells #[.int .i64 (s : Int), .slice A n c] 116)).cell? ⟨w.heap.size, 0, none⟩ = some (.int .i64 (s : Int)) := (Blk.new w 116 #[.int .i64 (s : Int), .slice A n c]).cell 0
  clear hb
  go_enter Tryz.func56, Tryz.ntmps56
  go_wp2
  go_ret
  refine ⟨?_, b0⟩
  have e : ((s : Int) == (i : Int)) = (s == i) := by rw [Bool.eq_iff_iff, beq_iff_eq, beq_iff_eq]; omega
  rw [← e]
  rfl
set_option maxRecDepth 100000 in
set_option maxHeartbeats 1000000 in
theorem tindex_any (gb i n c r : Nat) (A : Option Addr) (xu : List Value) (way : List (Nat × List UInt8)) (w : World) (hb : w.cell? ⟨gb, 0, none⟩ = some (.int .i64 (i : Int))) (hA : 0 < n → A = some ⟨r, 0, none⟩) (hr : r < w.heap.size) (hrow : ∀ j u, xu[j]? = some u → w.cell? ⟨r, j, none⟩ = some u)
    (hW : RowW w xu way) (hl : way.length = n) (hn : n ≤ 1048576) :
    Calls Tryz.prog 83 #[.slice A n c, .func (.func 56) #[] #[.pointer (some ⟨gb, 0, none⟩)]] w fun e w' =>
      ((e = .returned (.int .i64 (-1)) ∧ ∀ p ∈ way, p.1 ≠ i) ∨ ∃ k p, k < n ∧ e = .returned (.int .i64 (k : Int)) ∧ way[k]? = some p ∧ p.1 = i ∧ ∀ q ∈ way.take k, q.1 ≠ i) ∧ Below w.heap.size w w' := by
  have eg := enters_of Tryz.func56 (by kernel_rfl) rfl
  have hB : gb < w.heap.size := World.block_lt_of_cell? w ⟨gb, 0, none⟩ hb
  go_enter Tryz.func83, Tryz.ntmps83
  go_wp2
  go_loopw [8] (fun ix wr => ∃ k : Nat, k ≤ n ∧ ix = .int .i64 k ∧ (∀ q ∈ way.take k, q.1 ≠ i) ∧ Below w.heap.size w wr) (fun ix _ => n - (intOf ix).toNat)
  case atStart => exact ⟨0, by omega, rfl, by simp, Below.refl _ _⟩
  case round =>
    obtain ⟨k, hk, rfl, hany, hw⟩ := hrel
    have HA := Lib.hid hany
    clear hany
    by_cases hlt : k < n
    · obtain ⟨p, hp⟩ : ∃ p, way[k]? = some p := ⟨_, List.getElem?_eq_getElem (by omega)⟩
      obtain ⟨u0, v, u1, A', c', hv, _⟩ := hW k p hp
      subst hv
      have hAe := hA (by omega)
      subst hAe
      have d0 : wr.cell? ⟨r, k * 2, none⟩ = some (.int .i64 (p.1 : Int)) := (hw.cell (p := ⟨r, k * 2, none⟩) hr).trans (hrow _ _ (by rw [Nat.mul_comm]; exact u0))
      have d1 : wr.cell? ⟨r, k * 2 + 1, none⟩ = some (.slice A' p.2.length c') := (hw.cell (p := ⟨r, k * 2 + 1, none⟩) hr).trans (hrow _ _ (by rw [Nat.mul_comm]; exact u1))
      have hbw : wr.cell? ⟨gb, 0, none⟩ = some (.int .i64 (i : Int)) := (hw.cell (p := ⟨gb, 0, none⟩) hB).trans hb
      clear u0 u1 hrow hA hb
      have HP := Lib.hid hp
      have HWW := Lib.hid hW
      clear hp hW
      by_cases hpi : p.1 = i
      · have HI := Lib.hid hpi
        have hq : (p.1 == i) = true := by simp [hpi]
        have HQ := Lib.hid hq
        clear hpi hq
        go_wp2_with (refine (tdel_any gb i p.1 p.2.length c' A' _ hbw).mono ?_; rintro e w2 ⟨rfl, b2⟩; rw [HQ.out])
        go_ret
        exact ⟨.inr ⟨k, p, hlt, rfl, HP.out, HI.out, HA.out⟩, hw.trans (b2.mono hw.size)⟩
      · have hq : (p.1 == i) = false := by simp [hpi]
        have HQ := Lib.hid hq
        have HI := Lib.hid hpi
        clear hpi hq
        go_wp2_with (refine (tdel_any gb i p.1 p.2.length c' A' _ hbw).mono ?_; rintro e w2 ⟨rfl, b2⟩; rw [HQ.out])
        go_roundw
        case rel => exact ⟨k + 1, by omega, by go_num, by
          intro q hq
          rw [List.take_add_one, HP.out] at hq
          rcases List.mem_append.1 hq with hq | hq
          · exact HA.out q hq
          · simp at hq; rw [hq]; exact HI.out, hw.trans (b2.mono hw.size)⟩
        case measure => simp [intOf]; omega
    · have hkk : k = n := by omega
      have HK := Lib.hid hkk
      have hps : n ≤ k := by omega
      clear hlt hk hkk
      go_wp2
      go_ret
      exact ⟨.inl ⟨rfl, by have h := HA.out; rw [HK.out, ← hl, List.take_length] at h; exact h⟩, hw⟩
theorem run_clear_row (P : Program) (w : World) (t e ty : TypeId) (z : Value) (ht : P.underlying t = some (.slice e)) (hv : ∀ w, (zeroValue e).run P w = .ok z w) (b o n c : Nat) (hn : 0 < n) (h1 : ∀ v ∈ (Builtin.zeroCells z.cells n).toList, v.oneCell' = true)
    (hc : ∀ j, j < (Builtin.zeroCells z.cells n).toList.length → (w.cell? ⟨b, o + j, none⟩).isSome = true) (hf : ∀ j, j < (Builtin.zeroCells z.cells n).toList.length → w.frozen? ⟨b, o + j, none⟩ = false) :
    (Builtin.clear_ #[t] ty #[.slice (some ⟨b, o, none⟩) n c]).run P w = .ok (.tuple #[]) (w.setCells b o (Builtin.zeroCells z.cells n).toList) := by
  have hst := run_storeCells_cells (P := P) b o (Builtin.zeroCells z.cells n).toList 0 w (by simpa using hc) (by simpa using hf) h1
  simp only [Nat.add_zero] at hst
  obtain ⟨m, rfl⟩ : ∃ m, n = m + 1 := ⟨n - 1, by omega⟩
  simp [Builtin.clear_, run_underlying ht, hv, hst]
def wzero : Value := .agg #[.int .i64 0, .slice none 0 0]
theorem wzero_len (n : Nat) : (Builtin.zeroCells wzero.cells n).toList.length = n * 2 := by
  simp [Builtin.zeroCells, wzero, Value.cells]
theorem wzero_one (n : Nat) : ∀ v ∈ (Builtin.zeroCells wzero.cells n).toList, v.oneCell' = true := by
  intro v hv
  simp only [Builtin.zeroCells, wzero, Value.cells] at hv
  obtain ⟨k, hk, e⟩ := List.getElem_of_mem hv
  simp at e
  rw [← e]
  rcases Nat.mod_two_eq_zero_or_one k with h | h <;> simp [h, Value.oneCell']
theorem zeroW (w : World) : (zeroValue 116).run Tryz.prog w = .ok wzero w := by
  obtain ⟨i0, hi, hz0, hz1, hz2⟩ := info_parts info103
  simp [zeroValue, typeInfo, hi, hz0, wzero]
theorem own_take {w : World} {base : Nat} {e : TypeId} {size n g c : Nat} {xs : List Value} (h : w.ownsRow base e size (.slice (some ⟨g, 0, none⟩) n c) n xs) (k : Nat) (hk : k ≤ n) : w.ownsRow base e size (.slice (some ⟨g, 0, none⟩) k c) k (xs.take (k * size)) := by
  rcases h.2 with ⟨h', _⟩ | ⟨g', cap', cur, h', hb, hg, hnc, hcm, hcs, htake⟩
  · simp at h'
  · simp only [Value.slice.injEq, Option.some.injEq, Addr.mk.injEq, and_true, true_and] at h'
    obtain ⟨rfl, rfl⟩ := h'
    have hm : k * size ≤ n * size := Nat.mul_le_mul_right _ hk
    exact ⟨by rw [List.length_take, h.1]; exact Nat.min_eq_left hm, .inr ⟨g, c, cur, rfl, hb, hg, by omega, hcm, hcs, by rw [← htake, List.take_take, Nat.min_eq_left hm]⟩⟩
theorem own_setCells {base : Nat} {e : TypeId} {size n g c : Nat} : ∀ (vs : List Value) (o : Nat) {w : World} {xs : List Value}, w.ownsRow base e size (.slice (some ⟨g, 0, none⟩) n c) n xs → ∃ ys, (w.setCells g o vs).ownsRow base e size (.slice (some ⟨g, 0, none⟩) n c) n ys ∧ ∀ t, t < o → ys[t]? = xs[t]?
  | [], _, _, xs, h => ⟨xs, h, fun _ _ => rfl⟩
  | v :: r, o, w, xs, h => by
    obtain ⟨ys, h1, h2⟩ := own_setCells r (o + 1) (World.ownsRow.stored h o v).1
    exact ⟨ys, h1, fun t ht => (h2 t (by omega)).trans (by rw [List.getElem?_set, if_neg (by omega)])⟩
theorem RowW.putAt {w : World} {ys : List Value} {l : List (Nat × List UInt8)} {i k : Nat} {v : Value} {b : List UInt8} (h : RowW w ys l) (hl : k = l.length) (h2 : k * 2 + 1 < ys.length) (hs : IsSl w v b) : RowW w ((ys.set (k * 2) (.int .i64 (i : Int))).set (k * 2 + 1) v) (l ++ [(i, b)]) := by
  intro j p hp
  rw [List.getElem?_append] at hp
  split at hp
  · obtain ⟨h0, u, h1, h3⟩ := h j p hp
    refine ⟨?_, u, ?_, h3⟩
    · rw [List.getElem?_set, if_neg (by omega), List.getElem?_set, if_neg (by omega)]; exact h0
    · rw [List.getElem?_set, if_neg (by omega), List.getElem?_set, if_neg (by omega)]; exact h1
  · have hi : j = l.length := by
      rcases Nat.lt_or_ge (j - l.length) 1 with h1 | h1
      · omega
      · rw [List.getElem?_eq_none (by simp; omega)] at hp; cases hp
    subst hi
    rw [Nat.sub_self] at hp
    cases hp
    refine ⟨?_, v, ?_, hs⟩
    · rw [show 2 * l.length = k * 2 by omega, List.getElem?_set, if_neg (by omega), List.getElem?_set, if_pos rfl, if_pos (by omega)]
    · rw [show 2 * l.length + 1 = k * 2 + 1 by omega, List.getElem?_set, if_pos rfl, if_pos (by rw [List.length_set]; omega)]
set_option maxRecDepth 100000 in
set_option maxHeartbeats 2000000 in
theorem ddel_any (gb i n c r : Nat) (xu : List Value) (way : List (Nat × List UInt8)) (w : World) (hb : w.cell? ⟨gb, 0, none⟩ = some (.int .i64 (i : Int))) (hne : gb ≠ r) (ho : w.ownsRow 0 116 2 (.slice (some ⟨r, 0, none⟩) n c) n xu) (hW : RowW w xu way) (hl : way.length = n) (hn : n ≤ 1048576) :
    Calls Tryz.prog 55 #[.slice (some ⟨r, 0, none⟩) n c, .func (.func 56) #[] #[.pointer (some ⟨gb, 0, none⟩)]] w fun e w' =>
      ∃ xu', e = .returned (.slice (some ⟨r, 0, none⟩) (way.filter fun p => p.1 != i).length c) ∧ w'.ownsRow 0 116 2 (.slice (some ⟨r, 0, none⟩) (way.filter fun p => p.1 != i).length c) (way.filter fun p => p.1 != i).length xu' ∧ RowW w' xu' (way.filter fun p => p.1 != i) ∧ w.grownBy w' (some r) := by
  have kr : Kind w r 116 := own_kind ho rfl
  have hrl := kr.lt
  have hBl : gb < w.heap.size := World.block_lt_of_cell? w ⟨gb, 0, none⟩ hb
  have hix := tindex_any gb i n c r (some ⟨r, 0, none⟩) xu way w hb (fun _ => rfl) hrl (fun j u hu => by have h := World.ownsRow.cells ho (g := r) rfl j u hu; rwa [add_head] at h) hW hl hn
  have HO := Lib.hid ho
  have HW := Lib.hid hW
  go_enter Tryz.func55, Tryz.ntmps55
  go_wp2_with (go_at_call 83; refine hix.mono ?_; rintro e w1 ⟨(⟨rfl, hno⟩ | ⟨k0, p0, hk0, rfl, hp0, hpi, hbef⟩), b1⟩)
  · have hall : (way.filter fun p => p.1 != i) = way := List.filter_eq_self.2 fun p hp => by simpa using hno p hp
    have HALL := Lib.hid hall
    clear hall
    go_ret
    rw [HALL.out]
    refine ⟨xu, by rw [hl]; rfl, ?_, HW.out.keep b1.size fun k hk => b1.block k hk.lt, grown_of_below b1 _⟩
    rw [hl]
    exact own_keep HO.out fun k e => by injection e with e; subst e; exact b1.block _ hrl
  · have HP0 := Lib.hid hp0
    have HPI := Lib.hid hpi
    have HBE := Lib.hid hbef
    simp only [show ((k0 : Int) == -1) = false from beq_eq_false_iff_ne.2 (by omega)]
    clear hp0 hpi hbef hix hW ho
    go_loopw [5, 6] (fun vi vj wr => ∃ (ii jj : Nat) (ys : List Value), ii < jj ∧ jj ≤ n ∧ vi = .int .i64 (ii : Int) ∧ vj = .int .i64 (jj : Int) ∧ wr.ownsRow 0 116 2 (.slice (some ⟨r, 0, none⟩) n c) n ys ∧ RowW wr ys ((way.take jj).filter fun p => p.1 != i) ∧ ii = ((way.take jj).filter fun p => p.1 != i).length ∧ (∀ t, 2 * jj ≤ t → ys[t]? = xu[t]?) ∧ w.grownBy wr (some r)) (fun _ vj _ => n - (intOf vj).toNat)
    case atStart =>
      have hk : ((way.take (k0 + 1)).filter fun p => p.1 != i) = way.take k0 := by
        rw [List.take_add_one, HP0.out, List.filter_append, List.filter_eq_self.2 (fun p hp => by simpa using HBE.out p hp)]
        simp [HPI.out]
      refine ⟨k0, k0 + 1, xu, by omega, by omega, rfl, by go_num, own_keep HO.out fun k e => by injection e with e; subst e; exact b1.block _ hrl, ?_, by rw [hk, List.length_take]; omega, fun t _ => rfl, grown_of_below b1 _⟩
      rw [hk]
      intro j p hp
      obtain ⟨h0, v, h1, h2⟩ := HW.out j p (by rw [List.getElem?_take] at hp; split at hp; exact hp; cases hp)
      exact ⟨h0, v, h1, h2.keep b1.size fun k hk => b1.block k hk.lt⟩
    case round =>
      obtain ⟨ii, jj, ys, hij, hjn, rfl, rfl, hoy, hry, hil, htl, hgr⟩ := hrel
      have HRY := Lib.hid hry
      have HIL := Lib.hid hil
      have HTL := Lib.hid htl
      have HOY := Lib.hid hoy
      have hyl : ys.length = n * 2 := hoy.1
      have krw : Kind wr r 116 := own_kind hoy rfl
      have hbw : wr.cell? ⟨gb, 0, none⟩ = some (.int .i64 (i : Int)) := (hgr.cell_far ⟨gb, 0, none⟩ hBl (by intro e; injection e with e; exact hne e)).trans hb
      by_cases hlt : jj < n
      · obtain ⟨p, hp⟩ : ∃ p, way[jj]? = some p := ⟨_, List.getElem?_eq_getElem (by omega)⟩
        obtain ⟨u0, v, u1, hsl⟩ := HW.out jj p hp
        have hslw := hsl.grown hgr (fun k e _ hk => by injection e with e; subst e; exact absurd (hk.uniq kr) (by decide))
        obtain ⟨A', c', hv, _⟩ := id hsl
        subst hv
        have d0 : wr.cell? ⟨r, jj * 2, none⟩ = some (.int .i64 (p.1 : Int)) := by rw [World.ownsRow.cellAt hoy _ (by omega), htl _ (by omega), Nat.mul_comm]; exact u0
        have d1 : wr.cell? ⟨r, jj * 2 + 1, none⟩ = some (.slice A' p.2.length c') := by rw [World.ownsRow.cellAt hoy _ (by omega), htl _ (by omega), Nat.mul_comm]; exact u1
        have b2 : Below wr.heap.size wr (wr.alloc (.cells #[.int .i64 (p.1 : Int), .slice A' p.2.length c'] 116)) := (Below.refl _ _).alloc (Nat.le_refl _) _
        have kN := Blk.new wr 116 #[.int .i64 (p.1 : Int), .slice A' p.2.length c']
        have hbw2 := (b2.cell (p := ⟨gb, 0, none⟩) (World.block_lt_of_cell? wr ⟨gb, 0, none⟩ hbw)).trans hbw
        obtain ⟨y0, hy0⟩ : ∃ y0, ys[ii * 2]? = some y0 := ⟨_, List.getElem?_eq_getElem (by omega)⟩
        obtain ⟨y1, hy1⟩ : ∃ y1, ys[ii * 2 + 1]? = some y1 := ⟨_, List.getElem?_eq_getElem (by omega)⟩
        have r0 : wr.cell? ⟨r, ii * 2, none⟩ = some y0 := by rw [World.ownsRow.cellAt hoy _ (by omega)]; exact hy0
        have r1 : wr.cell? ⟨r, ii * 2 + 1, none⟩ = some y1 := by rw [World.ownsRow.cellAt hoy _ (by omega)]; exact hy1
        have f0 := World.ownsRow.frozenAt hoy (ii * 2)
        have f1 := World.ownsRow.frozenAt hoy (ii * 2 + 1)
        have hrw := krw.lt
        obtain ⟨w1', hw1'⟩ : ∃ W, W = wr.alloc (.cells #[.int .i64 (p.1 : Int), .slice A' p.2.length c'] 116) := ⟨_, rfl⟩
        have HP := Lib.hid hp
        have HSL := Lib.hid hslw
        have HN := Lib.hid hne
        have hkeep : ((way.take (jj + 1)).filter fun p => p.1 != i) = ((way.take jj).filter fun p => p.1 != i) ++ (if p.1 = i then [] else [p]) := by
          rw [List.take_add_one, hp, List.filter_append]
          by_cases h : p.1 = i <;> simp [h]
        have HKP := Lib.hid hkeep
        clear u0 u1 hsl hslw hp hry hil htl hoy hb hy0 hy1 hkeep hne
        by_cases hpi : p.1 = i
        · have HI := Lib.hid hpi
          have hq : (p.1 == i) = true := by simp [hpi]
          have HQ := Lib.hid hq
          clear hpi hq r0 r1 f0 f1
          go_wp2_with (refine (tdel_any gb i p.1 p.2.length c' A' _ hbw2).mono ?_; rintro e w2 ⟨rfl, b3⟩; rw [HQ.out])
          go_roundw
          case rel =>
            have hk := HKP.out
            rw [if_pos HI.out, List.append_nil] at hk
            have b4 := b2.trans (b3.mono b2.size)
            refine ⟨ii, jj + 1, ys, by omega, by omega, rfl, by go_num, own_keep HOY.out fun k e => by injection e with e; subst e; exact b4.block _ hrw, ?_, by rw [hk]; exact HIL.out, fun t ht => HTL.out t (by omega), hgr.trans (grown_of_below b4 _)⟩
            rw [hk]
            exact HRY.out.keep b4.size fun k hk => b4.block k hk.lt
          case measure => simp [intOf]; omega
        · have HI := Lib.hid hpi
          have hq : (p.1 == i) = false := by simp [hpi]
          have HQ := Lib.hid hq
          clear hpi hq
          go_wp2_with (refine (tdel_any gb i p.1 p.2.length c' A' _ hbw2).mono ?_; rintro e w2 ⟨rfl, b3⟩; rw [HQ.out]; have b4 := b2.trans (b3.mono b2.size); have r0' := (b4.cell (p := ⟨r, ii * 2, none⟩) hrw).trans r0; have r1' := (b4.cell (p := ⟨r, ii * 2 + 1, none⟩) hrw).trans r1; have f0' := (b4.frozen (p := ⟨r, ii * 2, none⟩) hrw).trans f0; have f1' := (b4.frozen (p := ⟨r, ii * 2 + 1, none⟩) hrw).trans f1; have e0 : w2.cell? ⟨wr.heap.size, 0, none⟩ = some (.int .i64 (p.1 : Int)) := (kN.below b3 kN.lt).cell 0; have e1 : w2.cell? ⟨wr.heap.size, 1, none⟩ = some (.slice A' p.2.length c') := (kN.below b3 kN.lt).cell 1; clear r0 r1 f0 f1)
          go_roundw
          case rel =>
            have hk := HKP.out
            rw [if_neg HI.out] at hk
            have hoy2 : w2.ownsRow 0 116 2 (.slice (some ⟨r, 0, none⟩) n c) n ys := own_keep HOY.out fun k e => by injection e with e; subst e; exact b4.block _ hrw
            have S1 := World.ownsRow.stored hoy2 (ii * 2) (.int .i64 (p.1 : Int))
            have S2 := World.ownsRow.stored S1.1 (ii * 2 + 1) (.slice A' p.2.length c')
            have hgw : wr.grownBy _ (some r) := (grown_of_below b4 (some r)).trans (S1.2.trans S2.2)
            have hnu : ∀ k, some r = some k → k < wr.heap.size → ¬ Kind wr k 5 := fun k e _ => by injection e with e; subst e; exact not_u8 krw (by decide)
            refine ⟨ii + 1, jj + 1, _, by omega, by omega, by go_num, by go_num, S2.1, ?_, by rw [hk, List.length_append, ← HIL.out]; rfl, fun t ht => ?_, hgr.trans hgw⟩
            · rw [hk]
              exact (HRY.out.grown hgw hnu).putAt HIL.out (by omega) (HSL.out.grown hgw hnu)
            · rw [List.getElem?_set, if_neg (by omega), List.getElem?_set, if_neg (by omega)]
              exact HTL.out t (by omega)
          case measure => simp [intOf]; omega
      · have hjj : jj = n := by omega
        have htk : way.take jj = way := by rw [hjj]; exact List.take_of_length_le (by omega)
        rw [htk] at hil hry
        have hcl : ∀ ty, (Builtin.clear_ #[82] ty #[.slice (some ⟨r, ii * 2, none⟩) (n - ii) (c - ii)]).run Tryz.prog wr = .ok (.tuple #[]) (wr.setCells r (ii * 2) (Builtin.zeroCells wzero.cells (n - ii)).toList) := fun ty =>
          run_clear_row Tryz.prog wr 82 116 ty wzero Tryz.underlying82 zeroW r (ii * 2) (n - ii) (c - ii) (by omega) (wzero_one _) (fun j hj => by rw [wzero_len] at hj; rw [World.ownsRow.cellAt hoy _ (by omega), List.getElem?_eq_getElem (by omega)]; rfl) (fun j _ => World.ownsRow.frozenAt hoy _)
        generalize (Builtin.zeroCells wzero.cells (n - ii)).toList = zl at hcl
        obtain ⟨zs, hoz, hzt⟩ := own_setCells zl (ii * 2) hoy
        have hgz := grownBy_setCells r zl (ii * 2) hgr
        have hgz2 := grownBy_setCells r zl (ii * 2) (World.grownBy.refl wr (some r))
        have hps : n ≤ jj := by omega
        have HZ := Lib.hid hoz
        have HZT := Lib.hid hzt
        have hcc : n ≤ c := by
          rcases hoy.2 with ⟨h', _⟩ | ⟨g', cap', cur, h', _, _, h3, _⟩
          · simp at h'
          · injection h' with _ _ h4; omega
        have HGZ := Lib.hid hgz
        have HGZ2 := Lib.hid hgz2
        have HI2 := Lib.hid hil
        clear hoz hzt hlt hjn htl hoy hbw htk hgz hgz2 hil
        go_wp2
        go_ret
        have hit := own_take HZ.out ii (by omega)
        rw [← HI2.out]
        refine ⟨_, rfl, hit, ?_, HGZ.out⟩
        intro j p hp
        obtain ⟨h0, v, h1, h2⟩ := (hry.grown HGZ2.out fun k e _ => by injection e with e; subst e; exact not_u8 krw (by decide)) j p hp
        have hjl : j < ii := by rw [HI2.out]; exact (List.getElem?_eq_some_iff.1 hp).1
        refine ⟨?_, v, ?_, h2⟩
        · rw [List.getElem?_take, if_pos (by omega), HZT.out _ (by omega)]; exact h0
        · rw [List.getElem?_take, if_pos (by omega), HZT.out _ (by omega)]; exact h1
end Go.Proofs.YtkhebllmnagkmaaGreatDoor
/- Contract of the disk's Tamper at a place that is there. Conditions: what each names. -/
namespace Go.Proofs.YtkhebllmnagkmaaGreatDoor
open Go.RowKit
set_option linter.unusedVariables false

theorem ddel_nil (gb i c : Nat) (w : World) (hb : w.cell? ⟨gb, 0, none⟩ = some (.int .i64 (i : Int))) :
    Calls Tryz.prog 55 #[.slice none 0 c, .func (.func 56) #[] #[.pointer (some ⟨gb, 0, none⟩)]] w fun e w' => e = .returned (.slice none 0 c) ∧ Below w.heap.size w w' := by
  have hBl : gb < w.heap.size := World.block_lt_of_cell? w ⟨gb, 0, none⟩ hb
  have hix := tindex_any gb i 0 c gb none [] [] w hb (fun h => absurd h (by omega)) hBl (fun j u hu => by simp at hu) (fun j p hp => by simp at hp) rfl (by omega)
  go_enter Tryz.func55, Tryz.ntmps55
  go_wp2_with (go_at_call 83; refine hix.mono ?_; rintro e w1 ⟨(⟨rfl, hno⟩ | ⟨k0, p0, hk0, rfl, hp0, hpi, hbef⟩), b1⟩)
  go_ret
  exact ⟨rfl, b1⟩
section
variable {F : Nat → Prop} {w : World} {g : Nat} {D : Dk} {vp vu vo : Value} {xp xu xo : List Value}
/-- The writes under way are others. -/
theorem DiskAt.newWay (h : DiskAt w g F D vp vu vo xp xu xo) {v4 : Value} {w4 : World} {ys : List Value} {way : List (Nat × List UInt8)} (ho : w4.ownsRow 0 116 2 v4 way.length ys) (hg : w.grownBy w4 vu.ownBlock) (ha : v4.ownBlock = vu.ownBlock) (hr : RowW w4 ys way) :
    DiskAt (w4.setCell ⟨g, 1, none⟩ v4) g F { D with way := way } vp v4 vo xp ys xo := by
  have hK : ∀ j, vu.ownBlock = some j → Kind w j 116 := fun j e => own_kind h.ou e
  have hne : ∀ {k : Nat} {t : TypeId}, Kind w k t → t ≠ 116 → w4.heap[k]? = w.heap[k]? := fun hk ht => hg.block _ hk.lt (kind_ne hk hK ht)
  have b4 : Blk w4 g 85 _ := (hne h.blk.kind (by decide)).trans h.blk
  have hv4 : v4.ownBlock ≠ some g := own_blk_ne ho b4 (by decide)
  have hst : ∀ k, k ≠ g → (w4.setCell ⟨g, 1, none⟩ v4).heap[k]? = w4.heap[k]? := fun k hk => Below.heap_setCell _ _ _ _ hk
  have hs4 : w4.heap.size ≤ (w4.setCell ⟨g, 1, none⟩ v4).heap.size := by simp [World.setCell]
  have hsz : w.heap.size ≤ (w4.setCell ⟨g, 1, none⟩ v4).heap.size := Nat.le_trans hg.size hs4
  have hgk := h.blk.kind
  have hu8 : ∀ k, Kind w k 5 → (w4.setCell ⟨g, 1, none⟩ v4).heap[k]? = w.heap[k]? := fun k hk => (hst k (by rintro rfl; exact absurd (hk.uniq hgk) (by decide))).trans (hne hk (by decide))
  have hu4 : ∀ k, Kind w4 k 5 → (w4.setCell ⟨g, 1, none⟩ v4).heap[k]? = w4.heap[k]? := fun k hk => hst k (by rintro rfl; exact absurd (hk.uniq b4.kind) (by decide))
  have hown : ∀ {e : TypeId} {size n : Nat} {v : Value} {xs : List Value}, w.ownsRow 0 e size v n xs → e ≠ 116 → e ≠ 85 → (w4.setCell ⟨g, 1, none⟩ v4).ownsRow 0 e size v n xs := fun ho h1 h2 =>
    own_keep ho fun k e => (hst k (by rintro rfl; exact h2 ((own_kind ho e).uniq hgk))).trans (hne (own_kind ho e) h1)
  refine ⟨?_, h.fg, hown h.op (by decide) (by decide), h.fp, h.rp.keep hsz hu8, own_keep ho fun k e => hst k (by rintro rfl; exact hv4 e), fun k e => h.fu k (ha ▸ e), hr.keep hs4 hu4, hown h.oo (by decide) (by decide), h.fo⟩
  have h5 := b4.set_ 1 v4
  exact h5
end
set_option maxRecDepth 100000 in
set_option maxHeartbeats 4000000 in
theorem dtamper_any (g i : Nat) (F : Nat → Prop) (D : Dk) (A : Option Addr) (c : Nat) (b : List UInt8) (w : World) (hD : Disk w g F D) (hi : i < D.places.length) (hr : Reads w w.heap.size 1 A 192 (bs b)) (hn1 : D.way.length ≤ 1048576) (hp : D.places.length ≤ 1048576) :
    Calls Tryz.prog 23 #[.pointer (some ⟨g, 0, none⟩), .int .i64 (i : Int), .slice A 192 c] w fun e w' => e = .returned (.int .i64 0) ∧ Disk w' g F { D with places := D.places.set i b, way := D.way.filter fun p => p.1 != i } ∧ Only F w w' := by
  obtain ⟨vp, vu, vo, xp, xu, xo, h0⟩ := hD
  have hbl : b.length = 192 := by have := hr.1; rw [bs_length] at this; omega
  obtain ⟨gp, cp, hvp⟩ : ∃ gp cp, vp = .slice (some ⟨gp, 0, none⟩) D.places.length cp := by
    rcases h0.op.2 with ⟨_, h0'⟩ | ⟨g', cap', cur, hv, _⟩
    · omega
    · exact ⟨g', cap', hv⟩
  obtain ⟨Au, cu, hvu⟩ := own_shape h0.ou
  subst hvp hvu
  obtain ⟨W0, hW0⟩ : ∃ W0 : World, W0 = w.alloc (.cells #[.int .i64 (i : Int)] 3) := ⟨_, rfl⟩
  have y0 : Below w.heap.size w W0 := by rw [hW0]; exact (Below.refl _ _).alloc (Nat.le_refl _) _
  have kb0 : Blk W0 w.heap.size 3 #[.int .i64 (i : Int)] := by rw [hW0]; exact Blk.new_of rfl rfl
  have h := h0.under y0
  have hfit := dfits_any g i F D A c W0 ⟨_, _, _, _, _, _, h⟩ hi
  have hclo := clone_any A 192 c b W0.drew ((hr.below y0).more y0.size) (by omega)
  have s0 : W0.drew.cell? ⟨g, 0, none⟩ = some (.slice (some ⟨gp, 0, none⟩) D.places.length cp) ∧ W0.drew.cell? ⟨w.heap.size, 0, none⟩ = some (.int .i64 (i : Int)) := ⟨h.blk.cell 0, kb0.cell 0⟩
  have d0 : W0.cell? ⟨w.heap.size, 0, none⟩ = some (.int .i64 (i : Int)) := kb0.cell 0
  have hop := h.op
  have hxl : xp.length = D.places.length := by have := hop.1; omega
  have kgp : Kind W0.drew gp 55 := own_kind hop rfl
  have tc : W0.drew.cell? ⟨gp, i, none⟩ = some (xp[i]'(by omega)) := by
    show W0.cell? ⟨gp, i, none⟩ = _
    rw [World.ownsRow.cellAt hop i (by omega), List.getElem?_eq_getElem (by omega)]
  have tf : W0.drew.frozen? ⟨gp, i, none⟩ = false := World.ownsRow.frozenAt hop i
  have n1 : gp ≠ g := fun e => by subst e; exact absurd (kgp.uniq h.blk.kind) (by decide)
  have n2 : gp ≠ w.heap.size := fun e => by subst e; exact absurd (kgp.uniq kb0.kind) (by decide)
  have n3 : g ≠ w.heap.size := fun e => by have := h0.blk.lt; omega
  have lgp := kgp.lt
  have hgs := h.blk.lt
  have hbs := kb0.lt
  generalize xp[i]'(by omega) = old at *
  have ip : (i : Int) < (D.places.length : Int) := by omega
  have jp : (0 : Int) ≤ (i : Int) := by omega
  have H := Lib.hid h.drew
  have HB := Lib.hid hbl
  have HW0 := Lib.hid hW0
  have H0 := Lib.hid h0
  have HR := Lib.hid hr
  rw [hW0] at hfit d0
  clear h hop hxl hbl hW0 h0 hr
  go_enter Tryz.func23, Tryz.ntmps23
  go_wp2_with (go_at_call 54; refine hfit.mono ?_; rintro e w1 ⟨rfl, rfl⟩)
  rw [← HW0.out]
  clear hfit
  go_region_held3 (fun w' => w'.cell? ⟨g, 0, none⟩ = some (.slice (some ⟨gp, 0, none⟩) D.places.length cp) ∧ w'.cell? ⟨w.heap.size, 0, none⟩ = some (.int .i64 (i : Int))) (first | (exact s0) | (exact s3) | (exact s2)) (first | (go_at_call 43; refine hclo.mono ?_; rintro e w2 ⟨v2, rfl, hv2, b2⟩; obtain ⟨A2, cc2, hvs⟩ := hv2.shape; rw [HB.out] at hvs; subst hvs; have s2 : w2.cell? ⟨g, 0, none⟩ = some (.slice (some ⟨gp, 0, none⟩) D.places.length cp) ∧ w2.cell? ⟨w.heap.size, 0, none⟩ = some (.int .i64 (i : Int)) := ⟨(b2.cell (p := ⟨g, 0, none⟩) hgs).trans s0.1, (b2.cell (p := ⟨w.heap.size, 0, none⟩) hbs).trans s0.2⟩; have tc2 := (b2.cell (p := ⟨gp, i, none⟩) lgp).trans tc; have tf2 := (b2.frozen (p := ⟨gp, i, none⟩) lgp).trans tf; have s3 : (w2.setCell ⟨gp, i, none⟩ (.slice A2 192 cc2)).cell? ⟨g, 0, none⟩ = some (.slice (some ⟨gp, 0, none⟩) D.places.length cp) ∧ (w2.setCell ⟨gp, i, none⟩ (.slice A2 192 cc2)).cell? ⟨w.heap.size, 0, none⟩ = some (.int .i64 (i : Int)) := ⟨(World.cell?_of_block (a := ⟨g, 0, none⟩) (Below.heap_setCell w2 ⟨gp, i, none⟩ (.slice A2 192 cc2) g n1.symm)).trans s2.1, (World.cell?_of_block (a := ⟨w.heap.size, 0, none⟩) (Below.heap_setCell w2 ⟨gp, i, none⟩ (.slice A2 192 cc2) w.heap.size n2.symm)).trans s2.2⟩))
  have hsl : IsSl w2 (.slice A2 192 cc2) b := hv2.isSl
  have hd2 := H.out.under b2
  have hN := hd2.setPlace (i := i) (v := .slice A2 192 cc2) (b := b) rfl hsl
  have hO2 : Only F w (w2.setCell ⟨gp, i, none⟩ (.slice A2 192 cc2)) := (((Only.of_below y0).drew.under b2)).setCell (p := ⟨gp, i, none⟩) (.inl (hd2.fp gp rfl)) (own_kind hd2.op rfl) (by decide) _
  obtain ⟨W3, hW3⟩ : ∃ W3 : World, W3 = w2.setCell ⟨gp, i, none⟩ (.slice A2 192 cc2) := ⟨_, rfl⟩
  rw [← hW3] at hN hO2 s3 ⊢
  have g1 : W3.cell? ⟨g, 1, none⟩ = some (.slice Au D.way.length cu) := hN.blk.cell 1
  have hcb := s3.2
  have HN := Lib.hid hN
  have HO2 := Lib.hid hO2
  have fin : ∀ (w4 : World) (v4 : Value) (ys : List Value) (way : List (Nat × List UInt8)), w4.ownsRow 0 116 2 v4 way.length ys → W3.grownBy w4 (Value.slice Au D.way.length cu).ownBlock → v4.ownBlock = (Value.slice Au D.way.length cu).ownBlock → RowW w4 ys way →
      Disk (w4.setCell ⟨g, 1, none⟩ v4) g F { D with places := D.places.set i b, way := way } ∧ Only F w (w4.setCell ⟨g, 1, none⟩ v4) := fun w4 v4 ys way ho hg ha hr => by
    have hK : ∀ j, (Value.slice Au D.way.length cu).ownBlock = some j → Kind W3 j 116 := fun j e => own_kind HN.out.ou e
    have b4 : Blk w4 g 85 _ := (hg.block _ HN.out.blk.lt (kind_ne HN.out.blk.kind hK (by decide))).trans HN.out.blk
    exact ⟨⟨_, _, _, _, _, _, HN.out.newWay ho hg ha hr⟩, (HO2.out.grown hg (fun k e => .inl (HN.out.fu k e)) (fun k e _ => ⟨_, hK k e, by decide⟩)).setCell (p := ⟨g, 1, none⟩) (.inl HN.out.fg) b4.kind (by decide) v4⟩
  have HF := Lib.hid fin
  clear hclo s0 s2 tc tc2 tf tf2 hN hO2 hd2 hsl hv2 b2 s3 fin hW3
  have hou := HN.out.ou
  rcases hou.2 with ⟨hv, hz⟩ | ⟨r, cap', cur, hv, _⟩
  · have hz : D.way.length = 0 := hz
    have hw0 : D.way = [] := List.eq_nil_of_length_eq_zero hz
    injection hv with e1 e2 e3
    subst e1 e3
    have hdel := ddel_nil w.heap.size i 0 W3 hcb
    rw [hz] at g1
    have HW := Lib.hid hw0
    have HZ := Lib.hid hz
    clear hou hz hw0
    go_wp2_with (go_at_call 55; refine hdel.mono ?_; rintro e w4 ⟨rfl, b4⟩; have q0 := (b4.cell (p := ⟨g, 1, none⟩) HN.out.blk.lt).trans g1; have q1 := (b4.frozen (p := ⟨g, 1, none⟩) HN.out.blk.lt).trans (HN.out.blk.frozen 1))
    go_ret
    have h := HF.out w4 (.slice none 0 0) [] [] (World.ownsRow_nil _ _ _ _) (grown_of_below b4 _) rfl (fun j p hp => by simp at hp)
    rw [show (D.way.filter fun p => p.1 != i) = [] by rw [HW.out]; rfl]
    exact ⟨rfl, h⟩
  · injection hv with e1 e2 e3
    subst e1 e3
    clear e2
    have kr : Kind W3 r 116 := own_kind hou rfl
    have hne : w.heap.size ≠ r := fun e => by
      have hk := own_kind H0.out.ou (k := r) rfl
      have := hk.lt
      omega
    have hdel := ddel_any w.heap.size i D.way.length cu r xu D.way W3 hcb hne hou HN.out.ru rfl hn1
    have ngr : g ≠ r := fun e => by subst e; exact absurd (kr.uniq HN.out.blk.kind) (by decide)
    have NGR := Lib.hid ngr
    clear hou kr hne ngr
    go_wp2_with (go_at_call 55; refine hdel.mono ?_; rintro e w4 ⟨xu4, rfl, o4, rw4, g4⟩; have kb4 := HN.out.blk.grown g4 (by intro e; injection e with e; exact NGR.out e); have q0 : w4.cell? ⟨g, 1, none⟩ = some (.slice (some ⟨r, 0, none⟩) D.way.length cu) := kb4.cell 1; have q1 := kb4.frozen 1)
    go_ret
    refine ⟨rfl, ?_⟩
    exact HF.out w4 (.slice (some ⟨r, 0, none⟩) (D.way.filter fun p => p.1 != i).length cu) xu4 (D.way.filter fun p => p.1 != i) o4 g4 rfl rw4
end Go.Proofs.YtkhebllmnagkmaaGreatDoor
