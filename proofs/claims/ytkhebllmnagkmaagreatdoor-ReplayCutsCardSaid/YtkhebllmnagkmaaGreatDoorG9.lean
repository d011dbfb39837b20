/- Contracts and lemmas under the statements of this seat, one behind the other. Conditions: what each names. -/
import Derived.Test.YtkhebllmnagkmaaGreatDoorG8
import Derived.Laws.Tables
/- Contract of journal.Link. Conditions: what each names. -/
namespace Go.Proofs.YtkhebllmnagkmaaGreatDoor
open Go.RowKit
set_option linter.unusedVariables false

def linkB (tag : List UInt8) (place : Nat) (slot : List UInt8) : List UInt8 := sha256 ([255] ++ tag ++ putB place 4 ++ slot)
theorem linkB_length (tag : List UInt8) (place : Nat) (slot : List UInt8) : (linkB tag place slot).length = 32 := sha256_length _
theorem pieces4_new (tag slot p4 : List UInt8) (A : Option Addr) (c : Nat) (ht : tag.length = 32) (hp : p4.length = 4) (hs : slot.length = 192) (W : World) (g1 g2 g3 : Nat) (r1 : Reads W W.heap.size 1 (some ⟨g1, 0, none⟩) 1 (bs [255]))
    (r2 : Reads W W.heap.size 1 (some ⟨g2, 0, none⟩) 32 (bs tag)) (r3 : Reads W W.heap.size 1 (some ⟨g3, 0, none⟩) 4 (bs p4)) (r4 : Reads W W.heap.size 1 A 192 (bs slot)) (hT : Tabs W) :
    Calls Tryz.prog 44 #[.slice (some ⟨W.heap.size, 0, none⟩) 4 4] (W.alloc (.cells #[.slice (some ⟨g1, 0, none⟩) 1 1, .slice (some ⟨g2, 0, none⟩) 32 32, .slice (some ⟨g3, 0, none⟩) 4 4, .slice A 192 c] 55)) fun e w' =>
      e = .returned (.agg (bs (sha256 ([255] ++ tag ++ p4 ++ slot))).toArray) ∧ Below (W.heap.size + 1) (W.alloc (.cells #[.slice (some ⟨g1, 0, none⟩) 1 1, .slice (some ⟨g2, 0, none⟩) 32 32, .slice (some ⟨g3, 0, none⟩) 4 4, .slice A 192 c] 55)) w' := by
  have hb : Blk (W.alloc (.cells ([Value.slice (some ⟨g1, 0, none⟩) 1 1, .slice (some ⟨g2, 0, none⟩) 32 32, .slice (some ⟨g3, 0, none⟩) 4 4, .slice A 192 c]).toArray 55)) W.heap.size 55 ([Value.slice (some ⟨g1, 0, none⟩) 1 1, .slice (some ⟨g2, 0, none⟩) 32 32, .slice (some ⟨g3, 0, none⟩) 4 4, .slice A 192 c]).toArray := Blk.new _ _ _
  have hr := hb.row
  have up : ∀ {A' n xs}, Reads W W.heap.size 1 A' n xs → Reads (W.alloc (.cells ([Value.slice (some ⟨g1, 0, none⟩) 1 1, .slice (some ⟨g2, 0, none⟩) 32 32, .slice (some ⟨g3, 0, none⟩) 4 4, .slice A 192 c]).toArray 55)) (W.alloc (.cells ([Value.slice (some ⟨g1, 0, none⟩) 1 1, .slice (some ⟨g2, 0, none⟩) 32 32, .slice (some ⟨g3, 0, none⟩) 4 4, .slice A 192 c]).toArray 55)).heap.size 1 A' n xs := fun h => (h.alloc (Nat.le_refl _) _).more (by simp)
  have hz : (W.alloc (.cells ([Value.slice (some ⟨g1, 0, none⟩) 1 1, .slice (some ⟨g2, 0, none⟩) 32 32, .slice (some ⟨g3, 0, none⟩) 4 4, .slice A 192 c]).toArray 55)).heap.size = W.heap.size + 1 := by simp
  have hps : ([((some ⟨g1, 0, none⟩ : Option Addr), 1, [255]), (some ⟨g2, 0, none⟩, 32, tag), (some ⟨g3, 0, none⟩, 4, p4), (A, c, slot)] : List (Option Addr × Nat × List UInt8)).map partV = [Value.slice (some ⟨g1, 0, none⟩) 1 1, .slice (some ⟨g2, 0, none⟩) 32 32, .slice (some ⟨g3, 0, none⟩) 4 4, .slice A 192 c] := by simp [partV, ht, hp, hs]
  have h := pieces_any (some ⟨W.heap.size, 0, none⟩) 4 [((some ⟨g1, 0, none⟩ : Option Addr), 1, [255]), (some ⟨g2, 0, none⟩, 32, tag), (some ⟨g3, 0, none⟩, 4, p4), (A, c, slot)] _ (by rw [hps]; exact hr) (by
    intro p hpm
    simp only [List.mem_cons, List.not_mem_nil, or_false] at hpm
    rcases hpm with rfl | rfl | rfl | rfl
    · exact up r1
    · simp only [ht]; exact up r2
    · simp only [hp]; exact up r3
    · simp only [hs]; exact up r4) (by simp [cat, ht, hp, hs]) (by simp) (hT.alloc _)
  rw [show cat [((some ⟨g1, 0, none⟩ : Option Addr), 1, [255]), (some ⟨g2, 0, none⟩, 32, tag), (some ⟨g3, 0, none⟩, 4, p4), (A, c, slot)] = [255] ++ tag ++ p4 ++ slot from by simp [cat], hz] at h
  exact h
theorem grownBy_setCells (g : Nat) : ∀ (vs : List Value) (o : Nat) {a w : World}, a.grownBy w (some g) → a.grownBy (w.setCells g o vs) (some g)
  | [], _, _, _, h => h
  | v :: r, o, _, _, h => grownBy_setCells g r (o + 1) (only_setCell h (p := ⟨g, o, none⟩) (.inl rfl) v)
theorem Blk.put {g : Nat} {t : TypeId} : ∀ (vs pre old post : List Value) (w : World), old.length = vs.length → Blk w g t (pre ++ (old ++ post)).toArray → Blk (w.setCells g pre.length vs) g t (pre ++ (vs ++ post)).toArray
  | [], pre, old, post, w, hl, h => by
    have : old = [] := List.eq_nil_of_length_eq_zero hl
    subst this
    exact h
  | v :: r, pre, old, post, w, hl, h => by
    cases old with
    | nil => cases hl
    | cons o old' =>
      have h1 := h.set_ pre.length v
      rw [List.setIfInBounds_toArray, List.set_append_right _ _ (Nat.le_refl _), Nat.sub_self] at h1
      have h2 := Blk.put (g := g) (t := t) r (pre ++ [v]) old' post (w.setCell ⟨g, pre.length, none⟩ v) (by simpa using hl) (by simpa using h1)
      rw [List.length_append, List.length_singleton] at h2
      show Blk ((w.setCell ⟨g, pre.length, none⟩ v).setCells g (pre.length + 1) r) g t _
      simpa using h2
theorem Blk.there {w : World} {g : Nat} {t : TypeId} {cs : Array Value} {n : Nat} (h : Blk w g t cs) (hn : n ≤ cs.size) : w.there g 0 n := fun j hj => by
  rw [Nat.zero_add]
  exact ⟨by rw [h.cell j, Array.getElem?_eq_getElem (by omega)]; rfl, h.frozen j⟩
set_option maxRecDepth 100000 in
set_option maxHeartbeats 4000000 in
theorem link_any (tag slot : List UInt8) (place : Nat) (A : Option Addr) (c : Nat) (w : World) (ht : tag.length = 32) (hp : place < 4294967296) (hr : Reads w w.heap.size 1 A 192 (bs slot)) (hT : Tabs w) :
    Calls Tryz.prog 16 #[.agg (bs tag).toArray, .int .u32 (place : Int), .slice A 192 c] w fun e w' => e = .returned (.agg (bs (linkB tag place slot)).toArray) ∧ Below w.heap.size w w' := by
  have hs : slot.length = 192 := by have := hr.1; rw [bs_length] at this; omega
  have hpie := fun W g1 g2 g3 => pieces4_new tag slot (putB place 4) A c ht (putB_length _ _) hs W g1 g2 g3
  have hput : ∀ W, Calls Tryz.prog 45 #[.int .u64 (place : Int), .int .i64 4] W fun e w' => e = .returned (.slice (some ⟨W.heap.size, 0, none⟩) 4 4) ∧ Reads w' w'.heap.size 1 (some ⟨W.heap.size, 0, none⟩) 4 (bs (putB place 4)) ∧ Below W.heap.size W w' := fun W => (wput_bs place 4 W (by omega) (by omega) (by omega)).mono fun e w' h => ⟨h.1, by have h2 := h.2.1.reads; rw [putB_length] at h2; exact h2, h.2.2.2⟩
  have hfin : sha256 ([255] ++ tag ++ putB place 4 ++ slot) = linkB tag place slot := rfl
  rw [hfin] at hpie
  generalize putB place 4 = p4 at *
  have hll := linkB_length tag place slot
  have hones := bs_one (l := linkB tag place slot)
  generalize linkB tag place slot = lk at *
  obtain ⟨W0, hW0⟩ : ∃ W0 : World, W0 = (w.alloc (.cells (bs tag).toArray 23)).alloc (.cells (bs (List.replicate 32 0)).toArray 23) := ⟨_, rfl⟩
  have y0 : Below w.heap.size w W0.drew := by rw [hW0]; exact (((Below.refl _ _).alloc (Nat.le_refl _) _).alloc (by simp) _).drew
  have hs0 : W0.heap.size = w.heap.size + 2 := by rw [hW0]; simp
  have kt : Blk W0.drew w.heap.size 23 (bs tag).toArray := by rw [hW0]; exact ((Blk.new_of rfl rfl).alloc _).drew
  have kz : Blk W0.drew (w.heap.size + 1) 23 (bs (List.replicate 32 0)).toArray := by rw [hW0]; exact (Blk.new_of (by simp) rfl).drew
  have rt := kt.reads
  rw [ht] at rt
  have rs : Reads W0.drew W0.drew.heap.size 1 A 192 (bs slot) := (hr.below y0).more y0.size
  have hT0 : Tabs W0.drew := hT.under y0
  have HW0 := Lib.hid hW0
  have HF := Lib.hid hfin
  have HL := Lib.hid hll
  have HS0 := Lib.hid hs0
  have hu39 := Tryz.underlying23
  have hi39 : (Tryz.prog.info? 23).map (·.size) = some (bs lk).length := by rw [bs_length, hll]; kernel_rfl
  have HI := Lib.hid hi39
  have Ht := Lib.hid ht
  have Hs := Lib.hid hs
  clear hW0 hfin hll hs0 hi39 ht hs hr hT
  go_enter Tryz.func16, Tryz.ntmps16
  go_wp2
  rw [show ((w.alloc (.cells (bs tag).toArray 23)).alloc (.cells #[.int .u8 0, .int .u8 0, .int .u8 0, .int .u8 0, .int .u8 0, .int .u8 0, .int .u8 0, .int .u8 0, .int .u8 0, .int .u8 0, .int .u8 0, .int .u8 0, .int .u8 0, .int .u8 0, .int .u8 0, .int .u8 0, .int .u8 0, .int .u8 0, .int .u8 0, .int .u8 0, .int .u8 0, .int .u8 0, .int .u8 0, .int .u8 0, .int .u8 0, .int .u8 0, .int .u8 0, .int .u8 0, .int .u8 0, .int .u8 0, .int .u8 0, .int .u8 0] 23)) = W0 from HW0.out.symm]
  have tz : ∀ {W : World}, Blk W (w.heap.size + 1) 23 (bs (List.replicate 32 0)).toArray → W.there (w.heap.size + 1) 0 (bs lk).length := fun h => h.there (by rw [bs_length, HL.out]; simp [bs_length])
  have t0 := tz kz
  obtain ⟨Wa, hWa⟩ : ∃ Wa : World, Wa = (W0.alloc (.cells #[.int .u8 255] 5)).drew := ⟨_, rfl⟩
  have bWa : Below W0.drew.heap.size W0.drew Wa := by rw [hWa]; exact (Below.refl _ W0.drew).alloc (Nat.le_refl _) _
  have ka : Blk Wa W0.heap.size 5 (bs [255]).toArray := by rw [hWa]; exact (Blk.new_of rfl rfl).drew
  have ra1 := ka.reads
  have ra2 := (rt.below bWa).more bWa.size
  have ra4 := (rs.below bWa).more bWa.size
  have kza := kz.below bWa kz.lt
  have ta := tz kza
  have hTa := hT0.under bWa
  have ya : Below w.heap.size w Wa := y0.trans (bWa.mono y0.size)
  have HWa := Lib.hid hWa
  have hi39 := HI.out
  have hw64 : IntKind.u64.wrap (place : Int) = (place : Int) := by rw [IntKind.wrap_u64]; omega
  have hsA : ((W0.alloc (.cells #[.int .u8 255] 5)).drew).heap.size = W0.heap.size + 1 := size_alloc' _ _
  have HSA := Lib.hid hsA
  have hpieB : ∀ (w1 : World) (g1 g2 g3 : Nat), _ := fun w1 g1 g2 g3 => hpie (w1.alloc (.cells #[.int .u8 255] 5)) g1 g2 g3
  simp only [size_alloc'] at hpieB
  have hL1 : bs [(255 : UInt8)] = [Value.int .u8 255] := rfl
  clear hWa hsA hu39
  have hu39 := Tryz.underlying23
  go_region_held3 (fun w' => w'.there (w.heap.size + 1) 0 (bs lk).length) (first | (exact t0) | (rw [← HWa.out]; exact ta) | (exact t1) | (exact World.there_alloc t1 _) | (exact World.there_alloc (World.there_alloc t1 _) _) | (exact t5) | (exact World.there_setCells t5 _ _ _)) (first | (go_at_call 45; with_reducible refine (hput _).mono ?_; rintro e w1 ⟨rfl, k1, b1⟩; first | (rw [HSA.out] at k1; rw [← HWa.out] at b1; have kz1 := kza.below b1 kza.lt; have t1 := tz kz1; have rA1 := (ra1.below b1).more b1.size; have rA2 := (ra2.below b1).more b1.size; have rA4 := (ra4.below b1).more b1.size; have hTA := hTa.under b1; have y1 := ya.trans (b1.mono ya.size)) | (have kz1 := kz.below b1 kz.lt; have t1 := tz kz1; have rB1 := ((Blk.new w1 5 (bs [255]).toArray).reads.more (Nat.le_of_eq (size_alloc' _ _))); have rB2 := ((((rt.below b1).more b1.size).alloc (Nat.le_refl _) (.cells #[.int .u8 255] 5)).more (Nat.le_succ _)); have rB3 := ((k1.alloc (Nat.le_refl _) (.cells #[.int .u8 255] 5)).more (Nat.le_succ _)); have rB4 := ((((rs.below b1).more b1.size).alloc (Nat.le_refl _) (.cells #[.int .u8 255] 5)).more (Nat.le_succ _)); have hTB := (hT0.under b1).alloc (.cells #[.int .u8 255] 5); have y1 := y0.trans (b1.mono y0.size))) | (go_at_call 44; first | (refine (hpie w1 _ _ _ rA1 rA2 k1 rA4 hTA).mono ?_; rintro e w5 ⟨rfl, b5⟩; have kz5 := (kz1.alloc _).below b5 (Nat.lt_succ_of_lt kz1.lt); have t5 := tz kz5; have y5 := (y1.alloc y1.size _).trans (b5.mono (Nat.le_succ_of_le y1.size))) | (refine (hpieB w1 _ _ _ rB1 rB2 rB3 rB4 hTB).mono ?_; rintro e w5 ⟨rfl, b5⟩; have kz5 := ((kz1.alloc _).alloc _).below b5 (Nat.lt_succ_of_lt (Nat.lt_succ_of_lt kz1.lt)); have t5 := tz kz5; have y5 := ((y1.alloc y1.size _).alloc (Nat.le_trans y1.size (Nat.le_of_lt (by simp))) _).trans (b5.mono (Nat.le_succ_of_le (Nat.le_succ_of_le y1.size))))))
  all_goals
    have kF : Blk (w5.setCells (w.heap.size + 1) 0 (bs lk)) (w.heap.size + 1) 23 (bs lk).toArray := by
      have h := Blk.put (bs lk) [] (bs (List.replicate 32 0)) [] w5 (by rw [bs_length, bs_length, HL.out, List.length_replicate]) (by simpa using kz5)
      simpa using h
    have gF : w5.grownBy (w5.setCells (w.heap.size + 1) 0 (bs lk)) (some (w.heap.size + 1)) := grownBy_setCells _ _ _ (World.grownBy.refl _ _)
    clear hpie hpieB hput hw64 hL1
    go_wp2
    exact ret_cell 6 23 rfl rfl (w.heap.size + 1) 23 _ _ rfl kF Tryz.underlying23 rfl (by rw [List.size_toArray]; exact hi39) ⟨rfl, y5.grown gF y5.size (fun k e => by injection e with e; omega)⟩
end Go.Proofs.YtkhebllmnagkmaaGreatDoor
/- Contracts of the package journal: may, Room, State, Adopt, New. Conditions: what each names. -/
namespace Go.Proofs.YtkhebllmnagkmaaGreatDoor
open Go.RowKit
set_option linter.unusedVariables false

/-! ### the journal in memory -/
structure Jr where
  first : Nat
  size : Nat
  start : Nat
  count : Nat
  next : Nat
  limit : Nat
  key : List UInt8
  tag : List UInt8
def stCells (start count : Nat) (tag : List UInt8) : List Value := [.int .u64 (start : Int), .int .u64 (count : Int)] ++ bs tag
def jrHead (gd : Nat) (J : Jr) : List Value := [Value.pointer (some ⟨gd, 0, none⟩)] ++ bs J.key ++ [.int .i64 (J.first : Int), .int .u64 (J.size : Int)]
def jrCells (gd : Nat) (J : Jr) : List Value := jrHead gd J ++ (stCells J.start J.count J.tag ++ [.int .u64 (J.next : Int), .int .u64 (J.limit : Int)])
structure JAt (w : World) (gj gd : Nat) (J : Jr) : Prop where
  blk : Blk w gj 89 (jrCells gd J).toArray
  hk : J.key.length = 32
  ht : J.tag.length = 32
theorem stCells_length (a b : Nat) (tag : List UInt8) : (stCells a b tag).length = 2 + tag.length := by simp [stCells, bs_length]; omega
theorem stCells_one (a b : Nat) (tag : List UInt8) : (stCells a b tag).toArray.all (·.oneCell') = true := by
  rw [Array.all_eq_true_iff_forall_mem]
  intro x hx
  simp only [List.mem_toArray, stCells, List.mem_append, List.mem_cons, List.not_mem_nil, or_false] at hx
  rcases hx with (rfl | rfl) | hx
  · rfl
  · rfl
  · exact bs_one x hx
theorem jrHead_length (gd : Nat) (J : Jr) (hk : J.key.length = 32) : (jrHead gd J).length = 35 := by simp [jrHead, bs_length, hk]
section
variable {w w' : World} {gj gd : Nat} {J : Jr}
theorem JAt.at_ (h : JAt w gj gd J) (i : Nat) (v : Value) (hv : (jrCells gd J)[i]? = some v) : w.cell? ⟨gj, i, none⟩ = some v := (h.blk.cell i).trans (by rw [List.getElem?_toArray]; exact hv)
theorem JAt.c0 (h : JAt w gj gd J) : w.cell? ⟨gj, 0, none⟩ = some (.pointer (some ⟨gd, 0, none⟩)) := h.at_ 0 _ rfl
theorem JAt.c33 (h : JAt w gj gd J) : w.cell? ⟨gj, 33, none⟩ = some (.int .i64 (J.first : Int)) := h.at_ 33 _ (by unfold jrCells; rw [List.getElem?_append_left (by rw [jrHead_length _ _ h.hk]; omega)]; unfold jrHead; rw [List.getElem?_append_right (by simp [bs_length, h.hk])]; simp [bs_length, h.hk])
theorem JAt.c34 (h : JAt w gj gd J) : w.cell? ⟨gj, 34, none⟩ = some (.int .u64 (J.size : Int)) := h.at_ 34 _ (by unfold jrCells; rw [List.getElem?_append_left (by rw [jrHead_length _ _ h.hk]; omega)]; unfold jrHead; rw [List.getElem?_append_right (by simp [bs_length, h.hk])]; simp [bs_length, h.hk])
theorem JAt.tail (h : JAt w gj gd J) (i : Nat) (v : Value) (hv : (stCells J.start J.count J.tag ++ [Value.int .u64 (J.next : Int), .int .u64 (J.limit : Int)])[i]? = some v) : w.cell? ⟨gj, 35 + i, none⟩ = some v :=
  h.at_ _ _ (by unfold jrCells; rw [List.getElem?_append_right (by rw [jrHead_length _ _ h.hk]; omega), jrHead_length _ _ h.hk, Nat.add_sub_cancel_left]; exact hv)
theorem JAt.c35 (h : JAt w gj gd J) : w.cell? ⟨gj, 35, none⟩ = some (.int .u64 (J.start : Int)) := h.tail 0 _ rfl
theorem JAt.c36 (h : JAt w gj gd J) : w.cell? ⟨gj, 36, none⟩ = some (.int .u64 (J.count : Int)) := h.tail 1 _ rfl
theorem JAt.c69 (h : JAt w gj gd J) : w.cell? ⟨gj, 69, none⟩ = some (.int .u64 (J.next : Int)) := h.tail 34 _ (by rw [List.getElem?_append_right (by rw [stCells_length, h.ht]; omega), stCells_length, h.ht]; rfl)
theorem JAt.c70 (h : JAt w gj gd J) : w.cell? ⟨gj, 70, none⟩ = some (.int .u64 (J.limit : Int)) := h.tail 35 _ (by rw [List.getElem?_append_right (by rw [stCells_length, h.ht]; omega), stCells_length, h.ht]; rfl)
theorem JAt.st (h : JAt w gj gd J) : w.rangeAt gj 35 (stCells J.start J.count J.tag) := fun j v hj => h.tail j v (by
  rw [List.getElem?_append_left (List.getElem?_eq_some_iff.1 hj).1]
  exact hj)
theorem JAt.key_ (h : JAt w gj gd J) : w.rangeAt gj 1 (bs J.key) := fun j v hj => h.at_ (1 + j) v (by
  have hl := (List.getElem?_eq_some_iff.1 hj).1
  rw [bs_length, h.hk] at hl
  unfold jrCells
  rw [List.getElem?_append_left (by rw [jrHead_length _ _ h.hk]; omega)]
  unfold jrHead
  rw [List.getElem?_append_left (by simp [bs_length, h.hk]; omega), List.getElem?_append_right (by simp), List.length_singleton, Nat.add_sub_cancel_left]
  exact hj)
theorem JAt.keep (h : JAt w gj gd J) (hk : w'.heap[gj]? = w.heap[gj]?) : JAt w' gj gd J := ⟨hk.trans h.blk, h.hk, h.ht⟩
theorem JAt.under (h : JAt w gj gd J) (hb : Below w.heap.size w w') : JAt w' gj gd J := h.keep (hb.block gj h.blk.lt)
theorem JAt.alloc (h : JAt w gj gd J) (o : Obj) : JAt (w.alloc o) gj gd J := h.under ((Below.refl _ _).alloc (Nat.le_refl _) _)
theorem JAt.drew (h : JAt w gj gd J) : JAt w.drew gj gd J := h.under (Below.refl _ _).drew
end

/-! ### may, Room -/
theorem may_yes (start count size : Nat) (tag : List UInt8) (w : World) (h1 : start < size) (h2 : count ≤ size) :
    Calls Tryz.prog 32 #[.agg (stCells start count tag).toArray, .int .u64 (size : Int)] w fun e w' => e = .returned (.bool true) ∧ Below w.heap.size w w' := by
  have k0 : Blk (w.alloc (.cells (stCells start count tag).toArray 41)) w.heap.size 41 (stCells start count tag).toArray := Blk.new _ _ _
  have c0 : (w.alloc (.cells (stCells start count tag).toArray 41)).cell? ⟨w.heap.size, 0, none⟩ = some (.int .u64 (start : Int)) := k0.cell 0
  have c1 : (w.alloc (.cells (stCells start count tag).toArray 41)).cell? ⟨w.heap.size, 1, none⟩ = some (.int .u64 (count : Int)) := k0.cell 1
  have y0 : Below w.heap.size w (w.alloc (.cells (stCells start count tag).toArray 41)) := (Below.refl _ _).alloc (Nat.le_refl _) _
  have g1 : (start : Int) < size := by omega
  have g2 : (count : Int) ≤ size := by omega
  generalize (stCells start count tag).toArray = st at *
  go_enter Tryz.func32, Tryz.ntmps32
  go_wp2
  go_ret
  exact ⟨rfl, y0⟩
set_option maxRecDepth 100000 in
theorem room_any (gj gd : Nat) (J : Jr) (w : World) (h : JAt w gj gd J) (hc : J.count ≤ J.size) (hs : J.size < 18446744073709551616) :
    Calls Tryz.prog 34 #[.pointer (some ⟨gj, 0, none⟩)] w fun e w' => e = .returned (.int .u64 ((J.size - J.count : Nat) : Int)) ∧ ∃ m, w' = w.drewN m := by
  have c1 := h.c34
  have c2 := h.c36
  generalize J.size = s at *
  generalize J.count = c at *
  have hsub : ((s - c : Nat) : Int) = (s : Int) - (c : Int) := by omega
  rw [hsub]
  have hw : IntKind.u64.wrap ((s : Int) - (c : Int)) = (s : Int) - (c : Int) := by rw [IntKind.wrap_u64]; omega
  clear h hsub
  go_enter Tryz.func34, Tryz.ntmps34
  go_wp2
  go_region_held3 (fun w' => w'.cell? ⟨gj, 34, none⟩ = some (.int .u64 (s : Int)) ∧ w'.cell? ⟨gj, 36, none⟩ = some (.int .u64 (c : Int))) (exact ⟨c1, c2⟩) (fail)
  clear hw
  go_wp2
  go_ret
  exact ⟨rfl, 1, rfl⟩

end Go.Proofs.YtkhebllmnagkmaaGreatDoor
/- Contract of journal.New. Conditions: what each names. -/
namespace Go.Proofs.YtkhebllmnagkmaaGreatDoor
open Go.RowKit
set_option linter.unusedVariables false

theorem list_ofFn {α : Type} (n : Nat) (l : List α) (h : l.length = n) : ∃ f : Fin n → α, l = List.ofFn f := by
  subst h
  exact ⟨fun i => l[i], (List.ofFn_getElem).symm⟩
theorem built_jr (gd : Nat) (J : Jr) (hk : J.key.length = 32) (ht : J.tag.length = 32) :
    Tryz.prog.built 89 [(0, .pointer (some ⟨gd, 0, none⟩)), (1, .agg (bs J.key).toArray), (2, .int .i64 (J.first : Int)), (3, .int .u64 (J.size : Int)), (4, .agg (stCells J.start J.count J.tag).toArray), (5, .int .u64 (J.next : Int)), (6, .int .u64 (J.limit : Int))] = some (jrCells gd J).toArray := by
  obtain ⟨first, size, start, count, next, limit, key, tag⟩ := J
  obtain ⟨f, hf⟩ := list_ofFn 32 key hk
  obtain ⟨h, hh⟩ := list_ofFn 32 tag ht
  clear hk ht
  subst hf hh
  kernel_rfl
theorem wpList_load_mid_w {P : Program} {ops : Array Oper} {rest : List Oper} {op : Oper} {a : Act} {w : World} {Q : Exit → Act → World → Prop} (hw : Region.wanted op (yielded ops a.tmps) = true) (ty : TypeId) (x : Operand) (ho : op.op = .load ty x)
    (b o : Nat) (hx : a.eval x = .pointer (some ⟨b, o, none⟩)) (cs : List Value) (d : TypeDesc) (hc : w.rangeAt b o cs)
    (hu : P.underlying ty = some d) (hd : d.isRow = true) (hi : (P.info? ty).map (·.size) = some cs.length)
    (h : wpList P ops Q rest (a.put op.dst (.agg cs.toArray)) w) : wpList P ops Q (op :: rest) a w := by
  unfold wpList
  rw [if_pos hw]
  exact .inl (wp_load_mid ty x ho b o hx cs d hc hu hd hi h)
theorem wpList_build_plain {P : Program} {ops : Array Oper} {rest : List Oper} {o : Oper} {a : Act} {w : World} {Q : Exit → Act → World → Prop} (hgd : o.guard = none) (t : TypeId) (parts : List (Nat × Operand)) (ho : o.op = .build t parts.toArray)
    (vs : List (Nat × Value)) (hv : parts.map (fun p => (p.1, a.eval p.2)) = vs) (cells : Array Value) (hb : P.built t vs = some cells)
    (h : wpList P ops Q rest (a.put o.dst (.agg cells)) w) : wpList P ops Q (o :: rest) a w := by
  refine wpList_plain hgd fun K hK' => ?_
  have hrun := run_build (P := P) w t vs.toArray cells (by simpa using hb)
  unfold Oper.wp
  have he : (execOp a.eval o).run P w = .ok (.value (.agg cells)) w := by
    subst hv
    unfold execOp
    simp only [ho]
    rw [List.map_toArray, Sem.run_bind, hrun]
    rfl
  rw [he]
  exact hK' _ _ h
set_option maxRecDepth 100000 in
set_option maxHeartbeats 2000000 in
theorem jnew_any (gd : Nat) (F : Nat → Prop) (D : Dk) (J : Jr) (w : World) (hD : Disk w gd F D) (hk : J.key.length = 32) (ht : J.tag.length = 32) (h1 : 1 ≤ J.size) (h2 : J.first + J.size ≤ D.places.length) (hp : D.places.length ≤ 1048576) (h3 : J.start < J.size) (h4 : J.count ≤ J.size) (h5 : 1 ≤ J.next) (h6 : J.limit ≤ 9223372036854775807) :
    Calls Tryz.prog 8 #[.pointer (some ⟨gd, 0, none⟩), .agg (bs J.key).toArray, .int .i64 (J.first : Int), .int .i64 (J.size : Int), .agg (stCells J.start J.count J.tag).toArray, .int .u64 (J.next : Int), .int .u64 (J.limit : Int)] w fun e w' =>
      ∃ gj, e = .returned (.tuple #[.pointer (some ⟨gj, 0, none⟩), .int .i64 0]) ∧ w.heap.size ≤ gj ∧ JAt w' gj gd J ∧ Below w.heap.size w w' := by
  have hsize := fun W hD => dsize_any gd F D W hD
  have hmay := fun W => may_yes J.start J.count J.size J.tag W h3 h4
  have hbuilt := built_jr gd J hk ht
  obtain ⟨W0, hW0⟩ : ∃ W0 : World, W0 = (w.alloc (.cells (bs J.key).toArray 23)).alloc (.cells (stCells J.start J.count J.tag).toArray 41) := ⟨_, rfl⟩
  have y0 : Below w.heap.size w W0 := by rw [hW0]; exact ((Below.refl _ _).alloc (Nat.le_refl _) _).alloc (by simp) _
  have hs0 : W0.heap.size = w.heap.size + 2 := by rw [hW0]; simp
  have kk : Blk W0 w.heap.size 23 (bs J.key).toArray := by rw [hW0]; exact (Blk.new_of rfl rfl).alloc _
  have ks : Blk W0 (w.heap.size + 1) 41 (stCells J.start J.count J.tag).toArray := by rw [hW0]; exact Blk.new_of (by simp) rfl
  have hD0 : Disk W0 gd F D := hD.under y0
  have hsl := stCells_length J.start J.count J.tag
  rw [ht] at hsl
  have hkl : (bs J.key).length = 32 := by rw [bs_length, hk]
  have hjl : (jrCells gd J).length = 71 := by unfold jrCells; rw [List.length_append, jrHead_length _ _ hk, List.length_append, hsl]; rfl
  have hfin : ∀ W' gj, Blk W' gj 89 (jrCells gd J).toArray → JAt W' gj gd J := fun W' gj hb => ⟨hb, hk, ht⟩
  generalize hkey : bs J.key = key at *
  generalize hst : stCells J.start J.count J.tag = st at *
  generalize hcs : jrCells gd J = cs at *
  have HK := Lib.hid hkl
  have HSL := Lib.hid hsl
  have HJL := Lib.hid hjl
  have HS0 := Lib.hid hs0
  have HKEY := Lib.hid hkey
  have HST := Lib.hid hst
  have HCS := Lib.hid hcs
  have g1 : ¬ (J.first : Int) < 0 := by omega
  have g2 : ¬ (J.size : Int) < 1 := by omega
  have g3 : ¬ (D.places.length : Int) < (J.first : Int) := by omega
  have g4 : ¬ (D.places.length : Int) - (J.first : Int) < (J.size : Int) := by omega
  have g5 : ¬ (J.next : Int) < 1 := by omega
  have g6 : ¬ 9223372036854775807 < (J.limit : Int) := by omega
  have HW0 := Lib.hid hW0
  have HB := Lib.hid hbuilt
  clear hkl hsl hjl hs0 hkey hst hcs hW0 hbuilt hk ht
  have hsz : J.size < 18446744073709551616 := by omega
  have hf2 : J.first ≤ 1048576 := by omega
  have hs2 : J.size ≤ 1048576 := by omega
  generalize J.first = first at *
  generalize J.size = size at *
  generalize J.next = next at *
  generalize J.limit = limit at *
  have d3 : decide (D.places.length < first) = false := decide_eq_false (by omega)
  have d4 : decide ((D.places.length : Int) - (first : Int) < (size : Int)) = false := decide_eq_false (by omega)
  have d5 : decide (next < 1) = false := decide_eq_false (by omega)
  have d6 : decide ((next : Int) < 1) = false := decide_eq_false (by omega)
  have d7 : decide (9223372036854775807 < limit) = false := decide_eq_false (by omega)
  have d8 : decide (9223372036854775807 < (limit : Int)) = false := decide_eq_false (by omega)
  go_enter Tryz.func8, Tryz.ntmps8
  go_wp2_with (first | (go_at_call 31; refine (hsize _ (by rw [← HW0.out]; exact hD0)).mono ?_; rintro e w1 ⟨rfl, rfl⟩) | ((refine wpList_load_mid_w (op := ⟨some 37, _, _, _, _, _⟩) (by rfl) 41 _ rfl (w.heap.size + 1) 0 rfl st _ (by rw [← HW0.out]; exact Blk.range ks) Tryz.underlying41 rfl (by rw [HSL.out]; kernel_rfl) ?_)) | (go_at_call 32; refine (hmay _).mono ?_; rintro e w1 ⟨rfl, b1⟩; rw [← HW0.out] at b1; have kk1 := kk.below b1 kk.lt; have ks1 := ks.below b1 ks.lt) | ((with_reducible refine wpList_load_mid (op := ⟨some 52, _, _, _, _, _⟩) rfl 23 _ rfl w.heap.size 0 rfl key _ (Blk.range kk1) Tryz.underlying23 rfl (by rw [HK.out]; kernel_rfl) ?_)) | ((with_reducible refine wpList_load_mid (op := ⟨some 56, _, _, _, _, _⟩) rfl 41 _ rfl (w.heap.size + 1) 0 rfl st _ (Blk.range ks1) Tryz.underlying41 rfl (by rw [HSL.out]; kernel_rfl) ?_)) | ((refine wpList_build_plain (o := ⟨some 59, _, _, _, _, _⟩) rfl 89 [_, _, _, _, _, _, _] rfl _ rfl cs.toArray HB.out ?_)))
  refine bodyPost_ret (results_tmp2 rfl _ _ _) rfl ?_
  have y1 : Below w.heap.size w w1 := y0.trans (b1.mono y0.size)
  exact ⟨w1.heap.size, rfl, y1.size, hfin _ _ (Blk.new _ _ _), y1.alloc y1.size _⟩
end Go.Proofs.YtkhebllmnagkmaaGreatDoor
