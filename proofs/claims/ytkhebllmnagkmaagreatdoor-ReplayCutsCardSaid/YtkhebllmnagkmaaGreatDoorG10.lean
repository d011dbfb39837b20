/- Contracts and lemmas under the statements of this seat, one behind the other. Conditions: what each names. -/
import Derived.Test.YtkhebllmnagkmaaGreatDoorG9
/- Contract of the closure of the journal's Append: one record is sealed, linked, written. Conditions: what each names. -/
namespace Go.Proofs.YtkhebllmnagkmaaGreatDoor
open Go.RowKit
set_option linter.unusedVariables false

/-- As Only, but for one block more. -/
structure OnlyBut (F : Nat → Prop) (b : Nat) (w w' : World) : Prop where
  os : w'.os = w.os
  tape : w'.tape = w.tape
  output : w'.output = w.output
  size : w.heap.size ≤ w'.heap.size
  block : ∀ k, k < w.heap.size → k ≠ b → (¬ F k ∨ ∃ t, Kind w k t ∧ t ∉ wet) → w'.heap[k]? = w.heap[k]?
section
variable {F F' : Nat → Prop} {b : Nat} {w w' w1 : World}
theorem OnlyBut.refl (F : Nat → Prop) (b : Nat) (w : World) : OnlyBut F b w w := ⟨rfl, rfl, rfl, Nat.le_refl _, fun _ _ _ _ => rfl⟩
theorem OnlyBut.trans (h : OnlyBut F b w w1) (k : OnlyBut F' b w1 w') (hF : ∀ i, i < w.heap.size → F' i → F i) : OnlyBut F b w w' :=
  ⟨k.os.trans h.os, k.tape.trans h.tape, k.output.trans h.output, Nat.le_trans h.size k.size, fun i hi hb hn =>
    (k.block i (Nat.lt_of_lt_of_le hi h.size) hb (hn.imp (fun hn hf => hn (hF i hi hf)) (fun ⟨t, ht, hw⟩ => ⟨t, ht.same (h.block i hi hb (.inr ⟨t, ht, hw⟩)), hw⟩))).trans (h.block i hi hb hn)⟩
theorem OnlyBut.of_only (h : Only F w w') : OnlyBut F b w w' := ⟨h.os, h.tape, h.output, h.size, fun k hk _ hn => h.block k hk hn⟩
theorem OnlyBut.of_below (h : Below w.heap.size w w') : OnlyBut F b w w' := OnlyBut.of_only (Only.of_below h)
theorem OnlyBut.under (h : OnlyBut F b w w1) (hb : Below w1.heap.size w1 w') : OnlyBut F b w w' := h.trans (OnlyBut.of_below (F := F) hb) (fun _ _ hf => hf)
theorem OnlyBut.only (h : OnlyBut F b w w1) (k : Only F' w1 w') (hF : ∀ i, i < w.heap.size → F' i → F i) : OnlyBut F b w w' := h.trans (OnlyBut.of_only k) hF
theorem OnlyBut.grown (h : OnlyBut F b w w1) (hg : w1.grownBy w' (some b)) : OnlyBut F b w w' := h.trans (F' := F) ⟨hg.os, hg.tape, hg.output, hg.size, fun k hk hb _ => hg.block k hk (fun e => hb (by injection e))⟩ (fun _ _ hf => hf)
/-- Where the one block is new. -/
theorem OnlyBut.only_of (h : OnlyBut F b w1 w') (h0 : Only F w w1) (hb : w.heap.size ≤ b) : Only F w w' :=
  ⟨h.os.trans h0.os, h.tape.trans h0.tape, h.output.trans h0.output, Nat.le_trans h0.size h.size, fun k hk hn =>
    (h.block k (Nat.lt_of_lt_of_le hk h0.size) (by omega) (hn.imp id (fun ⟨t, ht, hw⟩ => ⟨t, ht.same (h0.block k hk (.inr ⟨t, ht, hw⟩)), hw⟩))).trans (h0.block k hk hn)⟩
end
theorem jr_next (gd : Nat) (J : Jr) (hk : J.key.length = 32) (ht : J.tag.length = 32) (n : Nat) : (jrCells gd J).toArray.setIfInBounds 69 (.int .u64 (n : Int)) = (jrCells gd { J with next := n }).toArray := by
  obtain ⟨first, size, start, count, next, limit, key, tag⟩ := J
  obtain ⟨f, hf⟩ := list_ofFn 32 key hk
  obtain ⟨h, hh⟩ := list_ofFn 32 tag ht
  clear hk ht
  subst hf hh
  kernel_rfl
theorem st_count (a c : Nat) (x : Value) (tag : List UInt8) : (stCells a c tag).toArray.setIfInBounds 1 x = ([Value.int .u64 (a : Int), x] ++ bs tag).toArray := by simp [stCells]
theorem DiskAt.keepW {F : Nat → Prop} {w w' : World} {g : Nat} {D : Dk} {vp vu vo : Value} {xp xu xo : List Value} (h : DiskAt w g F D vp vu vo xp xu xo) (hs : w.heap.size ≤ w'.heap.size) (hk : ∀ k t, Kind w k t → ((F k ∧ t ∈ wet ∧ t ≠ 89) ∨ t = 5) → w'.heap[k]? = w.heap[k]?) : DiskAt w' g F D vp vu vo xp xu xo :=
  ⟨(hk g _ h.blk.kind (.inl ⟨h.fg, by decide, by decide⟩)).trans h.blk, h.fg, own_keep h.op (fun k e => hk k _ (own_kind h.op e) (.inl ⟨h.fp k e, by decide, by decide⟩)), h.fp, h.rp.keep hs fun k hK => hk k _ hK (.inr rfl), own_keep h.ou (fun k e => hk k _ (own_kind h.ou e) (.inl ⟨h.fu k e, by decide, by decide⟩)), h.fu,
    h.ru.keep hs fun k hK => hk k _ hK (.inr rfl), own_keep h.oo (fun k e => hk k _ (own_kind h.oo e) (.inl ⟨h.fo k e, by decide, by decide⟩)), h.fo⟩
theorem Disk.keepW {F : Nat → Prop} {w w' : World} {g : Nat} {D : Dk} (h : Disk w g F D) (hs : w.heap.size ≤ w'.heap.size) (hk : ∀ k t, Kind w k t → ((F k ∧ t ∈ wet ∧ t ≠ 89) ∨ t = 5) → w'.heap[k]? = w.heap[k]?) : Disk w' g F D := by
  obtain ⟨vp, vu, vo, xp, xu, xo, h⟩ := h
  exact ⟨vp, vu, vo, xp, xu, xo, h.keepW hs hk⟩
theorem Blk.there_mid {w : World} {g o n : Nat} {t : TypeId} {cs : Array Value} (h : Blk w g t cs) (hn : o + n ≤ cs.size) : w.there g o n := fun j hj =>
  ⟨by rw [h.cell (o + j), Array.getElem?_eq_getElem (by omega)]; rfl, h.frozen (o + j)⟩
theorem Blk.same_ne {w : World} {g k : Nat} {t t' : TypeId} {cs : Array Value} (h : Blk w g t cs) (hk : Kind w k t') (hne : t' ≠ t) : k ≠ g := by
  rintro rfl
  exact hne (hk.uniq h.kind)
set_option maxRecDepth 100000 in
set_option maxHeartbeats 4000000 in
theorem put_any (bj gj gd bs' : Nat) (F : Nat → Prop) (D : Dk) (J : Jr) (start count block : Nat) (tag bytes : List UInt8) (last : Bool) (A : Option Addr) (c : Nat) (w : World)
    (hbj : Blk w bj 36 #[.pointer (some ⟨gj, 0, none⟩)]) (hJ : JAt w gj gd J) (hst : Blk w bs' 41 (stCells start count tag).toArray) (hD : Disk w gd F D) (hFj : ¬ F gj) (htl : tag.length = 32)
    (hdn : D.down = false) (hlf : D.left < 0) (hn1 : D.way.length ≤ 1048576) (hn2 : D.ops ≤ 1048576) (hpl : D.places.length ≤ 1048576)
    (hr : Reads w w.heap.size 1 A 160 (bs bytes)) (hbl : block < 18446744073709551616) (h1 : 1 ≤ J.size) (h2 : J.first + J.size ≤ D.places.length) (h3 : start < J.size) (h4 : count ≤ J.size) (hv0 : 1 ≤ J.next) (hv1 : J.next < 9223372036854775807) (hT : Tabs w) (hgj2 : 1 + 0 < gj) (hbs2 : 1 + 0 < bs') :
    Calls Tryz.prog 35 #[.agg #[.int .u64 (block : Int), .slice A 160 c, .bool last], .pointer (some ⟨bj, 0, none⟩), .pointer (some ⟨bs', 0, none⟩)] w fun e w' => e = .returned (.int .i64 0) ∧
      Blk w' bs' 41 (stCells start (count + 1) (linkB tag (J.first + (start + count) % J.size) (sealB J.key (J.first + (start + count) % J.size) J.next (recB block bytes last)))).toArray ∧ JAt w' gj gd { J with next := J.next + 1 } ∧
      Disk w' gd (more F w.heap.size) { D with way := D.way ++ [(J.first + (start + count) % J.size, sealB J.key (J.first + (start + count) % J.size) J.next (recB block bytes last))], ops := D.ops + 1 } ∧ OnlyBut (fun k => F k ∨ k = gj) bs' w w' := by
  have hmod : (start + count) % J.size < J.size := Nat.mod_lt _ (by omega)
  have hpm : (((start + count) % J.size : Nat) : Int) = ((start : Int) + (count : Int)) % (J.size : Int) := by simp
  obtain ⟨place, hplace⟩ : ∃ place, place = J.first + (start + count) % J.size := ⟨_, rfl⟩
  have hpi : (place : Int) = (J.first : Int) + ((start : Int) + (count : Int)) % (J.size : Int) := by rw [hplace, ← hpm]; simp
  have hplt : place < D.places.length := by omega
  rw [← hplace]
  obtain ⟨W0, hW0⟩ : ∃ W0 : World, W0 = w.alloc (.cells #[.int .u64 (block : Int), .slice A 160 c, .bool last] 95) := ⟨_, rfl⟩
  have y0 : Below w.heap.size w W0 := by rw [hW0]; exact (Below.refl _ _).alloc (Nat.le_refl _) _
  have kr : Blk W0 w.heap.size 95 #[.int .u64 (block : Int), .slice A 160 c, .bool last] := by rw [hW0]; exact Blk.new_of rfl rfl
  have hbj0 := hbj.below y0 hbj.lt
  have hst0 := hst.below y0 hst.lt
  have hJ0 := hJ.under y0
  have a1 : W0.cell? ⟨bj, 0, none⟩ = some (.pointer (some ⟨gj, 0, none⟩)) := hbj0.cell 0
  have a2 := hJ0.c33
  have a3 := hJ0.c34
  have a4 : W0.cell? ⟨bs', 0, none⟩ = some (.int .u64 (start : Int)) := hst0.cell 0
  have a5 : W0.cell? ⟨bs', 1, none⟩ = some (.int .u64 (count : Int)) := hst0.cell 1
  have hwa : IntKind.u64.wrap ((start : Int) + (count : Int)) = (start : Int) + (count : Int) := by rw [IntKind.wrap_u64]; omega
  have hmi : ((start : Int) + (count : Int)) % (J.size : Int) < (J.size : Int) := by rw [← hpm]; omega
  have hmj : (0 : Int) ≤ ((start : Int) + (count : Int)) % (J.size : Int) := by rw [← hpm]; omega
  have hsz0 : ¬ (J.size : Int) = 0 := by omega
  have hsz1 : ¬ J.size = 0 := by omega
  have htm : ((start : Int) + (count : Int)).tmod (J.size : Int) = ((start : Int) + (count : Int)) % (J.size : Int) := Int.tmod_eq_emod_of_nonneg (by omega)
  have hsz2 : ((J.size : Int) == 0) = false := by rw [beq_eq_false_iff_ne]; omega
  have hw5 : IntKind.i64.wrap (place : Int) = (place : Int) := by rw [IntKind.wrap_i64]; omega
  have hw6 : IntKind.u32.wrap (place : Int) = (place : Int) := by rw [IntKind.wrap_u32]; omega
  have hw2 : IntKind.i64.wrap (((start : Int) + (count : Int)) % (J.size : Int)) = ((start : Int) + (count : Int)) % (J.size : Int) := by rw [IntKind.wrap_i64]; omega
  have hw3 : IntKind.i64.wrap ((J.first : Int) + ((start : Int) + (count : Int)) % (J.size : Int)) = (place : Int) := by rw [IntKind.wrap_i64]; omega
  have hw4 : (J.first : Int) + ((start : Int) + (count : Int)) % (J.size : Int) = (place : Int) := hpi.symm
  have HW0 := Lib.hid hW0
  have HPM := Lib.hid hpm
  have HPL := Lib.hid hplace
  have HPI := Lib.hid hpi
  have HDN := Lib.hid hdn
  have HTL := Lib.hid htl
  clear hW0 hpm hplace hpi hdn htl
  go_enter Tryz.func35, Tryz.ntmps35
  go_wp2
  rw [← HW0.out]
  go_region_held3 (fun w' => w'.cell? ⟨bj, 0, none⟩ = some (.pointer (some ⟨gj, 0, none⟩)) ∧ w'.cell? ⟨gj, 33, none⟩ = some (.int .i64 (J.first : Int)) ∧ w'.cell? ⟨gj, 34, none⟩ = some (.int .u64 (J.size : Int)) ∧ w'.cell? ⟨bs', 0, none⟩ = some (.int .u64 (start : Int)) ∧ w'.cell? ⟨bs', 1, none⟩ = some (.int .u64 (count : Int))) (exact ⟨a1, a2, a3, a4, a5⟩) (fail)
  have ydr : Below w.heap.size w W0.drew := y0.drew
  have hk := hJ.hk
  have hrl := recB_length block bytes last
  have hby : bytes.length = 160 := by have := hr.1; rw [bs_length] at this; omega
  rw [hby] at hrl
  have hrp : Reads W0.drew W0.drew.heap.size 1 A 160 (bs bytes) := (hr.below ydr).more ydr.size
  have hput := rput_any block bytes last A c W0.drew hrp hbl
  have q1 : W0.drew.cell? ⟨w.heap.size, 0, none⟩ = some (.int .u64 (block : Int)) := kr.cell 0
  have q2 : W0.drew.cell? ⟨w.heap.size, 1, none⟩ = some (.slice A 160 c) := kr.cell 1
  have q3 : W0.drew.cell? ⟨w.heap.size, 2, none⟩ = some (.bool last) := kr.cell 2
  have hplace32 : place < 4294967296 := by omega
  have hsl : sealB J.key place J.next (recB block bytes last) = sealB J.key place J.next (recB block bytes last) := rfl
  have hslen := sealB_length J.key place J.next (recB block bytes last)
  have hseal := fun W A c h hT => seal_any J.key (recB block bytes last) place J.next A c W h (.inr hrl) hk hplace32 (by omega) (by omega) hT
  generalize hslot : sealB J.key place J.next (recB block bytes last) = slot at *
  generalize hrb : recB block bytes last = rb at *
  have HSLOT := Lib.hid hslot
  have HRB := Lib.hid hrb
  have HSL := Lib.hid hslen
  have HRL := Lib.hid hrl
  clear hsl hslot hrb hslen hrl hwa hmi hmj hsz0 hsz1 hsz2 hw2 hw3 hw4 hw5 htm a1 a2 a3 a4 a5 hby
  go_wp2_with (go_at_call 36; refine hput.mono ?_; rintro e w1 ⟨v1, rfl, hv1, b1⟩; obtain ⟨A1, c1, rfl⟩ := hv1.shape)
  have y1 : Below w.heap.size w w1 := ydr.trans (b1.mono ydr.size)
  have hJ1 : JAt w1.drew gj gd J := (hJ.under y1).drew
  have hbj1 : Blk w1.drew bj 36 #[.pointer (some ⟨gj, 0, none⟩)] := (hbj.below y1 hbj.lt).drew
  have r1 : Reads w1.drew w1.drew.heap.size 1 A1 rb.length (bs rb) := hv1.reads
  have hT1 : Tabs w1.drew := (hT.under y1).drew
  have d1 : w1.drew.cell? ⟨bj, 0, none⟩ = some (.pointer (some ⟨gj, 0, none⟩)) := hbj1.cell 0
  have d2 := hJ1.c69
  have d3 := hJ1.key_
  have l1 := hbj1.lt
  have l2 := hJ1.blk.lt
  have hi39 : (Tryz.prog.info? 23).map (·.size) = some (bs J.key).length := by rw [bs_length, hk]; kernel_rfl
  have hu39 := Tryz.underlying23
  clear q1 q2 q3 hput hrp kr
  go_region_held3 (fun w' => w'.cell? ⟨bj, 0, none⟩ = some (.pointer (some ⟨gj, 0, none⟩)) ∧ w'.cell? ⟨gj, 69, none⟩ = some (.int .u64 (J.next : Int)) ∧ w'.rangeAt gj 1 (bs J.key)) (first | (exact ⟨d1, d2, d3⟩) | (exact ⟨e1, e2, e3⟩)) (first | (go_at_call 37; refine (hseal _ A1 c1 r1 hT1).mono ?_; rintro e w2 ⟨g2, rfl, hg2, k2, b2⟩; have e1 := (b2.cell (p := ⟨bj, 0, none⟩) l1).trans d1; have e2 := (b2.cell (p := ⟨gj, 69, none⟩) l2).trans d2; have e3 := range_below d3 b2 l2))
  have y2 : Below w.heap.size w w2 := y1.trans ((below_of_drewN (n := 1) b2).mono y1.size)
  clear hseal d1 d2 d3 hJ1 hbj1 r1 hT1 hi39 hu39
  have hst2 := hst.below y2 hst.lt
  have hJ2 := hJ.under y2
  have hbj2 := hbj.below y2 hbj.lt
  have f1 : w2.cell? ⟨bj, 0, none⟩ = some (.pointer (some ⟨gj, 0, none⟩)) := hbj2.cell 0
  have f2 := hJ2.c69
  have f3 := hJ2.blk.frozen 69
  have n1 : bj ≠ gj := fun e => by subst e; exact absurd (hbj2.kind.uniq hJ2.blk.kind) (by decide)
  have n2 : bs' ≠ gj := fun e => by subst e; exact absurd (hst2.kind.uniq hJ2.blk.kind) (by decide)
  have n3 : bj ≠ bs' := fun e => by subst e; exact absurd (hbj2.kind.uniq hst2.kind) (by decide)
  have n4 : gj ≠ bs' := n2.symm
  have n5 : gj ≠ bj := n1.symm
  have n6 : bs' ≠ bj := n3.symm
  have f4 : w2.cell? ⟨bs', 1, none⟩ = some (.int .u64 (count : Int)) := hst2.cell 1
  have f5 := hst2.frozen 1
  have ex : ((J.next : Int) + 1) = ((J.next + 1 : Nat) : Int) := by simp
  have ey : ((count : Int) + 1) = ((count + 1 : Nat) : Int) := by simp
  obtain ⟨W4, hW4⟩ : ∃ W4 : World, W4 = (w2.setCell ⟨gj, 69, none⟩ (.int .u64 ((J.next : Int) + 1))).setCell ⟨bs', 1, none⟩ (.int .u64 ((count : Int) + 1)) := ⟨_, rfl⟩
  have st4 : Blk W4 bs' 41 (stCells start (count + 1) tag).toArray := by
    rw [hW4, ey]
    have h := (hst2.far (p := ⟨gj, 69, none⟩) n2 (.int .u64 ((J.next : Int) + 1))).set_ 1 (.int .u64 ((count + 1 : Nat) : Int))
    rw [st_count] at h
    exact h
  have J4 : JAt W4 gj gd { J with next := J.next + 1 } := by
    refine ⟨?_, hJ.hk, hJ.ht⟩
    rw [hW4, ex]
    have h := (hJ2.blk.set_ 69 (.int .u64 ((J.next + 1 : Nat) : Int))).far (p := ⟨bs', 1, none⟩) n4 (.int .u64 ((count : Int) + 1))
    rw [jr_next gd J hJ.hk hJ.ht] at h
    exact h
  have hs4 : W4.heap.size = w2.heap.size := by rw [hW4]; simp [World.setCell]
  have far4 : ∀ k, k ≠ gj → k ≠ bs' → W4.heap[k]? = w2.heap[k]? := fun k h1 h2 => by rw [hW4]; exact (Below.heap_setCell _ _ _ _ h2).trans (Below.heap_setCell _ _ _ _ h1)
  have O2 : OnlyBut (fun k => F k ∨ k = gj) bs' w w2 := OnlyBut.of_below y2
  have O4 : OnlyBut (fun k => F k ∨ k = gj) bs' w W4 := by
    have h1 := O2.only (Only.setCell (Only.refl (fun k => F k ∨ k = gj) w2) (p := ⟨gj, 69, none⟩) (.inl (.inr rfl)) hJ2.blk.kind (by decide) (.int .u64 ((J.next : Int) + 1))) (fun _ _ hf => hf)
    rw [hW4]
    exact h1.grown (only_setCell (World.grownBy.refl _ _) (.inl rfl) _)
  have bj4 : Blk W4 bj 36 #[.pointer (some ⟨gj, 0, none⟩)] := (far4 bj n1 n3).trans hbj2
  have u8far : ∀ k, Kind w2 k 5 → W4.heap[k]? = w2.heap[k]? := fun k hK => far4 k (hJ2.blk.same_ne hK (by decide)) (hst2.same_ne hK (by decide))
  have r4 : Reads W4 W4.heap.size 1 (some ⟨g2, 0, none⟩) 192 (bs slot) := by
    have h := (Blk.reads (w := W4) ((u8far g2 k2.kind).trans k2))
    rw [HSL.out] at h
    exact h
  have hD2 := hD.under y2
  have hD4 : Disk W4 gd F D := hD2.keepW (by omega) fun k t hK hf => by
    rcases hf with ⟨h1, h2, h3⟩ | h1
    · exact far4 k (fun e => hFj (e ▸ h1)) (fun e => by subst e; exact absurd h2 (hK.uniq hst2.kind ▸ by decide))
    · subst h1; exact u8far k hK
  have T4 : Tabs W4 := by
    have h2 := hT.under y2
    exact ⟨fun i hi => (World.cell?_of_block (a := ⟨1, i, none⟩) (far4 _ (by show 1 ≠ gj; omega) (by show 1 ≠ bs'; omega))).trans (h2.k i hi), fun i hi => (World.cell?_of_block (a := ⟨0, i, none⟩) (far4 _ (by show 0 ≠ gj; omega) (by show 0 ≠ bs'; omega))).trans (h2.q i hi), by rw [hs4]; exact h2.size⟩
  have rg4 : W4.rangeAt bs' 2 (bs tag) := fun j v hj => by
    refine (st4.cell (2 + j)).trans ?_
    rw [List.getElem?_toArray]
    unfold stCells
    rw [List.getElem?_append_right (by simp), List.length_cons, List.length_singleton, Nat.add_sub_cancel_left]
    exact hj
  have HW4 := Lib.hid hW4
  clear hW4
  have htl := HTL.out
  have hlink := link_any tag slot place (some ⟨g2, 0, none⟩) 192 W4 htl hplace32 r4 T4
  have hll := linkB_length tag place slot
  generalize hlk : linkB tag place slot = lk at *
  have HLK := Lib.hid hlk
  have HLL := Lib.hid hll
  have hi39 : (Tryz.prog.info? 23).map (·.size) = some (bs tag).length := by rw [bs_length, htl]; kernel_rfl
  have hi39b : (Tryz.prog.info? 23).map (·.size) = some (bs lk).toArray.size := by rw [List.size_toArray, bs_length, hll]; kernel_rfl
  have HI := Lib.hid hi39
  have HIB := Lib.hid hi39b
  have h1b : (bs lk).toArray.all (·.oneCell') = true := bs_all _
  have HOB := Lib.hid h1b
  clear hlk hll hi39 hi39b h1b htl ex ey hJ0 hst0 hbj0 b1 b2 hv1
  go_wp2_with (first | ((with_reducible refine wpList_load_mid (op := ⟨some 63, _, _, _, _, _⟩) rfl 23 _ rfl bs' 2 rfl (bs tag) _ (by rw [← HW4.out]; exact rg4) Tryz.underlying23 rfl HI.out ?_)) | (go_at_call 16; rw [← HW4.out]; refine hlink.mono ?_; rintro e w5 ⟨rfl, b5⟩; have st5 := st4.below b5 st4.lt; have th5 : w5.there bs' 2 (bs lk).toArray.size := st5.there_mid (by rw [List.size_toArray, List.size_toArray, stCells_length, bs_length, HLL.out, HTL.out]; exact Nat.le_refl _)) | ((with_reducible refine wpList_store_mid (op := ⟨none, .store 23 (.tmp 68) (.tmp 67), _, _, _, _⟩) rfl 23 (.tmp 68) (.tmp 67) rfl bs' 2 (bs lk).toArray rfl rfl th5 HIB.out HOB.out ?_); rw [List.toList_toArray]; have k6 := Blk.put (g := bs') (t := 41) (bs lk) [.int .u64 (start : Int), .int .u64 ((count + 1 : Nat) : Int)] (bs tag) [] w5 (by rw [bs_length, bs_length, HLL.out, HTL.out]) (by rw [List.append_nil]; exact st5); have g6 : w5.grownBy (w5.setCells bs' 2 (bs lk)) (some bs') := grownBy_setCells _ _ _ (World.grownBy.refl _ _); have J6 := (J4.under b5).keep (g6.block gj (J4.under b5).blk.lt (fun e => by injection e with e; exact n4 e)); have bj6 := (bj4.below b5 bj4.lt).grown g6 (fun e => by injection e with e; exact n3 e); have p1 : (w5.setCells bs' 2 (bs lk)).cell? ⟨bj, 0, none⟩ = some (.pointer (some ⟨gj, 0, none⟩)) := bj6.cell 0; have p2 := J6.c0))
  have hD6 : Disk (w5.setCells bs' 2 (bs lk)) gd F D := (hD4.under b5).keepW g6.size (fun k t hK hf => g6.block k hK.lt (fun e => by
    injection e with e
    subst e
    rcases hf with ⟨_, h2, _⟩ | h1
    · rw [hK.uniq st5.kind] at h2
      exact absurd h2 (by decide)
    · subst h1
      exact absurd (hK.uniq st5.kind) (by decide)))
  have kk4 : Blk W4 g2 5 (bs slot).toArray := (u8far g2 k2.kind).trans k2
  have kk6 := (kk4.below b5 kk4.lt).grown g6 (fun e => by injection e with e; subst e; exact absurd (k2.kind.uniq hst2.kind) (by decide))
  have r6 := kk6.reads
  rw [HSL.out] at r6
  refine (dwrite_any gd place F D (some ⟨g2, 0, none⟩) 192 slot _ hD6 HDN.out hlf hplt r6 hn1 hn2).mono ?_
  rintro e w7 ⟨rfl, hD7, hO7⟩
  clear f1 f2 f3 f4 f5 p1 p2 hlink e1 e2 e3 hD6 r6 kk4 kk6
  go_wp2
  go_ret
  have hs6 : (w5.setCells bs' 2 (bs lk)).heap.size ≥ w.heap.size := by have h1 := O4.size; have h2 := b5.size; have h3 := g6.size; omega
  refine ⟨rfl, ?_, J6.keep (hO7.block gj J6.blk.lt (.inl hFj)), ?_, ((O4.under b5).grown g6).only hO7 (fun i hi hf => .inl hf)⟩
  · rw [HRB.out, HSLOT.out, HLK.out]
    have h := hO7.blk k6 (.inr (by decide))
    rw [List.append_nil] at h
    exact h
  · rw [HRB.out, HSLOT.out]
    exact hD7.mono fun k hk hf => hf.imp id (fun h => by omega)
end Go.Proofs.YtkhebllmnagkmaaGreatDoor
/- Contracts of slices.ContainsFunc at images, record.Of, where all is well. Conditions: what each names. -/
namespace Go.Proofs.YtkhebllmnagkmaaGreatDoor
open Go.RowKit
set_option linter.unusedVariables false

/-- A row of images: two cells each. -/
def RowI (w : World) (xs : List Value) (l : List (Nat × List UInt8)) : Prop := ∀ (i : Nat) (p : Nat × List UInt8), l[i]? = some p → xs[2 * i]? = some (.int .u64 (p.1 : Int)) ∧ ∃ v, xs[2 * i + 1]? = some v ∧ IsSl w v p.2
/-- A row of records: three cells each. -/
def RowR (w : World) (xs : List Value) (l : List (Nat × List UInt8)) (n : Nat) : Prop := ∀ (i : Nat) (p : Nat × List UInt8), l[i]? = some p → xs[3 * i]? = some (.int .u64 (p.1 : Int)) ∧ (∃ v, xs[3 * i + 1]? = some v ∧ IsSl w v p.2) ∧ xs[3 * i + 2]? = some (.bool (decide (i + 1 = n)))
theorem RowI.keep {w w' : World} {xs : List Value} {l : List (Nat × List UInt8)} (h : RowI w xs l) (hs : w.heap.size ≤ w'.heap.size) (hk : ∀ k, Kind w k 5 → w'.heap[k]? = w.heap[k]?) : RowI w' xs l := fun i b hb => by
  obtain ⟨h0, v, h1, h2⟩ := h i b hb
  exact ⟨h0, v, h1, h2.keep hs hk⟩
theorem RowI.under {w w' : World} {xs : List Value} {l : List (Nat × List UInt8)} (h : RowI w xs l) (hb : Below w.heap.size w w') : RowI w' xs l := h.keep hb.size fun k hk => hb.block k hk.lt
theorem RowR.keep {w w' : World} {xs : List Value} {l : List (Nat × List UInt8)} {n : Nat} (h : RowR w xs l n) (hs : w.heap.size ≤ w'.heap.size) (hk : ∀ k, Kind w k 5 → w'.heap[k]? = w.heap[k]?) : RowR w' xs l n := fun i b hb => by
  obtain ⟨h0, ⟨v, h1, h2⟩, h3⟩ := h i b hb
  exact ⟨h0, ⟨v, h1, h2.keep hs hk⟩, h3⟩
theorem odd_no (x : Nat) (A : Option Addr) (c : Nat) (w : World) : Calls Tryz.prog 63 #[.agg #[.int .u64 (x : Int), .slice A 160 c]] w fun e w' => e = .returned (.bool false) ∧ Below w.heap.size w w' := by
  go_enter Tryz.func63, Tryz.ntmps63
  go_wp2
  go_ret
  exact ⟨rfl, (Below.refl _ _).alloc (Nat.le_refl _) _⟩
set_option maxRecDepth 100000 in
set_option maxHeartbeats 1000000 in
theorem iindex_no (g o n c : Nat) (xs : List Value) (l : List (Nat × List UInt8)) (w : World) (hr : Reads w w.heap.size 2 (some ⟨g, o, none⟩) n xs) (hl : l.length = n) (hi : RowI w xs l) (h160 : ∀ p ∈ l, p.2.length = 160) (hn : n ≤ 1048576) :
    Calls Tryz.prog 87 #[.slice (some ⟨g, o, none⟩) n c, .func (.func 63) #[] #[]] w fun e w' => e = .returned (.int .i64 (-1)) ∧ Below w.heap.size w w' := by
  have eg := enters_of Tryz.func63 (by kernel_rfl) rfl
  go_enter Tryz.func87, Tryz.ntmps87
  go_wp2
  go_loopw [8] (fun ix wr => ∃ k : Nat, k ≤ n ∧ ix = .int .i64 k ∧ Below w.heap.size w wr) (fun ix _ => n - (intOf ix).toNat)
  case atStart => exact ⟨0, by omega, rfl, Below.refl _ _⟩
  case round =>
    obtain ⟨k, hk, rfl, hw⟩ := hrel
    by_cases hlt : k < n
    · have hpk : l[k]? = some (l[k]'(by omega)) := List.getElem?_eq_getElem (by omega)
      obtain ⟨u0, v, u1, A', c', hv, _⟩ := hi k _ hpk
      rw [h160 _ (List.getElem_mem _)] at hv
      subst hv
      obtain ⟨ad, e, hb, hc⟩ := hr.2 (by omega)
      injection e with e
      subst e
      have d1 := hc _ _ u0
      have d2 := hc _ _ u1
      rw [Addr.add_mid] at d1 d2
      have e1 : wr.cell? ⟨g, o + k * 2, none⟩ = some (.int .u64 ((l[k]'(by omega)).1 : Int)) := by rw [Nat.mul_comm k 2]; exact (hw.cell (p := ⟨g, o + 2 * k, none⟩) hb).trans d1
      have e2 : wr.cell? ⟨g, o + k * 2 + 1, none⟩ = some (.slice A' 160 c') := by rw [Nat.mul_comm k 2]; exact (hw.cell (p := ⟨g, o + (2 * k + 1), none⟩) hb).trans d2
      generalize (l[k]'(by omega)).1 = x at *
      clear d1 d2 u0 u1 hc hpk hi h160
      go_wp2_with (refine (odd_no x A' c' _).mono ?_; rintro e w' ⟨rfl, b1⟩)
      go_roundw
      case rel => exact ⟨k + 1, by omega, by go_num, hw.trans (b1.mono hw.size)⟩
      case measure => simp [intOf]; omega
    · have hps : n ≤ k := by omega
      clear hk
      go_wp2
      go_ret
      exact ⟨rfl, hw⟩
theorem icontains_no (g o n c : Nat) (xs : List Value) (l : List (Nat × List UInt8)) (w : World) (hr : Reads w w.heap.size 2 (some ⟨g, o, none⟩) n xs) (hl : l.length = n) (hi : RowI w xs l) (h160 : ∀ p ∈ l, p.2.length = 160) (hn : n ≤ 1048576) :
    Calls Tryz.prog 64 #[.slice (some ⟨g, o, none⟩) n c, .func (.func 63) #[] #[]] w fun e w' => e = .returned (.bool false) ∧ Below w.heap.size w w' := by
  have h := iindex_no g o n c xs l w hr hl hi h160 hn
  clear hr hl hi h160
  go_enter Tryz.func64, Tryz.ntmps64
  go_wp2_with (go_at_call 87; refine h.mono ?_; rintro e w' ⟨rfl, b1⟩)
  go_ret
  exact ⟨rfl, b1⟩
theorem info87 : (Tryz.prog.info? 95).map (fun i => (i.zero, i.size, i.bytes)) = some (some (.agg #[.int .u64 0, .slice none 0 0, .bool false]), 3, 40) := by kernel_rfl
theorem RowR.snoc {w : World} {xs : List Value} {l : List (Nat × List UInt8)} {n x : Nat} {v : Value} {b : List UInt8} {B : Bool} (h : RowR w xs l n) (hl : xs.length = 3 * l.length) (hv : IsSl w v b) (hB : B = decide (l.length + 1 = n)) : RowR w (xs ++ [.int .u64 (x : Int), v, .bool B]) (l ++ [(x, b)]) n := by
  intro j p hp
  rw [List.getElem?_append] at hp
  split at hp
  · obtain ⟨h0, ⟨u, h1, h2⟩, h3⟩ := h j p hp
    exact ⟨by rw [List.getElem?_append_left (by omega)]; exact h0, ⟨u, by rw [List.getElem?_append_left (by omega)]; exact h1, h2⟩, by rw [List.getElem?_append_left (by omega)]; exact h3⟩
  · have hi : j = l.length := by
      rcases Nat.lt_or_ge (j - l.length) 1 with h1 | h1
      · omega
      · rw [List.getElem?_eq_none (by simp; omega)] at hp; cases hp
    subst hi
    rw [Nat.sub_self] at hp
    cases hp
    refine ⟨by rw [← hl, List.getElem?_append_right (Nat.le_refl _), Nat.sub_self]; rfl, ⟨v, ?_, hv⟩, ?_⟩
    · rw [List.getElem?_append_right (by omega), show 3 * l.length + 1 - xs.length = 1 by omega]
      rfl
    · rw [List.getElem?_append_right (by omega), show 3 * l.length + 2 - xs.length = 2 by omega, hB]
      rfl
set_option maxRecDepth 100000 in
set_option maxHeartbeats 4000000 in
theorem of_ok (g o n c : Nat) (xs : List Value) (l : List (Nat × List UInt8)) (w : World) (hr : Reads w w.heap.size 2 (some ⟨g, o, none⟩) n xs) (hl : l.length = n) (hi : RowI w xs l) (h160 : ∀ p ∈ l, p.2.length = 160) (h1 : 1 ≤ n) (hn : n ≤ 1048576) :
    Calls Tryz.prog 33 #[.slice (some ⟨g, o, none⟩) n c] w fun e w' => ∃ v xr, e = .returned (.tuple #[v, .int .i64 0]) ∧ w'.ownsRow w.heap.size 95 3 v n xr ∧ RowR w' xr l n ∧ Below w.heap.size w w' := by
  obtain ⟨i0, ii0, hz0, hz1, hz2⟩ := info_parts info87
  have hcon := icontains_no g o n c xs l w hr hl hi h160 hn
  have hn0 : ¬ (n : Int) = 0 := by omega
  have hn0' : ¬ n = 0 := by omega
  have hn0b : ((n : Int) == 0) = false := by rw [beq_eq_false_iff_ne]; omega
  go_enter Tryz.func33, Tryz.ntmps33
  go_wp2_with (go_at_call 64; refine hcon.mono ?_; rintro e w1 ⟨rfl, b1⟩)
  clear hcon hn0 hn0' hn0b
  go_loopw [5, 18] (fun v ix wr => ∃ (k : Nat) (A : Option Addr) (cc : Nat) (xr : List Value), k ≤ n ∧ ix = .int .i64 k ∧ v = .slice A k cc ∧ wr.ownsRow w.heap.size 95 3 (.slice A k cc) k xr ∧ RowR wr xr (l.take k) n ∧ Below w.heap.size w wr) (fun _ ix _ => n - (intOf ix).toNat)
  case atStart => exact ⟨0, none, 0, [], by omega, rfl, rfl, World.ownsRow_nil _ _ _ _, fun i p hp => by simp at hp, b1⟩
  case round =>
    obtain ⟨k, A, cc, xr, hk, rfl, rfl, ho, hR, hw⟩ := hrel
    by_cases hlt : k < n
    · have hpk : l[k]? = some (l[k]'(by omega)) := List.getElem?_eq_getElem (by omega)
      obtain ⟨u0, v, u1, hsl⟩ := (hi.under (w' := wr) (hw)) k _ hpk
      have hbl := h160 _ (List.getElem_mem (h := (by omega : k < l.length)))
      obtain ⟨A', c', hv, hcap, hrd⟩ := hsl.reads
      subst hv
      obtain ⟨ad, e, hb, hc⟩ := hr.2 (by omega)
      injection e with e
      subst e
      have d1 := hc _ _ u0
      have d2 := hc _ _ u1
      rw [Addr.add_mid] at d1 d2
      have htk : l.take (k + 1) = l.take k ++ [l[k]'(by omega)] := List.take_succ_eq_append_getElem (by omega)
      have e1 : wr.cell? ⟨g, o + k * 2, none⟩ = some (.int .u64 ((l[k]'(by omega)).1 : Int)) := by rw [Nat.mul_comm k 2]; exact (hw.cell (p := ⟨g, o + 2 * k, none⟩) hb).trans d1
      have e2 : wr.cell? ⟨g, o + k * 2 + 1, none⟩ = some (.slice A' (l[k]'(by omega)).2.length c') := by rw [Nat.mul_comm k 2]; exact (hw.cell (p := ⟨g, o + (2 * k + 1), none⟩) hb).trans d2
      have hlt2 : (l.take k).length = k := by rw [List.length_take]; omega
      generalize l[k]'(by omega) = p at *
      clear d1 d2 hpk u0 u1 hsl hc
      obtain ⟨Wa, hWa⟩ : ∃ Wa : World, Wa = wr.alloc (.cells #[.int .u64 (p.1 : Int), .slice A' p.2.length c'] 79) := ⟨_, rfl⟩
      have ya : Below wr.heap.size wr Wa := by rw [hWa]; exact (Below.refl _ _).alloc (Nat.le_refl _) _
      have sa : Wa.heap.size = wr.heap.size + 1 := by rw [hWa, size_alloc']
      have ka : Blk Wa wr.heap.size 79 #[.int .u64 (p.1 : Int), .slice A' p.2.length c'] := by rw [hWa]; exact Blk.new_of rfl rfl
      have hclo := clone_any A' p.2.length c' p.2 Wa ((hrd.below ya).more ya.size) (by omega)
      have hbnd : ∀ b, (Value.slice A k cc).ownBlock = some b → w.heap.size ≤ b ∧ b < wr.heap.size := World.ownsRow.lt ho
      have HWa := Lib.hid hWa
      have HTK := Lib.hid htk
      have HL2 := Lib.hid hlt2
      have HBL := Lib.hid hbl
      have hm1 : k + 1 ≤ maxLen := by unfold maxLen; omega
      have hm2 : (k + 1) * 40 ≤ 140737488355328 := by omega
      have hone : ∀ (a : Int) (A : Option Addr) (m c : Nat) (b : Bool), ∀ u ∈ [Value.int .u64 a, .slice A m c, .bool b], u.oneCell' = true := by intro a A m c b u hu; simp only [List.mem_cons, List.not_mem_nil, or_false] at hu; rcases hu with rfl | rfl | rfl <;> rfl
      clear hWa htk hlt2 hbl hrd hi h160
      go_wp2_with (first | (go_at_call 43; rw [← HWa.out]; refine hclo.mono ?_; rintro e w2 ⟨v2, rfl, hv2, b2⟩; obtain ⟨A2, cc2, rfl⟩ := hv2.shape; have k2 := ka.below b2 ka.lt; have x0 : w2.cell? ⟨wr.heap.size, 0, none⟩ = some (.int .u64 (p.1 : Int)) := k2.cell 0; have x1 : w2.cell? ⟨wr.heap.size, 1, none⟩ = some (.slice A' p.2.length c') := k2.cell 1; have fx1 := k2.frozen 1; have ho2 : w2.ownsRow w.heap.size 95 3 (.slice A k cc) k xr := (own_keep ho (fun b e => (b2.block b (by have := (hbnd b e).2; omega)).trans (ya.block b (hbnd b e).2))); have ho4 := ownsRow_setCell_other ho2 (a := ⟨wr.heap.size, 1, none⟩) (fun e => by have := (hbnd _ e).2; exact absurd this (Nat.lt_irrefl _)) (.slice A2 p.2.length cc2); have kn : Blk ((w2.setCell ⟨wr.heap.size, 1, none⟩ (.slice A2 p.2.length cc2)).alloc (.cells #[.int .u64 (p.1 : Int), .slice A2 p.2.length cc2, .bool ((k : Int) == (n : Int) - 1)] 95)) w2.heap.size 95 [Value.int .u64 (p.1 : Int), .slice A2 p.2.length cc2, .bool ((k : Int) == (n : Int) - 1)].toArray := Blk.new_of (by simp [World.setCell]) rfl; have hnews := kn.rows 1 3 rfl; have hbase : w.heap.size ≤ ((w2.setCell ⟨wr.heap.size, 1, none⟩ (.slice A2 p.2.length cc2)).alloc (.cells #[.int .u64 (p.1 : Int), .slice A2 p.2.length cc2, .bool ((k : Int) == (n : Int) - 1)] 95)).heap.size := (by have h1 := hw.size; have h2 := b2.size; rw [size_alloc']; simp [World.setCell]; omega)) | (at_builtin; refine wpList_append_any _ rfl (.tmp 27) (.tmp 35) 90 rfl w.heap.size 95 i0 _ 3 40 Tryz.underlying90 ii0 hz0 hz1 hz2 rfl (by omega) (.slice A k cc) k xr rfl (World.ownsRow.alloc ho4 _) _ (some ⟨w2.heap.size, 0, none⟩) 1 1 [.int .u64 (p.1 : Int), .slice A2 p.2.length cc2, .bool ((k : Int) == (n : Int) - 1)] rfl hnews (hone _ _ _ _ _) hm1 hm2 hbase ?_; intro v6 w6 hown6 hg6 hat6; obtain ⟨A6, cc6, rfl⟩ := own_shape hown6))
      have h8 : ∀ b, Kind wr b 5 → w6.heap[b]? = wr.heap[b]? := fun b hK => by
        have hb1 := hK.lt
        have hs2 := b2.size
        refine (hg6.block b (by rw [size_alloc']; simp [World.setCell]; omega) (fun e => ?_)).trans ?_
        · exact absurd (hK.uniq (own_kind ho e.symm)) (by decide)
        · exact (Below.heap_alloc _ _ b (by simp [World.setCell]; omega)).trans ((Below.heap_setCell _ _ _ _ (by show b ≠ wr.heap.size; omega)).trans ((b2.block b (by omega)).trans (ya.block b hb1)))
      have hs6 : wr.heap.size ≤ w6.heap.size := by have h1 := hg6.size; have h2 := b2.size; rw [size_alloc'] at h1; simp [World.setCell] at h1; omega
      have hR6 : RowR w6 xr (l.take k) n := hR.keep hs6 h8
      have hv6 : IsSl w6 (.slice A2 p.2.length cc2) p.2 := by
        refine (hv2.isSl).keep (by have h1 := hg6.size; rw [size_alloc'] at h1; simp [World.setCell] at h1; omega) fun b hK => ?_
        have hb1 := hK.lt
        refine (hg6.block b (by rw [size_alloc']; simp [World.setCell]; omega) (fun e => ?_)).trans ((Below.heap_alloc _ _ b (by simp [World.setCell]; omega)).trans (Below.heap_setCell _ _ _ _ ?_))
        · exact absurd (hK.uniq (own_kind ho2 e.symm)) (by decide)
        · show b ≠ wr.heap.size
          rintro rfl
          exact absurd (hK.uniq k2.kind) (by decide)
      have hB : ((k : Int) == (n : Int) - 1) = decide ((l.take k).length + 1 = n) := by
        rw [HL2.out, Bool.eq_iff_iff, beq_iff_eq, decide_eq_true_iff]
        omega
      have hR7 := hR6.snoc (x := p.1) (by have := ho.1; rw [HL2.out]; omega) hv6 hB
      rw [← HTK.out] at hR7
      have hw6 : Below w.heap.size w w6 := by
        have y1 := (hw.trans (ya.mono hw.size)).trans (b2.mono (by have := hw.size; omega))
        exact ((y1.setCell (p := ⟨wr.heap.size, 1, none⟩) hw.size _).alloc (by have := hw.size; have := b2.size; simp [World.setCell]; omega) _).grown hg6 hbase (fun b e => (hbnd b e).1)
      clear hclo
      go_wp2
      go_roundw
      case rel => exact ⟨k + 1, A6, cc6, _, by omega, by go_num, rfl, hown6, hR7, hw6⟩
      case measure => simp [intOf]; omega
    · have hkk : k = n := by omega
      have hps : n ≤ k := by omega
      have HK := Lib.hid hkk
      clear hkk hlt hk
      go_wp2
      go_ret2
      rw [HK.out] at ho hR
      rw [List.take_of_length_le (by omega)] at hR
      refine ⟨_, xr, ?_, ho, hR, hw⟩
      rw [HK.out]
      rfl
end Go.Proofs.YtkhebllmnagkmaaGreatDoor
