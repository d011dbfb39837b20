/- Contracts and lemmas under the statements of this seat, one behind the other. Conditions: what each names. -/
import Derived.Test.YtkhebllmnagkmaaGreatDoorG12
import Derived.Test.YtkhebllmnagkmaaGreatDoorG14
import Derived.Test.YtkhebllmnagkmaaGreatDoorG7
import Derived.Test.YtkhebllmnagkmaaGreatDoorG11
import Derived.Maps.RangeWalk
import Derived.Maps.OwnOps
import Derived.Maps.Views
/- Contract of replay.Load: of a disk that is up, and a state that may be; the slots are sealed records, if their links are the state's. Conditions: what each names. -/
namespace Go.Proofs.YtkhebllmnagkmaaGreatDoor
open Go.RowKit
set_option linter.unusedVariables false

def ldPlace (first size start k : Nat) : Nat := first + (start + k) % size
/-- The slots that a load reads, with their places. -/
def ldSlots (D : Dk) (first size start n : Nat) : List (Nat × List UInt8) := (List.range n).map fun k => (ldPlace first size start k, readAt D (ldPlace first size start k))
theorem ldSlots_snoc (D : Dk) (first size start n : Nat) : ldSlots D first size start (n + 1) = ldSlots D first size start n ++ [(ldPlace first size start n, readAt D (ldPlace first size start n))] := by
  unfold ldSlots
  rw [List.range_succ, List.map_append]
  rfl
theorem ldSlots_length (D : Dk) (first size start n : Nat) : (ldSlots D first size start n).length = n := by simp [ldSlots]
theorem ldSlots_get (D : Dk) (first size start n k : Nat) (h : k < n) : (ldSlots D first size start n)[k]? = some (ldPlace first size start k, readAt D (ldPlace first size start k)) := by simp [ldSlots, h]
/-- A row of pieces, in memory. -/
def RowP (w : World) (xs : List Value) (l : List (Nat × List UInt8)) : Prop := ∀ (i : Nat) (p : Nat × List UInt8), l[i]? = some p → xs[2 * i]? = some (.int .u32 (p.1 : Int)) ∧ ∃ v, xs[2 * i + 1]? = some v ∧ IsSl w v p.2
section
variable {w w' : World} {xs : List Value} {l : List (Nat × List UInt8)} {F : Nat → Prop}
theorem RowP.keep (h : RowP w xs l) (hs : w.heap.size ≤ w'.heap.size) (hk : ∀ k, Kind w k 5 → w'.heap[k]? = w.heap[k]?) : RowP w' xs l := fun i b hb => by
  obtain ⟨h0, v, h1, h2⟩ := h i b hb
  exact ⟨h0, v, h1, h2.keep hs hk⟩
theorem RowP.only (h : RowP w xs l) (ho : Only F w w') : RowP w' xs l := h.keep ho.size fun k hk => ho.kind hk (.inr dry_u8)
theorem RowP.under (h : RowP w xs l) (hb : Below w.heap.size w w') : RowP w' xs l := h.keep hb.size fun k hk => hb.block k hk.lt
theorem RowP.snoc {i : Nat} {s : Value} {b : List UInt8} (h : RowP w xs l) (hl : xs.length = 2 * l.length) (hs : IsSl w s b) : RowP w (xs ++ [.int .u32 (i : Int), s]) (l ++ [(i, b)]) := by
  intro j p hp
  rw [List.getElem?_append] at hp
  split at hp
  · obtain ⟨h0, u, h1, h2⟩ := h j p hp
    exact ⟨by rw [List.getElem?_append_left (by omega)]; exact h0, u, by rw [List.getElem?_append_left (by omega)]; exact h1, h2⟩
  · have hi : j = l.length := by
      rcases Nat.lt_or_ge (j - l.length) 1 with h1 | h1
      · omega
      · rw [List.getElem?_eq_none (by simp; omega)] at hp; cases hp
    subst hi
    rw [Nat.sub_self] at hp
    cases hp
    refine ⟨by rw [← hl, List.getElem?_append_right (Nat.le_refl _), Nat.sub_self]; rfl, s, ?_, hs⟩
    rw [List.getElem?_append_right (by omega), show 2 * l.length + 1 - xs.length = 1 by omega]
    rfl
theorem Only.fresh {a : World} (h : Only F a w) {row : Option Nat} (hg : w.grownBy w' row) (hr : ∀ k, row = some k → a.heap.size ≤ k) : Only F a w' :=
  ⟨hg.os.trans h.os, hg.tape.trans h.tape, hg.output.trans h.output, Nat.le_trans h.size hg.size, fun k hk hn => (hg.block k (Nat.lt_of_lt_of_le hk h.size) (fun e => by have := hr k e.symm; omega)).trans (h.block k hk hn)⟩
/-- A row of another kind grows beside the disk. -/
theorem Disk.beside {g : Nat} {D : Dk} {row : Option Nat} (h : Disk w g F D) (hg : w.grownBy w' row) (hr : ∀ k, row = some k → ∃ t, Kind w k t ∧ t ∉ wet ∧ t ≠ 5) : Disk w' g F D :=
  h.keepW hg.size fun k t hK hf => hg.block k hK.lt fun e => by
    obtain ⟨t', hK', h1, h2⟩ := hr k e.symm
    have := hK.uniq hK'
    subst this
    exact hf.elim (fun h => h1 h.2.1) h2
theorem RowP.beside {row : Option Nat} (h : RowP w xs l) (hg : w.grownBy w' row) (hr : ∀ k, row = some k → ∃ t, Kind w k t ∧ t ≠ 5) : RowP w' xs l :=
  h.keep hg.size fun k hK => hg.block k hK.lt fun e => by
    obtain ⟨t', hK', h1⟩ := hr k e.symm
    exact h1 (hK'.uniq hK)
theorem Only.tabs (h : Only F w w') (hT : Tabs w) (hF : ∀ k, F k → 1 + 0 < k) : Tabs w' :=
  (OnlyBut.of_only (b := w.heap.size) h).tabs hT hF (by have := hT.size; omega)
end
theorem RowG.snoc {w : World} {xs : List Value} {l : List Rec} {x : Nat} {v : Value} {b : List UInt8} {B : Bool} (h : RowG w xs l) (hl : xs.length = 3 * l.length) (hv : IsSl w v b) : RowG w (xs ++ [.int .u64 (x : Int), v, .bool B]) (l ++ [((x, b), B)]) := by
  intro j p hp
  rw [List.getElem?_append] at hp
  split at hp
  · obtain ⟨h0, ⟨u, h1, h2⟩, h3⟩ := h j p hp
    exact ⟨by rw [List.getElem?_append_left (by omega)]; exact h0, ⟨u, by rw [List.getElem?_append_left (by omega)]; exact h1, h2⟩, by rw [List.getElem?_append_left (by omega)]; exact h3⟩
  · have hi : j = l.length := by
      rcases Nat.lt_or_ge (j - l.length) 1 with h1 | h1
      · omega
      · rw [List.getElem?_eq_none (by simp; omega)] at hp; cases hp
    subst hi
    rw [Nat.sub_self] at hp
    cases hp
    refine ⟨by rw [← hl, List.getElem?_append_right (Nat.le_refl _), Nat.sub_self]; rfl, ⟨v, ?_, hv⟩, ?_⟩
    · rw [List.getElem?_append_right (by omega), show 3 * l.length + 1 - xs.length = 1 by omega]
      rfl
    · rw [List.getElem?_append_right (by omega), show 3 * l.length + 2 - xs.length = 2 by omega]
      rfl
theorem OnlyBut.fresh {F : Nat → Prop} {b : Nat} {a w w' : World} (h : OnlyBut F b a w) {row : Option Nat} (hg : w.grownBy w' row) (hr : ∀ k, row = some k → a.heap.size ≤ k) : OnlyBut F b a w' :=
  ⟨hg.os.trans h.os, hg.tape.trans h.tape, hg.output.trans h.output, Nat.le_trans h.size hg.size, fun k hk hb hn => (hg.block k (Nat.lt_of_lt_of_le hk h.size) (fun e => by have := hr k e.symm; omega)).trans (h.block k hk hb hn)⟩
theorem readAt_len (D : Dk) (i : Nat) (hi : i < D.places.length) (h1 : ∀ b ∈ D.places, b.length = 192) (h2 : ∀ p ∈ D.way, p.2.length = 192) : (readAt D i).length = 192 := by
  unfold readAt
  split
  · rename_i p hp
    exact h2 p (List.mem_reverse.1 (List.mem_of_find?_eq_some hp))
  · rw [List.getD_eq_getElem?_getD, List.getElem?_eq_getElem hi]
    exact h1 _ (List.getElem_mem hi)
theorem info97 : (Tryz.prog.info? 122).map (fun i => (i.zero, i.size, i.bytes)) = some (some (.agg #[.int .u32 0, .slice none 0 0]), 2, 32) := by kernel_rfl
set_option maxRecDepth 100000 in
set_option maxHeartbeats 4000000 in
theorem load_any (gd first size start count : Nat) (F : Nat → Prop) (D : Dk) (key stag : List UInt8) (recs : List Rec) (w : World) (hD : Disk w gd F D) (hk : key.length = 32) (ht : stag.length = 32) (h1 : 1 ≤ size) (h2 : first + size ≤ D.places.length) (hp : D.places.length ≤ 1048576) (h3 : start < size) (h4 : count ≤ size)
    (hdn : D.down = false) (hpl : ∀ b ∈ D.places, b.length = 192) (hwl : ∀ p ∈ D.way, p.2.length = 192) (hn1 : D.way.length ≤ 1048576) (hn2 : D.ops + count ≤ 1048576) (hT : Tabs w) (hF2 : ∀ k, F k → 1 + 0 < k)
    (hrl : recs.length = count)
    (hrec : tagOf (List.replicate 32 0) (ldSlots D first size start count) = stag → (∀ k r, recs[k]? = some r → r.1.2.length = 160 ∧ r.1.1 < 18446744073709551616 ∧ ∃ v, v ≠ 0 ∧ v < 18446744073709551615 ∧ readAt D (ldPlace first size start k) = sealB key (ldPlace first size start k) v (recB r.1.1 r.1.2 r.2)) ∧ ∀ r, recs[count - 1]? = some r → r.2 = true) :
    Calls Tryz.prog 17 #[.pointer (some ⟨gd, 0, none⟩), .agg (bs key).toArray, .int .i64 (first : Int), .int .i64 (size : Int), .agg (stCells start count stag).toArray] w fun e w' =>
      ((tagOf (List.replicate 32 0) (ldSlots D first size start count) ≠ stag ∧ e = .returned (.tuple #[.slice none 0 0, .int .i64 14])) ∨
       (tagOf (List.replicate 32 0) (ldSlots D first size start count) = stag ∧ ∃ v ys, e = .returned (.tuple #[v, .int .i64 0]) ∧ w'.ownsRow w.heap.size 24 1 v (chg recs).out.length ys ∧ RowC w' ys (chg recs).out)) ∧
      Disk w' gd (more F w.heap.size) { D with ops := D.ops + count } ∧ Only F w w' := by
  obtain ⟨i0, ii0, hz0, hz1, hz2⟩ := info_parts info97
  obtain ⟨i1, ii1, hy0, hy1, hy2⟩ := info_parts info87
  obtain ⟨W0, hW0⟩ : ∃ W0 : World, W0 = (w.alloc (.cells (bs key).toArray 23)).alloc (.cells (stCells start count stag).toArray 41) := ⟨_, rfl⟩
  have y0 : Below w.heap.size w W0 := by rw [hW0]; exact ((Below.refl _ _).alloc (Nat.le_refl _) _).alloc (by simp) _
  have hs0 : W0.heap.size = w.heap.size + 2 := by rw [hW0]; simp
  have kk0 : Blk W0 w.heap.size 23 (bs key).toArray := by rw [hW0]; exact (Blk.new_of rfl rfl).alloc _
  have ks0 : Blk W0 (w.heap.size + 1) 41 (stCells start count stag).toArray := by rw [hW0]; exact Blk.new_of (by simp) rfl
  have hnew := jnew_any gd F D ⟨first, size, start, count, 1, 1, key, stag⟩ W0 (hD.under y0) hk ht h1 h2 hp h3 h4 (Nat.le_refl _) (by show 1 ≤ 9223372036854775807; omega)
  have z1 : (bs key).toArray.size = 32 := by simp [bs_length, hk]
  have z2 : (stCells start count stag).toArray.size = 34 := by rw [List.size_toArray, stCells_length, ht]
  have HW0 := Lib.hid hW0
  have Z1 := Lib.hid z1
  have Z2 := Lib.hid z2
  have HK := Lib.hid hk
  have HT := Lib.hid ht
  clear hW0 z1 z2 hk ht
  have hDb : Disk W0 gd (fun k => F k ∧ k < w.heap.size) D := hD.bound.under y0
  have z32 : List.replicate 32 (0 : UInt8) = List.replicate 32 0 := rfl
  go_enter Tryz.func17, Tryz.ntmps17
  go_wp2_with (first | ((with_reducible refine wpList_load_blk (o := ⟨some 29, _, _, _, _, _⟩) rfl 23 _ rfl w.heap.size rfl 23 _ _ (by rw [← HW0.out]; exact kk0) Tryz.underlying23 rfl (by rw [Z1.out]; kernel_rfl) ?_)) | ((with_reducible refine wpList_load_blk (o := ⟨some 32, _, _, _, _, _⟩) rfl 41 _ rfl (w.heap.size + 1) rfl 41 _ _ (by rw [← HW0.out]; exact ks0) Tryz.underlying41 rfl (by rw [Z2.out]; kernel_rfl) ?_)) | (go_at_call 8; rw [← HW0.out]; refine hnew.mono ?_; rintro e w1 ⟨gj, rfl, hgj, _, b1⟩; have kk1 := kk0.below b1 kk0.lt; have ks1 := ks0.below b1 ks0.lt; have hs1 := b1.size; have hl1 : w.heap.size + 1 < w1.heap.size := ks1.lt; have x1 : w1.cell? ⟨w.heap.size + 1, 1, none⟩ = some (.int .u64 (count : Int)) := ks1.cell 1))
  obtain ⟨W3, hW3⟩ : ∃ W3 : World, W3 = w1.alloc (.cells (bs (List.replicate 32 0)).toArray 23) := ⟨_, rfl⟩
  rw [show (w1.alloc (.cells #[.int .u8 0, .int .u8 0, .int .u8 0, .int .u8 0, .int .u8 0, .int .u8 0, .int .u8 0, .int .u8 0, .int .u8 0, .int .u8 0, .int .u8 0, .int .u8 0, .int .u8 0, .int .u8 0, .int .u8 0, .int .u8 0, .int .u8 0, .int .u8 0, .int .u8 0, .int .u8 0, .int .u8 0, .int .u8 0, .int .u8 0, .int .u8 0, .int .u8 0, .int .u8 0, .int .u8 0, .int .u8 0, .int .u8 0, .int .u8 0, .int .u8 0, .int .u8 0] 23)) = W3 from hW3.symm]
  have b13 : Below w1.heap.size w1 W3 := by rw [hW3]; exact (Below.refl _ _).alloc (Nat.le_refl _) _
  have hs3 : W3.heap.size = w1.heap.size + 1 := by rw [hW3]; simp
  have kt3 : Blk W3 w1.heap.size 23 (bs (List.replicate 32 0)).toArray := by rw [hW3]; exact Blk.new_of rfl rfl
  have y1 : Below w.heap.size w w1 := y0.trans (b1.mono y0.size)
  have y3 : Below w.heap.size w W3 := y1.trans (b13.mono y1.size)
  have kk3 := kk1.below b13 kk1.lt
  have ks3 := ks1.below b13 ks1.lt
  have D3 : Disk W3 gd (fun k => F k ∧ k < w.heap.size) D := (hDb.under b1).under b13
  have T3 := hT.under y3
  have HW3 := Lib.hid hW3
  clear hnew hW3 x1 b1 b13 hDb kk1 ks1
  generalize hbt : w1.heap.size = bt at *
  have hlg : ∀ k, (ldSlots D first size start k).length = k := ldSlots_length D first size start
  have hbt2 : 1 + 0 < bt := by have := hT.size; omega
  have hFn : ∀ k, (F k ∧ k < w.heap.size) → 1 + 0 < k := fun k hk => hF2 k hk.1
  go_loopw [14, 41] (fun vl ix wr => ∃ (k : Nat) (A : Option Addr) (c : Nat) (xs : List Value), k ≤ count ∧ ix = .int .u64 k ∧ vl = .slice A k c ∧ wr.ownsRow W3.heap.size 122 2 (.slice A k c) k xs ∧ RowP wr xs (ldSlots D first size start k) ∧ Blk wr bt 23 (bs (tagOf (List.replicate 32 0) (ldSlots D first size start k))).toArray ∧
    Disk wr gd (more (fun k => F k ∧ k < w.heap.size) W3.heap.size) { D with ops := D.ops + k } ∧ OnlyBut (fun k => F k ∧ k < w.heap.size) bt W3 wr) (fun _ ix _ => count - (intOf ix).toNat)
  case atStart => exact ⟨0, none, 0, [], by omega, rfl, rfl, World.ownsRow_nil _ _ _ _, fun i p hp => by simp [ldSlots] at hp, kt3, D3.mono fun k _ hk => .inl hk, OnlyBut.refl _ _ _⟩
  case round =>
    obtain ⟨k, A, c, xs, hk, rfl, rfl, hol, hRl, ktr, Dr, Or⟩ := hrel
    have ksr := Or.blk ks3 (by omega) (by decide)
    have kkr := Or.blk kk3 (by omega) (by decide)
    have hsr := Or.size
    have Tr := Or.tabs T3 hFn hbt2
    by_cases hlt : k < count
    · have q0 : wr.cell? ⟨w.heap.size + 1, 0, none⟩ = some (.int .u64 (start : Int)) := ksr.cell 0
      have q1 : wr.cell? ⟨w.heap.size + 1, 1, none⟩ = some (.int .u64 (count : Int)) := ksr.cell 1
      have hmod : (start + k) % size < size := Nat.mod_lt _ (by omega)
      have hpm : (((start + k) % size : Nat) : Int) = ((start : Int) + (k : Int)) % (size : Int) := by simp
      have hsn := ldSlots_snoc D first size start k
      obtain ⟨place, hplace⟩ : ∃ place, place = ldPlace first size start k := ⟨_, rfl⟩
      have hpi : (first : Int) + ((start : Int) + (k : Int)) % (size : Int) = (place : Int) := by rw [hplace, ← hpm]; unfold ldPlace; simp
      have hplt : place < D.places.length := by rw [hplace]; unfold ldPlace; omega
      rw [← hplace] at hsn
      have hmi : ((start : Int) + (k : Int)) % (size : Int) < (size : Int) := by rw [← hpm]; omega
      have hmj : (0 : Int) ≤ ((start : Int) + (k : Int)) % (size : Int) := by rw [← hpm]; omega
      have hsz0 : ¬ (size : Int) = 0 := by omega
      have hrd := dread_any gd place (more (fun k => F k ∧ k < w.heap.size) W3.heap.size) { D with ops := D.ops + k } wr Dr hdn hplt hpl hwl hn1 (by show D.ops + k ≤ 1048576; omega)
      have hrl' : (readAt { D with ops := D.ops + k } place) = readAt D place := rfl
      rw [hrl'] at hrd
      have HSN := Lib.hid hsn
      have HPM := Lib.hid hpm
      have HPL := Lib.hid hplace
      have hp32 : place < 4294967296 := by omega
      have hp64 : (place : Int) ≤ 1048576 := by omega
      have htl : (tagOf (List.replicate 32 0) (ldSlots D first size start k)).length = 32 := tagOf_length _ _ (by simp)
      clear hsn hpm hplace hrl'
      have hrl5 := readAt_len D place hplt hpl hwl
      have hlk := fun W A c h hT => link_any (tagOf (List.replicate 32 0) (ldSlots D first size start k)) (readAt D place) place A c W htl hp32 h hT
      have hLB := linkB_length (tagOf (List.replicate 32 0) (ldSlots D first size start k)) place (readAt D place)
      have HTG : tagOf (List.replicate 32 0) (ldSlots D first size start (k + 1)) = linkB (tagOf (List.replicate 32 0) (ldSlots D first size start k)) place (readAt D place) := by rw [HSN.out, tagOf_snoc]
      have hone1 := bs_one (l := linkB (tagOf (List.replicate 32 0) (ldSlots D first size start k)) place (readAt D place))
      generalize linkB (tagOf (List.replicate 32 0) (ldSlots D first size start k)) place (readAt D place) = tag' at *
      generalize htg : tagOf (List.replicate 32 0) (ldSlots D first size start k) = tag at *
      generalize hsl : readAt D place = slot at *
      have hall : (bs tag').toArray.all (·.oneCell') = true := bs_all tag'
      have hm1 : k + 1 ≤ maxLen := by unfold maxLen; omega
      have hm2 : (k + 1) * 32 ≤ 140737488355328 := by omega
      have hone : ∀ (a : Int) (A : Option Addr) (m c : Nat), ∀ u ∈ [Value.int .u32 a, .slice A m c], u.oneCell' = true := by intro a A m c u hu; simp only [List.mem_cons, List.not_mem_nil, or_false] at hu; rcases hu with rfl | rfl <;> rfl
      have hbnd : ∀ b, (Value.slice A k c).ownBlock = some b → W3.heap.size ≤ b ∧ b < wr.heap.size := World.ownsRow.lt hol
      have hnF : ¬ more (fun k => F k ∧ k < w.heap.size) W3.heap.size bt := fun h => by rcases h with h | h; exact absurd h.2 (by omega); omega
      have z3 : (bs tag).toArray.size = 32 := by simp [bs_length, htl]
      have z4 : (bs tag).toArray.size = (bs tag').toArray.size := by simp [bs_length, htl, hLB]
      have z5 : (Tryz.prog.info? 23).map (·.size) = some (bs tag').toArray.size := by rw [← z4, z3]; kernel_rfl
      have HTL := Lib.hid htl
      have HLB := Lib.hid hLB
      have HSG := Lib.hid htg
      have HSL := Lib.hid hsl
      have HR5 := Lib.hid hrl5
      have Z3 := Lib.hid z3
      have Z4 := Lib.hid z4
      have Z5 := Lib.hid z5
      have HTG := Lib.hid HTG
      clear htl hLB htg hsl hrl5 z3 z4 z5
      go_wp2_with (first | (go_at_call 15; refine hrd.mono ?_; rintro e w5 ⟨v5, rfl, hv5, D5, O5⟩; obtain ⟨A5, c5, hvs⟩ := hv5.shape; rw [HR5.out] at hvs; subst hvs; have kt5 := O5.blk ktr (.inl hnF); have r5 := hv5.reads; rw [HR5.out] at r5; have T5 := O5.tabs Tr (fun k hk => by rcases hk with hk | hk; exact hFn k hk; omega)) | ((with_reducible refine wpList_load_blk (o := ⟨some 63, _, _, _, _, _⟩) rfl 23 _ rfl bt rfl 23 _ _ kt5 Tryz.underlying23 rfl (by rw [Z3.out]; kernel_rfl) ?_)) | (go_at_call 16; refine (hlk _ A5 c5 r5 T5).mono ?_; rintro e w6 ⟨rfl, b6⟩; have kt6 := kt5.below b6 kt5.lt) | ((with_reducible refine wpList_store_blk (o := ⟨none, .store 23 (.tmp 15) (.tmp 67), _, _, _, _⟩) rfl 23 (.tmp 15) (.tmp 67) rfl bt (bs tag').toArray rfl rfl 23 _ kt6 Z5.out Z4.out hall ?_); intro w7 kt7 g7 s7; have S7 := Lib.hid s7; have hs77 : w6.heap.size ≤ w7.heap.size := Nat.le_of_eq s7.symm; clear s7; have hs56 := b6.size; have hs5 := O5.size; have hol7 : w7.ownsRow W3.heap.size 122 2 (.slice A k c) k xs := (own_keep (O5.own hol (.inr (by decide))) (fun b e => (g7.block b (by have := (hbnd b e).2; omega) (fun e2 => by have h1 := (hbnd b e).1; have h2 := Option.some.inj e2; omega)).trans (b6.block b (by have := (hbnd b e).2; omega)))); have hnews := Blk.rows (xs := [Value.int .u32 (place : Int), .slice A5 192 c5]) 1 2 (Blk.new w7 122 #[Value.int .u32 (place : Int), .slice A5 192 c5]) rfl; have hbase : W3.heap.size ≤ (w7.alloc (.cells #[Value.int .u32 (place : Int), .slice A5 192 c5] 122)).heap.size := (by rw [size_alloc']; omega)) | (at_builtin; refine wpList_append_any _ rfl (.tmp 68) (.tmp 73) 120 rfl W3.heap.size 122 i0 _ 2 32 Tryz.underlying120 ii0 hz0 hz1 hz2 rfl (by omega) (.slice A k c) k xs rfl (World.ownsRow.alloc hol7 _) _ (some ⟨w7.heap.size, 0, none⟩) 1 1 [_, _] rfl hnews (hone _ _ _ _) hm1 hm2 hbase ?_; intro v9 w9 hown9 hg9 hat9; obtain ⟨A9, cc9, rfl⟩ := own_shape hown9))
      go_roundw
      case rel =>
        have hs7 : w7.heap.size = w6.heap.size := S7.out
        have k9 : ∀ (b : Nat) (t : TypeId), Kind w7 b t → t ≠ 122 → w9.heap[b]? = w7.heap[b]? := fun b t hK hne => (hg9.block b (by rw [size_alloc']; have := hK.lt; omega) (fun e => hne (hK.uniq (own_kind hol7 e.symm)))).trans (Below.heap_alloc _ _ b hK.lt)
        have hs9 : w7.heap.size ≤ w9.heap.size := by have h := hg9.size; rw [size_alloc'] at h; omega
        have u67 : ∀ b, Kind w6 b 5 → w7.heap[b]? = w6.heap[b]? := fun b hK => g7.block b hK.lt (fun e => by have h2 := Option.some.inj e; subst h2; exact absurd (hK.uniq kt6.kind) (by decide))
        have hv7 : IsSl w7 (.slice A5 192 c5) slot := (hv5.isSl.under b6).keep (by omega) u67
        have hv9 : IsSl w9 (.slice A5 192 c5) slot := hv7.keep hs9 fun b hK => k9 b _ hK (by decide)
        have hR7 : RowP w7 xs (ldSlots D first size start k) := ((hRl.only O5).under b6).keep (by omega) u67
        have hR9 : RowP w9 (xs ++ [.int .u32 (place : Int), .slice A5 192 c5]) (ldSlots D first size start (k + 1)) := by
          rw [HSN.out]
          exact (hR7.keep hs9 fun b hK => k9 b _ hK (by decide)).snoc (by rw [hlg, hol.1]; omega) hv9
        have D7 : Disk w7 gd (more (more (fun k => F k ∧ k < w.heap.size) W3.heap.size) wr.heap.size) { D with ops := D.ops + k + 1 } := (D5.under b6).beside g7 fun b e => ⟨23, by injection e with e; subst e; exact kt6.kind, by decide, by decide⟩
        have D9 : Disk w9 gd (more (fun k => F k ∧ k < w.heap.size) W3.heap.size) { D with ops := D.ops + (k + 1) } := by
          refine (D7.keepW hs9 fun b t hK hf => k9 b t hK ?_).mono fun b _ hf => ?_
          · rintro rfl
            rcases hf with hf | hf
            · exact absurd hf.2.1 (by decide)
            · exact absurd hf (by decide)
          · rcases hf with hf | hf
            · exact hf
            · exact .inr (by omega)
        have O9 : OnlyBut (fun k => F k ∧ k < w.heap.size) bt W3 w9 :=
          ((((Or.only O5 (fun i hi hf => hf.elim id (fun h => by omega))).under b6).grown g7).under ((Below.refl _ _).alloc (Nat.le_refl _) (.cells #[Value.int .u32 (place : Int), .slice A5 192 c5] 122))).fresh hg9 (fun b e => (hbnd b e).1)
        have kt9 : Blk w9 bt 23 (bs tag').toArray := (k9 bt _ kt7.kind (by decide)).trans kt7
        exact ⟨k + 1, A9, cc9, _, by omega, by go_num, rfl, hown9, hR9, by rw [HTG.out]; exact kt9, D9, O9⟩
      case measure => simp [intOf]; omega
    · have hkk : k = count := by omega
      clear hlt
      subst hkk
      have rA : Reads wr wr.heap.size 1 (some ⟨bt, 0, none⟩) 32 (bs (tagOf (List.replicate 32 0) (ldSlots D first size start k))) := by
        have h := ktr.reads
        rw [tagOf_length _ _ (by simp)] at h
        exact h
      have rB : Reads wr wr.heap.size 1 (some ⟨w.heap.size + 1, 2, none⟩) 32 (bs stag) := by
        refine ⟨by rw [bs_length, HT.out], fun _ => ⟨_, rfl, ksr.lt, fun j u hu => ?_⟩⟩
        rw [Addr.add_mid]
        refine (ksr.cell _).trans ?_
        rw [List.getElem?_toArray]
        unfold stCells
        rw [List.getElem?_append_right (by simp)]
        simpa using hu
      have hby := bytes_any (some ⟨bt, 0, none⟩) (some ⟨w.heap.size + 1, 2, none⟩) 32 32 _ stag 32 wr.drew rA.drew rB.drew (by omega)
      have hq1 : wr.cell? ⟨w.heap.size + 1, 1, none⟩ = some (.int .u64 (k : Int)) := ksr.cell 1
      have DF : Disk wr gd (more F w.heap.size) { D with ops := D.ops + k } := Dr.mono fun b _ hf => by
        rcases hf with hf | hf
        · exact .inl hf.1
        · exact .inr (Nat.le_trans y3.size hf)
      have OF : Only F w wr := (Or.only_of (F := fun k => F k ∧ k < w.heap.size) (Only.of_below y3) (by omega)).mono fun b _ hf => hf.1
      clear Dr Or ktr rA rB
      by_cases htt : tagOf (List.replicate 32 0) (ldSlots D first size start k) = stag
      · rw [decide_eq_true htt] at hby
        obtain ⟨hrc, hrl2⟩ := hrec htt
        have HTT := Lib.hid htt
        clear htt hrec
        go_wp2
        go_region_held3 (fun w' => True) (trivial) (first | (go_at_call 46; refine hby.mono ?_; rintro e w4 ⟨rfl, m, rfl⟩))
        obtain ⟨W4, hW4⟩ : ∃ W4 : World, W4 = wr.drew.drewN m := ⟨_, rfl⟩
        have b4 : Below wr.heap.size wr W4 := by rw [hW4]; exact below_drewN (Below.refl _ wr).drew m
        have hs4 : W4.heap.size = wr.heap.size := by rw [hW4]; rfl
        go_wp2
        rw [show wr.drewN (1 + m) = W4 from by rw [hW4]; exact (World.drewN_drewN wr 1 m).symm]
        have DF4 := DF.under b4
        have OF4 := OF.under b4
        have hol4 : W4.ownsRow W3.heap.size 122 2 (.slice A k c) k xs := own_keep hol fun b e => b4.block b (World.ownsRow.lt hol b e).2
        have hR4 := hRl.under b4
        have kk4 := kkr.below b4 kkr.lt
        have T4 := Tr.under b4
        have y4 : w.heap.size ≤ W4.heap.size := by omega
        have HS4 := Lib.hid hs4
        clear hby hW4 hs4 b4 DF OF hol hRl kkr Tr hq1 ksr
        have hbl : w.heap.size < W4.heap.size := kk4.lt
        obtain ⟨wo, rfl⟩ : ∃ wo : World, wo = wr := ⟨_, rfl⟩
        go_loopw [20, 83] (fun vr ix wr => ∃ (j : Nat) (A2 : Option Addr) (c2 : Nat) (xr : List Value), j ≤ k ∧ ix = .int .i64 j ∧ vr = .slice A2 j c2 ∧ (j = 0 → A2 = none) ∧ wr.ownsRow W4.heap.size 95 3 (.slice A2 j c2) j xr ∧ RowG wr xr (recs.take j) ∧ Below W4.heap.size W4 wr) (fun _ ix _ => k - (intOf ix).toNat)
        case atStart => exact ⟨0, none, 0, [], by omega, rfl, rfl, fun _ => rfl, World.ownsRow_nil _ _ _ _, fun i p hp => by simp at hp, Below.refl _ _⟩
        case round =>
          obtain ⟨j, A2, c2, xr, hj, rfl, rfl, hnil, hor, hRr, b5⟩ := hrel
          by_cases hlt : j < k
          · have hsj := ldSlots_get D first size start k j hlt
            obtain ⟨u0, v, u1, hsl⟩ := (hR4.under b5) j _ hsj
            have hpl2 : ldPlace first size start j < D.places.length := by have := Nat.mod_lt (start + j) (show 0 < size by omega); unfold ldPlace; omega
            have hlen := readAt_len D (ldPlace first size start j) hpl2 hpl hwl
            have hrj : recs[j]? = some (recs[j]'(by omega)) := List.getElem?_eq_getElem (by omega)
            obtain ⟨hr160, hr64, vv, hv0, hv1, hseal⟩ := hrc j _ hrj
            obtain ⟨A', c', hv, hcap, hrd⟩ := hsl.reads
            subst hv
            simp only at u0 u1 hcap hrd hsl
            rw [hlen] at hrd hcap u1
            obtain ⟨ad, hA', _⟩ := hrd.2 (by omega)
            subst hA'
            rw [hseal] at hrd
            obtain ⟨gl, cl, hgl, _, hgl2⟩ : ∃ gl cap, (Value.slice A k c) = .slice (some ⟨gl, 0, none⟩) k cap ∧ W3.heap.size ≤ gl ∧ gl < W4.heap.size := by
              rcases hol4.2 with ⟨_, h0⟩ | ⟨g', cap', cur, hv, hb, hh, _⟩
              · omega
              · exact ⟨g', cap', hv, hb, (Array.getElem?_eq_some_iff.1 hh).1⟩
            injection hgl with hgl _ hcl
            subst hgl hcl
            have hcl := World.ownsRow.cells hol4 (g := gl) rfl
            have q0 : wr.cell? ⟨gl, j * 2, none⟩ = some (.int .u32 (ldPlace first size start j : Int)) := by have h := hcl _ _ u0; rw [add_head, Nat.mul_comm] at h; exact (b5.cell (p := ⟨gl, j * 2, none⟩) hgl2).trans h
            have q1 : wr.cell? ⟨gl, j * 2 + 1, none⟩ = some (.slice (some ad) 192 c') := by have h := hcl _ _ u1; rw [add_head, Nat.mul_comm 2] at h; exact (b5.cell (p := ⟨gl, j * 2 + 1, none⟩) hgl2).trans h
            have hp32 : ldPlace first size start j < 4294967296 := by omega
            have hsl2 := b5.size
            have htk := take_snoc recs j _ hrj
            have hbnd : ∀ b, (Value.slice A2 j c2).ownBlock = some b → W4.heap.size ≤ b ∧ b < wr.heap.size := World.ownsRow.lt hor
            generalize hrr : recs[j]'(by omega) = rr at *
            obtain ⟨⟨x, b⟩, last⟩ := rr
            simp only at hr160 hr64 htk hrd
            generalize ldPlace first size start j = place at *
            obtain ⟨Wp, hWp⟩ : ∃ Wp : World, Wp = wr.alloc (.cells #[.int .u32 (place : Int), .slice (some ad) 192 c'] 122) := ⟨_, rfl⟩
            have yp : Below wr.heap.size wr Wp := by rw [hWp]; exact (Below.refl _ _).alloc (Nat.le_refl _) _
            have kkp := (kk4.below b5 hbl).below yp (by omega)
            have hop := popen_any key b place vv x last ad c' Wp ((hrd.below yp).more yp.size) hcap HK.out hr160 hp32 hv0 hv1 hr64 ((T4.under b5).under yp)
            have HWp := Lib.hid hWp
            have HTK := Lib.hid htk
            have HB160 := Lib.hid hr160
            have HSE := Lib.hid hseal
            have HRJ := Lib.hid hrj
            have HSJ := Lib.hid hsj
            clear hWp htk hr160 hseal hrj hsj hrr u0 u1 hcl hrd hsl hlen
            have hm1 : j + 1 ≤ maxLen := by unfold maxLen; omega
            have hm2 : (j + 1) * 40 ≤ 140737488355328 := by omega
            have hone : ∀ (a : Int) (A : Option Addr) (m c : Nat) (q : Bool), ∀ u ∈ [Value.int .u64 a, .slice A m c, .bool q], u.oneCell' = true := by intro a A m c q u hu; simp only [List.mem_cons, List.not_mem_nil, or_false] at hu; rcases hu with rfl | rfl | rfl <;> rfl
            go_wp2_with (first | ((with_reducible refine wpList_load_blk (o := ⟨some 89, _, _, _, _, _⟩) rfl 23 _ rfl w.heap.size rfl 23 _ _ (by rw [← HWp.out]; exact kkp) Tryz.underlying23 rfl (by rw [Z1.out]; kernel_rfl) ?_)) | (go_at_call 47; rw [← HWp.out]; refine hop.mono ?_; rintro e w6 ⟨v6, rfl, hv6, b6⟩; obtain ⟨A6, c6, hvs⟩ := hv6.shape; rw [HB160.out] at hvs; subst hvs; have hs6 := b6.size; have hsp : wr.heap.size ≤ Wp.heap.size := yp.size; have hor6 : w6.ownsRow W4.heap.size 95 3 (.slice A2 j c2) j xr := (own_keep hor (fun b e => (b6.block b (by have := (hbnd b e).2; omega)).trans (yp.block b (hbnd b e).2))); have hnews := Blk.rows (xs := [Value.int .u64 (x : Int), .slice A6 160 c6, .bool last]) 1 3 (Blk.new (w6.alloc (.cells #[Value.int .u64 (x : Int), .slice A6 160 c6, .bool last] 95)) 95 #[Value.int .u64 (x : Int), .slice A6 160 c6, .bool last]) rfl; have hbase : W4.heap.size ≤ ((w6.alloc (.cells #[Value.int .u64 (x : Int), .slice A6 160 c6, .bool last] 95)).alloc (.cells #[Value.int .u64 (x : Int), .slice A6 160 c6, .bool last] 95)).heap.size := (by rw [size_alloc', size_alloc']; omega); simp only [size_alloc'] at hnews) | (at_builtin; refine wpList_append_any _ rfl (.tmp 95) (.tmp 97) 90 rfl W4.heap.size 95 i1 _ 3 40 Tryz.underlying90 ii1 hy0 hy1 hy2 rfl (by omega) (.slice A2 j c2) j xr rfl (World.ownsRow.alloc (World.ownsRow.alloc hor6 _) _) _ (some ⟨w6.heap.size + 1, 0, none⟩) 1 1 [_, _, _] rfl hnews (hone _ _ _ _ _) hm1 hm2 hbase ?_; intro v9 w9 hown9 hg9 hat9; obtain ⟨A9, cc9, rfl⟩ := own_shape hown9))
            go_roundw
            case rel =>
              have k9 : ∀ (b : Nat) (t : TypeId), Kind w6 b t → t ≠ 95 → w9.heap[b]? = w6.heap[b]? := fun b t hK hne => (hg9.block b (by rw [size_alloc', size_alloc']; have := hK.lt; omega) (fun e => hne (hK.uniq (own_kind hor6 e.symm)))).trans ((Below.heap_alloc _ _ b (by rw [size_alloc']; have := hK.lt; omega)).trans (Below.heap_alloc _ _ b hK.lt))
              have hs9 : w6.heap.size ≤ w9.heap.size := by have h := hg9.size; rw [size_alloc', size_alloc'] at h; omega
              have hv9 : IsSl w9 (.slice A6 160 c6) b := hv6.isSl.keep hs9 fun b hK => k9 b _ hK (by decide)
              have hR9 : RowG w9 (xr ++ [.int .u64 (x : Int), .slice A6 160 c6, .bool last]) (recs.take (j + 1)) := by
                rw [HTK.out]
                exact (((hRr.under yp).under b6).keep hs9 fun b hK => k9 b _ hK (by decide)).snoc (by rw [List.length_take, hor.1]; omega) hv9
              have b9 : Below W4.heap.size W4 w9 := ((((b5.trans (yp.mono hsl2)).trans (b6.mono (by omega))).alloc (by omega) _).alloc (by rw [size_alloc']; omega) _).grown hg9 (by rw [size_alloc', size_alloc']; omega) (fun b e => (hbnd b e).1)
              exact ⟨j + 1, A9, cc9, _, by omega, by go_num, rfl, fun h => by omega, hown9, hR9, b9⟩
            case measure => simp [intOf]; omega
          · have hjk : j = k := by omega
            clear hlt
            subst hjk
            have hRj : RowG wr xr recs := by
              have h := hRr
              rw [List.take_of_length_le (Nat.le_of_eq hrl)] at h
              exact h
            have hsb := b5.size
            by_cases h0 : j = 0
            · have hA2 := hnil h0
              have hre : recs = [] := List.eq_nil_of_length_eq_zero (by omega)
              subst hA2 h0
              have hch := changes_nil c2 wr
              have b5' := b5
              clear hnil hor hRr hRj b5
              go_wp2_with (first | (go_at_call 48; refine hch.mono ?_; rintro e w6 ⟨rfl, rfl⟩))
              go_ret2
              refine ⟨.inr ⟨HTT.out, .slice none 0 0, [], rfl, ?_, ?_⟩, ?_, ?_⟩
              · rw [hre]
                exact World.ownsRow_nil _ _ _ _
              · rw [hre]
                intro i l hl
                simp [chg] at hl
              · exact DF4.under b5'
              · exact OF4.under b5'
            · obtain ⟨gr, cr, hgr, _, hgr2⟩ : ∃ gr cap, (Value.slice A2 j c2) = .slice (some ⟨gr, 0, none⟩) j cap ∧ W4.heap.size ≤ gr ∧ gr < wr.heap.size := by
                rcases hor.2 with ⟨_, h0⟩ | ⟨g', cap', cur, hv, hb, hh, _⟩
                · omega
                · exact ⟨g', cap', hv, hb, (Array.getElem?_eq_some_iff.1 hh).1⟩
              injection hgr with hgr _ hcr
              subst hgr hcr
              have hrr := Reads.of_own hor
              have hch := changes_some gr 0 j c2 xr recs wr hrr hrl hRj (fun r hr => by obtain ⟨i, hi⟩ := List.getElem?_of_mem hr; exact (hrc i r hi).1) (by omega) (by omega) hrl2
              have b5' := b5
              clear hnil hor hRr hRj b5 hrr hrl2 hrc
              go_wp2_with (first | (go_at_call 48; refine hch.mono ?_; rintro e w6 ⟨v6, y6, rfl, ho6, hR6, b6⟩))
              go_ret2
              refine ⟨.inr ⟨HTT.out, v6, y6, rfl, ownsRow_lower ho6 (by omega), hR6⟩, ?_, ?_⟩
              · exact (DF4.under b5').under b6
              · exact (OF4.under b5').under b6
      · rw [decide_eq_false htt] at hby
        have HTT := Lib.hid htt
        clear htt
        go_wp2
        go_region_held3 (fun w' => True) (trivial) (first | (go_at_call 46; refine hby.mono ?_; rintro e w4 ⟨rfl, m, rfl⟩))
        go_wp2
        go_ret2
        have b4 : Below wr.heap.size wr (wr.drewN (1 + m)) := below_drewN (Below.refl _ wr) (1 + m)
        exact ⟨.inl ⟨HTT.out, rfl⟩, DF.under b4, OF.under b4⟩
end Go.Proofs.YtkhebllmnagkmaaGreatDoor
/- The last bytes of each block: a list that is put into, and what a map holds of it. Plain lemmas: no function of the program is walked here. -/
namespace Go.Proofs.YtkhebllmnagkmaaGreatDoor
open Go.RowKit
set_option linter.unusedVariables false

/-! ### the last bytes, plainly -/
def lastOf (l : List Img) (x : Nat) : Option (List UInt8) := (l.reverse.find? (fun p => p.1 == x)).map (·.2)
theorem lastOf_snoc (l : List Img) (y : Nat) (b : List UInt8) (x : Nat) : lastOf (l ++ [(y, b)]) x = if y = x then some b else lastOf l x := by
  unfold lastOf
  rw [List.reverse_append, List.reverse_singleton, List.singleton_append, List.find?_cons]
  by_cases h : y = x
  · subst h; simp
  · have : (y == x) = false := by simpa using h
    simp [this, h]
theorem lastOf_nil (x : Nat) : lastOf [] x = none := rfl
theorem lastOf_mem {l : List Img} {x : Nat} {b : List UInt8} (h : lastOf l x = some b) : (x, b) ∈ l := by
  unfold lastOf at h
  cases hf : l.reverse.find? (fun p => p.1 == x) with
  | none => rw [hf] at h; cases h
  | some p =>
    rw [hf] at h
    have h1 := List.find?_some hf
    have h2 := List.mem_reverse.1 (List.mem_of_find?_eq_some hf)
    simp only [Option.map_some, Option.some.injEq] at h
    simp only [beq_iff_eq] at h1
    obtain ⟨a, c⟩ := p
    simp only at h h1
    subst h h1
    exact h2
theorem lastOf_isSome {l : List Img} {x : Nat} : (lastOf l x).isSome = true ↔ x ∈ l.map (·.1) := by
  constructor
  · intro h
    obtain ⟨b, hb⟩ := Option.isSome_iff_exists.1 h
    exact List.mem_map.2 ⟨_, lastOf_mem hb, rfl⟩
  · intro h
    obtain ⟨p, hp, rfl⟩ := List.mem_map.1 h
    unfold lastOf
    rw [Option.isSome_map]
    cases hf : l.reverse.find? (fun q => q.1 == p.1) with
    | none =>
      have := List.find?_eq_none.1 hf p (List.mem_reverse.2 hp)
      simp at this
    | some q => rfl
/-- A list of blocks, rising, with one more, or with it anew. -/
def putI : List Img → Img → List Img
  | [], x => [x]
  | p :: r, x => if p.1 < x.1 then p :: putI r x else if p.1 = x.1 then x :: r else x :: p :: r
def latest (l : List Img) : List Img := l.foldl putI []
theorem latest_snoc (l : List Img) (x : Img) : latest (l ++ [x]) = putI (latest l) x := by unfold latest; rw [List.foldl_append]; rfl
theorem putI_mem (l : List Img) (x q : Img) (h : q ∈ putI l x) : q = x ∨ q ∈ l := by
  induction l with
  | nil => simp [putI] at h; exact .inl h
  | cons p r ih =>
    unfold putI at h
    split at h
    · rcases List.mem_cons.1 h with h | h
      · exact .inr (by rw [h]; exact List.mem_cons_self)
      · exact (ih h).imp id fun h => List.mem_cons_of_mem _ h
    · split at h
      · rcases List.mem_cons.1 h with h | h
        · exact .inl h
        · exact .inr (List.mem_cons_of_mem _ h)
      · rcases List.mem_cons.1 h with h | h
        · exact .inl h
        · exact .inr h
def Rises (l : List Img) : Prop := l.Pairwise (fun p q => p.1 < q.1)
theorem putI_rises {l : List Img} (h : Rises l) (x : Img) : Rises (putI l x) := by
  induction l with
  | nil => exact List.pairwise_singleton _ _
  | cons p r ih =>
    obtain ⟨h1, h2⟩ := List.pairwise_cons.1 h
    unfold putI
    split
    · rename_i hlt
      refine List.pairwise_cons.2 ⟨fun q hq => ?_, ih h2⟩
      rcases putI_mem r x q hq with rfl | hq
      · exact hlt
      · exact h1 q hq
    · split
      · rename_i _ he
        exact List.pairwise_cons.2 ⟨fun q hq => by have := h1 q hq; omega, h2⟩
      · refine List.pairwise_cons.2 ⟨fun q hq => ?_, h⟩
        rcases List.mem_cons.1 hq with rfl | hq
        · omega
        · have := h1 q hq; omega
theorem putI_iff {l : List Img} (h : Rises l) (x q : Img) : q ∈ putI l x ↔ q = x ∨ (q ∈ l ∧ q.1 ≠ x.1) := by
  induction l with
  | nil => simp [putI]
  | cons p r ih =>
    obtain ⟨h1, h2⟩ := List.pairwise_cons.1 h
    unfold putI
    split
    · rename_i hlt
      rw [List.mem_cons, ih h2, List.mem_cons]
      constructor
      · rintro (rfl | rfl | ⟨h3, h4⟩)
        · exact .inr ⟨.inl rfl, by omega⟩
        · exact .inl rfl
        · exact .inr ⟨.inr h3, h4⟩
      · rintro (rfl | ⟨rfl | h3, h4⟩)
        · exact .inr (.inl rfl)
        · exact .inl rfl
        · exact .inr (.inr ⟨h3, h4⟩)
    · split
      · rename_i _ he
        rw [List.mem_cons, List.mem_cons]
        constructor
        · rintro (rfl | h3)
          · exact .inl rfl
          · exact .inr ⟨.inr h3, by have := h1 q h3; omega⟩
        · rintro (rfl | ⟨rfl | h3, h4⟩)
          · exact .inl rfl
          · exact absurd he h4
          · exact .inr h3
      · rename_i hn he
        rw [List.mem_cons]
        constructor
        · rintro (rfl | h3)
          · exact .inl rfl
          · refine .inr ⟨h3, ?_⟩
            rcases List.mem_cons.1 h3 with rfl | h3
            · exact he
            · have := h1 q h3; omega
        · rintro (rfl | ⟨h3, h4⟩)
          · exact .inl rfl
          · exact .inr h3
theorem snoc_induction {α : Type} {P : List α → Prop} (h0 : P []) (h1 : ∀ l x, P l → P (l ++ [x])) (l : List α) : P l := by
  have h : ∀ n (l : List α), l.length = n → P l := by
    intro n
    induction n with
    | zero => intro l hl; rw [List.eq_nil_of_length_eq_zero hl]; exact h0
    | succ n ih =>
      intro l hl
      rcases List.eq_nil_or_concat l with rfl | ⟨l', x, rfl⟩
      · exact h0
      · rw [List.concat_eq_append] at *
        exact h1 l' x (ih l' (by simpa using hl))
  exact h _ l rfl
theorem latest_rises (l : List Img) : Rises (latest l) := by
  refine snoc_induction (P := fun l => Rises (latest l)) List.Pairwise.nil (fun l x ih => ?_) l
  rw [latest_snoc]
  exact putI_rises ih x
theorem latest_iff (l : List Img) : ∀ q : Img, q ∈ latest l ↔ lastOf l q.1 = some q.2 := by
  refine snoc_induction (P := fun l => ∀ q : Img, q ∈ latest l ↔ lastOf l q.1 = some q.2) (fun q => by simp [latest, lastOf]) (fun l x ih q => ?_) l
  obtain ⟨y, b⟩ := x
  rw [latest_snoc, putI_iff (latest_rises l), ih, lastOf_snoc]
  by_cases h : y = q.1
  · rw [if_pos h]
    constructor
    · rintro (rfl | ⟨_, h2⟩)
      · rfl
      · exact absurd h.symm h2
    · intro h2
      refine .inl ?_
      injection h2 with h2
      exact Prod.ext h.symm h2.symm
  · rw [if_neg h]
    constructor
    · rintro (rfl | ⟨h2, _⟩)
      · exact absurd rfl h
      · exact h2
    · intro h2
      exact .inr ⟨h2, fun e => h e.symm⟩
theorem rising_eq : ∀ {a b : List Nat}, a.Pairwise (· < ·) → b.Pairwise (· < ·) → (∀ x, x ∈ a ↔ x ∈ b) → a = b
  | [], [], _, _, _ => rfl
  | [], y :: b, _, _, h => by have := (h y).2 List.mem_cons_self; cases this
  | x :: a, [], _, _, h => by have := (h x).1 List.mem_cons_self; cases this
  | x :: a, y :: b, ha, hb, h => by
    obtain ⟨a1, a2⟩ := List.pairwise_cons.1 ha
    obtain ⟨b1, b2⟩ := List.pairwise_cons.1 hb
    have hxy : x = y := by
      rcases List.mem_cons.1 ((h x).1 List.mem_cons_self) with e | e
      · exact e
      · rcases List.mem_cons.1 ((h y).2 List.mem_cons_self) with e2 | e2
        · exact e2.symm
        · have h1 := b1 x e
          have h2 := a1 y e2
          omega
    subst hxy
    rw [rising_eq a2 b2 (fun z => ?_)]
    constructor
    · intro hz
      rcases List.mem_cons.1 ((h z).1 (List.mem_cons_of_mem _ hz)) with e | e
      · have := a1 z hz; omega
      · exact e
    · intro hz
      rcases List.mem_cons.1 ((h z).2 (List.mem_cons_of_mem _ hz)) with e | e
      · have := b1 z hz; omega
      · exact e
theorem latest_keys (l : List Img) : ((latest l).map (·.1)).Pairwise (· < ·) := List.pairwise_map.2 (latest_rises l)
theorem latest_mem_keys (l : List Img) (x : Nat) : x ∈ (latest l).map (·.1) ↔ x ∈ l.map (·.1) := by
  rw [← lastOf_isSome (l := l)]
  constructor
  · intro h
    obtain ⟨q, hq, rfl⟩ := List.mem_map.1 h
    rw [(latest_iff l q).1 hq]
    rfl
  · intro h
    obtain ⟨b, hb⟩ := Option.isSome_iff_exists.1 h
    exact List.mem_map.2 ⟨(x, b), (latest_iff l (x, b)).2 hb, rfl⟩

/-! ### what a map of slices holds -/
def Rv (v : Value) : Option (DataW Value × List MemPlace) := match v with | .slice A n c => some (.held (.slice A n c), []) | _ => none
structure MapIs (w : World) (D : DataW Value) (l : List Img) : Prop where
  isMap : Maps.IsMap D
  has : ∀ x : Nat, Maps.has D (.int .u64 x) = (lastOf l x).isSome
  at_ : ∀ (x : Nat) (b : List UInt8), lastOf l x = some b → ∃ A n c, (∀ z, D.atKey (.int .u64 x) z = .held (.slice A n c)) ∧ IsSl w (.slice A n c) b
theorem MapIs.nil (w : World) : MapIs w (.map []) [] := ⟨Maps.isMap_empty, fun x => rfl, fun x b h => by cases h⟩
theorem MapIs.put {w : World} {D : DataW Value} {l : List Img} {x : Nat} {A : Option Addr} {n c : Nat} {b : List UInt8} (h : MapIs w D l) (hs : IsSl w (.slice A n c) b) : MapIs w (D.put (.int .u64 x) (.held (.slice A n c))) (l ++ [(x, b)]) := by
  refine ⟨h.isMap.put _ _, fun y => ?_, fun y b' hb => ?_⟩
  · rw [lastOf_snoc]
    by_cases e : x = y
    · subst e
      rw [if_pos rfl, Maps.has_put_same (k := .int .u64 x) h.isMap trivial]
      rfl
    · rw [if_neg e, Maps.has_put_other (by intro e2; injection e2 with _ e2; exact e (by omega)), h.has]
  · rw [lastOf_snoc] at hb
    by_cases e : x = y
    · subst e
      rw [if_pos rfl] at hb
      injection hb with hb
      subst hb
      exact ⟨A, n, c, fun z => Maps.atKey_put_same (k := .int .u64 x) h.isMap trivial _ _, hs⟩
    · rw [if_neg e] at hb
      obtain ⟨A', n', c', h1, h2⟩ := h.at_ y b' hb
      exact ⟨A', n', c', fun z => (Maps.atKey_put_other (by intro e2; injection e2 with _ e2; exact e (by omega)) _ _).trans (h1 z), h2⟩
theorem MapIs.keep {w w' : World} {D : DataW Value} {l : List Img} (h : MapIs w D l) (hs : w.heap.size ≤ w'.heap.size) (hk : ∀ k, Kind w k 5 → w'.heap[k]? = w.heap[k]?) : MapIs w' D l :=
  ⟨h.isMap, h.has, fun x b hb => by
    obtain ⟨A, n, c, h1, h2⟩ := h.at_ x b hb
    exact ⟨A, n, c, h1, h2.keep hs hk⟩⟩
theorem ownsMap_size {P : Program} {k : TypeId} {R : Value → Option (DataW Value × List MemPlace)} {w : World} {b n : Nat} {D : DataW Value} (h : w.ownsMap P k R b n D) : Maps.size D ≤ n := by
  obtain ⟨es, clock, _, _, hs, rfl⟩ := h
  rw [Maps.size_eq, length_sorted, List.length_map, Array.length_toList]
  exact hs
end Go.Proofs.YtkhebllmnagkmaaGreatDoor
