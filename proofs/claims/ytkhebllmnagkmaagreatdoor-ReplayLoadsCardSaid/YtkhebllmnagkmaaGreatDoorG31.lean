/- Contracts and lemmas under the statements of this seat, one behind the other. Conditions: what each names. -/
import Derived.Test.YtkhebllmnagkmaaGreatDoorG30
import Derived.Test.YtkhebllmnagkmaaGreatDoorG28
import Derived.Test.YtkhebllmnagkmaaGreatDoorG21
import Derived.Stop.BytesEq
/- Contract of the reference's Load of a journal. Conditions: what it names. -/
namespace Go.Proofs.YtkhebllmnagkmaaGreatDoor
open Go.RowKit
set_option linter.unusedVariables false

theorem run_neq_sum (W : World) (a b : List UInt8) (ha : a.length = 32) (hb : b.length = 32) : (binOp .neq 23 (.agg (bs a).toArray) (.agg (bs b).toArray)).run Tryz.prog W = .ok (.bool (!(a == b))) W := by
  rw [run_neq_struct]
  have h := run_equalIn_bytes (P := Tryz.prog) W 9998 23 5 32 Tryz.underlying23 Tryz.underlying5 (fun w => by simp [go_sem]) a b ha hb
  rw [show (bs a).toArray = (a.map Extern.Stop.cell).toArray from rfl, show (bs b).toArray = (b.map Extern.Stop.cell).toArray from rfl, h]
  rfl
/-- The slots that the reference's load reads, with their places. -/
def rSlots (done way : List (Nat × List UInt8)) (first size start n : Nat) : List (Nat × List UInt8) := (List.range n).map fun k => (ldPlace first size start k, readR done way (ldPlace first size start k))
theorem rSlots_snoc (done way : List (Nat × List UInt8)) (first size start n : Nat) : rSlots done way first size start (n + 1) = rSlots done way first size start n ++ [(ldPlace first size start n, readR done way (ldPlace first size start n))] := by
  unfold rSlots
  rw [List.range_succ, List.map_append]
  rfl
theorem rSlots_length (done way : List (Nat × List UInt8)) (first size start n : Nat) : (rSlots done way first size start n).length = n := by simp [rSlots]
theorem rSlots_get (done way : List (Nat × List UInt8)) (first size start n k : Nat) (h : k < n) : (rSlots done way first size start n)[k]? = some (ldPlace first size start k, readR done way (ldPlace first size start k)) := by simp [rSlots, h]
theorem lastW_len {l : List (Nat × List UInt8)} {i m : Nat} {b : List UInt8} (hl : ∀ p ∈ l, p.2.length = m) (h : lastW l i = some b) : b.length = m := by
  unfold lastW at h
  rw [Option.map_eq_some_iff] at h
  obtain ⟨p, hp, rfl⟩ := h
  exact hl p (List.mem_reverse.1 (List.mem_of_find?_eq_some hp))
theorem readR_len {done way : List (Nat × List UInt8)} (i : Nat) (h1 : ∀ p ∈ done, p.2.length = 192) (h2 : ∀ p ∈ way, p.2.length = 192) : (readR done way i).length = 192 := by
  unfold readR
  cases hw : lastW way i with
  | some b => exact lastW_len h2 hw
  | none =>
    cases hd : lastW done i with
    | some b => exact lastW_len h1 hd
    | none => exact List.length_replicate
def strsOf (l : List (Nat × List UInt8)) : List Value := l.map fun p => strB p.2
theorem strsOf_append (a b : List (Nat × List UInt8)) : strsOf (a ++ b) = strsOf a ++ strsOf b := by simp [strsOf]
theorem wrapI_le (x : Int) (h0 : 0 ≤ x) (h1 : x ≤ 4194304) : IntKind.i64.wrap x = x := by rw [IntKind.wrap_i64]; omega
theorem wrap64_le (x : Int) (h0 : 0 ≤ x) (h1 : x ≤ 4194304) : wrap64 x = x := by unfold wrap64; omega
theorem wrapU32_le (x : Int) (h0 : 0 ≤ x) (h1 : x < 4294967296) : IntKind.u32.wrap x = x := by rw [IntKind.wrap_u32]; omega
theorem infoStr : (Tryz.prog.info? 9).map (fun i => (i.zero, i.size, i.bytes)) = some (some (.string ⟨#[]⟩), 1, 16) := by kernel_rfl
set_option maxRecDepth 100000 in
set_option maxHeartbeats 4000000 in
theorem rload_gen (n nd cd nw cw no co : Nat) (Ad Aw Ao : Option Addr) (left : Int) (done way : List (Nat × List UInt8)) (xo : List Value) (first size start count : Nat) (key stag : List UInt8) (w : World)
    (hd : w.ownsRow 0 142 2 (.slice Ad nd cd) nd (encW done)) (hl : done.length = nd) (hn : nd ≤ 1048576) (hw : w.ownsRow 0 142 2 (.slice Aw nw cw) nw (encW way)) (hl2 : way.length = nw) (hn2 : nw ≤ 1048576)
    (ho : w.ownsRow 0 169 2 (.slice Ao no co) no xo) (hx : ∀ u ∈ xo, u.oneCell' = true) (hk : key.length = 32) (ht : stag.length = 32) (h1 : 1 ≤ size) (h2 : first + size ≤ n) (hp : n ≤ 1048576) (h3 : start < size) (h4 : count ≤ size) (hn3 : no + count ≤ 1048576)
    (h192d : ∀ p ∈ done, p.2.length = 192) (h192w : ∀ p ∈ way, p.2.length = 192) (down : Bool) (hdn : 1 ≤ count → down = false) :
    Calls Tryz.prog 18 #[.agg #[.int .i64 (n : Int), .slice Ad nd cd, .slice Aw nw cw, .int .i64 left, .bool down, .slice Ao no co], .agg (bs key).toArray, .int .i64 (first : Int), .int .i64 (size : Int), .agg (stCells start count stag).toArray] w fun e w' =>
      (∃ no2 Ao2 co2, (loadV key stag (rSlots done way first size start count) = none ∧ e = .returned (.tuple #[.agg #[.int .i64 (n : Int), .slice Ad nd cd, .slice Aw nw cw, .int .i64 left, .bool down, .slice Ao2 no2 co2], .slice none 0 0, .int .i64 14])) ∨
        ∃ ll A' c' ys, loadV key stag (rSlots done way first size start count) = some ll ∧ e = .returned (.tuple #[.agg #[.int .i64 (n : Int), .slice Ad nd cd, .slice Aw nw cw, .int .i64 left, .bool down, .slice Ao2 no2 co2], .slice A' ll.length c', .int .i64 0]) ∧
          w'.ownsRow w.heap.size 52 1 (.slice A' ll.length c') ll.length ys ∧ RowMs w' w.heap.size ys ll) ∧ Below w.heap.size w w' := by
  obtain ⟨i0, ii0, hz0, hz1, hz2⟩ := info_parts infoStr
  obtain ⟨i1, ii1, hy0, hy1, hy2⟩ := info_parts infoR
  obtain ⟨W0, hW0⟩ : ∃ W0 : World, W0 = (((w.alloc (.cells #[.int .i64 (n : Int), .slice Ad nd cd, .slice Aw nw cw, .int .i64 left, .bool down, .slice Ao no co] 33)).alloc (.cells (bs key).toArray 23)).alloc (.cells (stCells start count stag).toArray 42)).alloc (.cells #[.int .i64 0, .slice none 0 0, .slice none 0 0, .int .i64 0, .bool false, .slice none 0 0] 33) := ⟨_, rfl⟩
  have y0 : Below w.heap.size w W0 := by rw [hW0]; exact ((((Below.refl _ _).alloc (Nat.le_refl _) _).alloc (by simp) _).alloc (by simp; omega) _).alloc (by simp; omega) _
  have hs0 : W0.heap.size = w.heap.size + 4 := by rw [hW0]; simp
  have kD0 : Blk W0 w.heap.size 33 #[.int .i64 (n : Int), .slice Ad nd cd, .slice Aw nw cw, .int .i64 left, .bool down, .slice Ao no co] := by rw [hW0]; exact (((Blk.new_of rfl rfl).alloc _).alloc _).alloc _
  have kk0 : Blk W0 (w.heap.size + 1) 23 (bs key).toArray := by rw [hW0]; exact ((Blk.new_of (by simp) rfl).alloc _).alloc _
  have ks0 : Blk W0 (w.heap.size + 2) 42 (stCells start count stag).toArray := by rw [hW0]; exact (Blk.new_of (by simp) rfl).alloc _
  have kz0 : Blk W0 (w.heap.size + 3) 33 #[.int .i64 0, .slice none 0 0, .slice none 0 0, .int .i64 0, .bool false, .slice none 0 0] := by rw [hW0]; exact Blk.new_of (by simp) rfl
  have hnew : Calls Tryz.prog 9 #[.int .i64 (n : Int), .agg (bs key).toArray, .int .i64 (first : Int), .int .i64 (size : Int), .agg (stCells start count stag).toArray, .int .u64 1, .int .u64 1] W0 fun e w' => e = .returned (.tuple #[.agg (rjCells ⟨first, size, start, count, 1, 1, key, stag⟩).toArray, .int .i64 0]) ∧ Below W0.heap.size W0 w' := rjnew_any n ⟨first, size, start, count, 1, 1, key, stag⟩ W0 hk ht h1 h2 hp h3 h4 (Nat.le_refl _) (by show 1 ≤ 9223372036854775807; omega)
  have hjl := rjCells_length ⟨first, size, start, count, 1, 1, key, stag⟩ hk ht
  have hj1 := rjCells_one ⟨first, size, start, count, 1, 1, key, stag⟩
  have hji : (Tryz.prog.info? 44).map (·.size) = some (rjCells ⟨first, size, start, count, 1, 1, key, stag⟩).toArray.size := by rw [List.size_toArray, hjl]; kernel_rfl
  have hjz : Tryz.zeroCells44.size = (rjCells ⟨first, size, start, count, 1, 1, key, stag⟩).toArray.size := by rw [show (rjCells ⟨first, size, start, count, 1, 1, key, stag⟩).toArray.size = 70 by rw [List.size_toArray, hjl]]; kernel_rfl
  generalize rjCells ⟨first, size, start, count, 1, 1, key, stag⟩ = jc at *
  have z1 : (bs key).toArray.size = 32 := by simp [bs_length, hk]
  have z2 : (stCells start count stag).toArray.size = 34 := by rw [List.size_toArray, stCells_length, ht]
  have HW0 := Lib.hid hW0
  have Z1 := Lib.hid z1
  have Z2 := Lib.hid z2
  have HK := Lib.hid hk
  have HT := Lib.hid ht
  have HJI := Lib.hid hji
  have HJZ := Lib.hid hjz
  have HJ1 := Lib.hid hj1
  have HS0 := Lib.hid hs0
  have HD := Lib.hid h192d
  have HWY := Lib.hid h192w
  clear hW0 z1 z2 hk ht hji hjz hj1 hjl h192d h192w
  go_enter Tryz.func18, Tryz.ntmps18
  go_wp2_with (first | ((with_reducible refine wpList_load_blk (o := ⟨some 33, _, _, _, _, _⟩) rfl 23 _ rfl (w.heap.size + 1) rfl 23 _ _ (by rw [← HW0.out]; exact kk0) Tryz.underlying23 rfl (by rw [Z1.out]; kernel_rfl) ?_)) | ((with_reducible refine wpList_load_blk (o := ⟨some 36, _, _, _, _, _⟩) rfl 42 _ rfl (w.heap.size + 2) rfl 42 _ _ (by rw [← HW0.out]; exact ks0) Tryz.underlying42 rfl (by rw [Z2.out]; kernel_rfl) ?_)) | (go_at_call 9; rw [← HW0.out]; (with_reducible refine hnew.mono ?_); rintro e w1 ⟨rfl, b1⟩; clear hnew) | ((with_reducible refine wpList_store_blk (o := ⟨none, .store 44 (.tmp 13) (.tmp 38), _, _, _, _⟩) rfl 44 (.tmp 13) (.tmp 38) rfl w1.heap.size jc.toArray rfl rfl 44 Tryz.zeroCells44 (Blk.new _ _ _) HJI.out HJZ.out HJ1.out ?_); intro w2 k2 g2 s2))
  obtain ⟨W3, hW3⟩ : ∃ W3 : World, W3 = w2.alloc (.cells (bs (List.replicate 32 0)).toArray 23) := ⟨_, rfl⟩
  rw [show (w2.alloc (.cells #[.int .u8 0, .int .u8 0, .int .u8 0, .int .u8 0, .int .u8 0, .int .u8 0, .int .u8 0, .int .u8 0, .int .u8 0, .int .u8 0, .int .u8 0, .int .u8 0, .int .u8 0, .int .u8 0, .int .u8 0, .int .u8 0, .int .u8 0, .int .u8 0, .int .u8 0, .int .u8 0, .int .u8 0, .int .u8 0, .int .u8 0, .int .u8 0, .int .u8 0, .int .u8 0, .int .u8 0, .int .u8 0, .int .u8 0, .int .u8 0, .int .u8 0, .int .u8 0] 23)) = W3 from hW3.symm]
  have s1a : (w1.alloc (.cells Tryz.zeroCells44 44)).heap.size = w1.heap.size + 1 := size_alloc' _ _
  have hb1 := b1.size
  have y1 : Below w.heap.size w w1 := y0.trans (b1.mono y0.size)
  have hy1s := y1.size
  have y2 : Below w.heap.size w w2 := (y1.alloc y1.size _).grown g2 (by rw [s1a]; omega) (fun k e => by injection e with e; omega)
  have s2' : w2.heap.size = w1.heap.size + 1 := s2.trans s1a
  have kp3 : ∀ j, j < W0.heap.size → W3.heap[j]? = W0.heap[j]? := fun j hj => by
    rw [hW3]
    exact (Below.heap_alloc _ _ j (by omega)).trans ((g2.block j (by rw [s1a]; omega) (fun e => by injection e with e; omega)).trans ((Below.heap_alloc _ _ j (by omega)).trans (b1.block j hj)))
  have kD3 : Blk W3 w.heap.size 33 #[.int .i64 (n : Int), .slice Ad nd cd, .slice Aw nw cw, .int .i64 left, .bool down, .slice Ao no co] := (kp3 _ (by omega)).trans kD0
  have kt3 : Blk W3 (w1.heap.size + 1) 23 (bs (List.replicate 32 0)).toArray := by rw [hW3, ← s2']; exact Blk.new_of rfl rfl
  have hs3 : W3.heap.size = w1.heap.size + 1 + 1 := by rw [hW3, ← s2']; exact size_alloc' _ _
  have y3 : Below w.heap.size w W3 := by rw [hW3]; exact y2.alloc y2.size _
  have hlg := fun m => rSlots_length done way first size start m
  have hbw : W0.heap.size ≤ w1.heap.size := by omega
  have HW3 := Lib.hid hW3
  clear hW3 g2 k2 s2 s1a b1 y1 y2 s2' kD0 hb1 hy1s
  generalize hbt : w1.heap.size = bt at *
  clear hbt
  go_loopw [15, 17] (fun vl ix wr => ∃ (k : Nat) (A : Option Addr) (c : Nat) (Ao2 : Option Addr) (co2 : Nat) (xo2 : List Value), k ≤ count ∧ ix = .int .u64 k ∧ vl = .slice A k c ∧ wr.ownsRow W3.heap.size 9 1 (.slice A k c) k (strsOf (rSlots done way first size start k)) ∧
    Blk wr w.heap.size 33 #[.int .i64 (n : Int), .slice Ad nd cd, .slice Aw nw cw, .int .i64 left, .bool down, .slice Ao2 (no + k) co2] ∧ wr.ownsRow 0 169 2 (.slice Ao2 (no + k) co2) (no + k) xo2 ∧ (∀ u ∈ xo2, u.oneCell' = true) ∧ Blk wr (bt + 1) 23 (bs (tagOf (List.replicate 32 0) (rSlots done way first size start k))).toArray ∧
    (∀ j, w.heap.size < j → j < W0.heap.size → wr.heap[j]? = W0.heap[j]?) ∧ Below w.heap.size w wr ∧ W3.heap.size ≤ wr.heap.size) (fun _ ix _ => count - (intOf ix).toNat)
  case atStart => exact ⟨0, none, 0, Ao, co, xo, by omega, rfl, rfl, World.ownsRow_nil _ _ _ _, kD3, own_keep ho (fun b e => y3.block b (World.ownsRow.lt ho b e).2), hx, kt3, fun j _ hj => kp3 j hj, y3, Nat.le_refl _⟩
  case round =>
    obtain ⟨k, A, c, Ao2, co2, xo2, hk, rfl, rfl, hol, kD, hor, hx2, kt, hkeep, hwb, hsw⟩ := hrel
    have ksr : Blk wr (w.heap.size + 2) 42 (stCells start count stag).toArray := (hkeep _ (by omega) (by omega)).trans ks0
    have q1 : wr.cell? ⟨w.heap.size + 2, 1, none⟩ = some (.int .u64 (count : Int)) := ksr.cell 1
    by_cases hlt : k < count
    · obtain rfl : down = false := hdn (by omega)
      have q0 : wr.cell? ⟨w.heap.size + 2, 0, none⟩ = some (.int .u64 (start : Int)) := ksr.cell 0
      have hmod : (start + k) % size < size := Nat.mod_lt _ (by omega)
      have hpm : (((start + k) % size : Nat) : Int) = ((start : Int) + (k : Int)) % (size : Int) := by simp
      have hsn := rSlots_snoc done way first size start k
      obtain ⟨place, hplace⟩ : ∃ place, place = ldPlace first size start k := ⟨_, rfl⟩
      have hpi : (first : Int) + ((start : Int) + (k : Int)) % (size : Int) = (place : Int) := by rw [hplace, ← hpm]; unfold ldPlace; simp
      have hplt : place < n := by rw [hplace]; unfold ldPlace; omega
      rw [← hplace] at hsn
      have hmi : ((start : Int) + (k : Int)) % (size : Int) < (size : Int) := by rw [← hpm]; omega
      have hmj : (0 : Int) ≤ ((start : Int) + (k : Int)) % (size : Int) := by rw [← hpm]; omega
      have hsz0 : ¬ (size : Int) = 0 := by omega
      have hrd := rread_any n place nd cd nw cw (no + k) co2 Ad Aw Ao2 left done way xo2 wr (own_keep hd (fun b e => hwb.block b (World.ownsRow.lt hd b e).2)) hl hn (own_keep hw (fun b e => hwb.block b (World.ownsRow.lt hw b e).2)) hl2 hn2 hor hx2 (by omega) hplt (by omega)
      have hr5 := readR_len (done := done) (way := way) place HD.out HWY.out
      have htl : (tagOf (List.replicate 32 0) (rSlots done way first size start k)).length = 32 := tagOf_length _ _ (by simp)
      have hp32 : place < 4294967296 := by omega
      have hp64 : (place : Int) ≤ 1048576 := by omega
      have hlk := fun W => refLink_any (tagOf (List.replicate 32 0) (rSlots done way first size start k)) (readR done way place) place W htl hp32 (by omega)
      have hLB := linkB_length (tagOf (List.replicate 32 0) (rSlots done way first size start k)) place (readR done way place)
      have HTG : tagOf (List.replicate 32 0) (rSlots done way first size start (k + 1)) = linkB (tagOf (List.replicate 32 0) (rSlots done way first size start k)) place (readR done way place) := by rw [hsn, tagOf_snoc]
      have hst : strsOf (rSlots done way first size start (k + 1)) = strsOf (rSlots done way first size start k) ++ [.string ⟨(readR done way place).toArray⟩] := by rw [hsn, strsOf_append]; rfl
      generalize linkB (tagOf (List.replicate 32 0) (rSlots done way first size start k)) place (readR done way place) = tag' at *
      generalize htg : tagOf (List.replicate 32 0) (rSlots done way first size start k) = tag at *
      generalize hsl : readR done way place = slot at *
      have hall : (bs tag').toArray.all (·.oneCell') = true := bs_all tag'
      have hone : ∀ u ∈ [Value.string ⟨slot.toArray⟩], u.oneCell' = true := by intro u hu; simp only [List.mem_cons, List.not_mem_nil, or_false] at hu; rcases hu with rfl; rfl
      have hbnd : ∀ b, (Value.slice A k c).ownBlock = some b → W3.heap.size ≤ b ∧ b < wr.heap.size := World.ownsRow.lt hol
      have z3 : (bs tag).toArray.size = 32 := by simp [bs_length, htl]
      have z4 : (bs tag).toArray.size = (bs tag').toArray.size := by simp [bs_length, htl, hLB]
      have z5 : (Tryz.prog.info? 23).map (·.size) = some (bs tag').toArray.size := by rw [← z4, z3]; kernel_rfl
      have HM : Hid (k + 1 ≤ maxLen ∧ (k + 1) * 16 ≤ 140737488355328) := Lib.hid ⟨by unfold maxLen; omega, by omega⟩
      have HSN := Lib.hid hsn
      have HPM := Lib.hid hpm
      have HPL := Lib.hid hplace
      have HTL := Lib.hid htl
      have HR5 := Lib.hid hr5
      have Z3 := Lib.hid z3
      have Z4 := Lib.hid z4
      have Z5 := Lib.hid z5
      have HTG := Lib.hid HTG
      have HST := Lib.hid hst
      clear hsn hpm hplace htl hLB htg hsl hr5 z3 z4 z5 hst
      have hw0 := hwb.size
      go_wp2_with (first | ((with_reducible refine wpList_load_blk (o := ⟨some 61, _, _, _, _, _⟩) rfl 33 _ rfl w.heap.size rfl 33 _ _ kD Tryz.underlying33 rfl (by kernel_rfl) ?_)) | (go_at_call 49; (with_reducible refine hrd.mono ?_); rintro e w5 ⟨A5, c5, x5, rfl, o5, ox5, b5⟩; clear hrd; have kD5 := kD.below b5 kD.lt; have s5 := b5.size) | ((with_reducible refine wpList_store_blk (o := ⟨none, .store 33 (.tmp 5) (.tmp 64), _, _, _, _⟩) rfl 33 (.tmp 5) (.tmp 64) rfl w.heap.size #[.int .i64 (n : Int), .slice Ad nd cd, .slice Aw nw cw, .int .i64 left, .bool false, .slice A5 (no + k + 1) c5] rfl rfl 33 _ kD5 (by kernel_rfl) (by simp) (by simp [Value.oneCell']) ?_); intro w6 k6 g6 s6; have kt6 := (kt.below b5 kt.lt).grown g6 (by intro e; injection e with e; omega); have S6 := Lib.hid s6; clear s6) | ((with_reducible refine wpList_load_blk (o := ⟨some 71, _, _, _, _, _⟩) rfl 23 _ rfl (bt + 1) rfl 23 _ _ kt6 Tryz.underlying23 rfl (by rw [Z3.out]; kernel_rfl) ?_)) | (go_at_call 41; (with_reducible refine (hlk _).mono ?_); rintro e w7 ⟨rfl, b7⟩; clear hlk; have kt7 := kt6.below b7 kt6.lt; have s7 := b7.size) | ((with_reducible refine wpList_store_blk (o := ⟨none, .store 23 (.tmp 16) (.tmp 75), _, _, _, _⟩) rfl 23 (.tmp 16) (.tmp 75) rfl (bt + 1) (bs tag').toArray rfl rfl 23 _ kt7 Z5.out Z4.out hall ?_); intro w8 k8 g8 s8; have s6 := S6.out; have k68 : ∀ b, b < wr.heap.size → b ≠ w.heap.size → b ≠ bt + 1 → w8.heap[b]? = wr.heap[b]? := fun b hb h1 h2 => (g8.block b (by omega) (fun e => by injection e with e; omega)).trans ((b7.block b (by omega)).trans ((g6.block b (by omega) (fun e => by injection e with e; omega)).trans (b5.block b hb))); have hol8 := own_keep hol (fun b e => k68 b (hbnd b e).2 (by have := (hbnd b e).1; omega) (by have := (hbnd b e).1; omega)); have hb8 : W3.heap.size ≤ w8.heap.size := (by omega); have S8 := Lib.hid s8; clear s8 s6) | (at_builtin; refine wpList_append_any _ rfl (.tmp 76) (.tmp 78) 127 rfl W3.heap.size 9 i0 _ 1 16 Tryz.underlying127 ii0 hz0 hz1 hz2 rfl (by omega) (.slice A k c) k (strsOf (rSlots done way first size start k)) rfl (World.ownsRow.alloc hol8 _) _ (some ⟨w8.heap.size, 0, none⟩) 1 1 [.string ⟨slot.toArray⟩] rfl (Blk.rows 1 1 (Blk.new w8 9 #[.string ⟨slot.toArray⟩]) rfl) hone HM.out.1 HM.out.2 (by rw [size_alloc']; omega) ?_; intro v9 w9 hown9 hg9 hat9; obtain ⟨A9, c9, rfl⟩ := own_shape hown9))
      go_roundw
      case rel =>
        have s6 := S6.out
        have s8 := S8.out
        have lo5 := World.ownsRow.lt o5
        have k89 : ∀ b, b < w8.heap.size → (b < W3.heap.size ∨ wr.heap.size ≤ b) → w9.heap[b]? = w8.heap[b]? := fun b hb h => (hg9.block b (by rw [size_alloc']; omega) (fun e => by have := hbnd b e.symm; omega)).trans (Below.heap_alloc _ _ b hb)
        have hs9 : w8.heap.size + 1 ≤ w9.heap.size := by have h := hg9.size; rw [size_alloc'] at h; exact h
        have kD9 : Blk w9 w.heap.size 33 #[.int .i64 (n : Int), .slice Ad nd cd, .slice Aw nw cw, .int .i64 left, .bool false, .slice A5 (no + k + 1) c5] := (k89 _ (by omega) (.inl (by omega))).trans ((k6.below b7 k6.lt).grown g8 (by intro e; injection e with e; omega))
        have kt9 : Blk w9 (bt + 1) 23 (bs tag').toArray := (k89 _ k8.lt (.inl (by omega))).trans k8
        have o9 := own_keep o5 (w' := w9) (fun b e => (k89 b (by have := (lo5 b e).2; omega) (.inr (lo5 b e).1)).trans ((g8.block b (by have := (lo5 b e).2; omega) (fun e2 => by injection e2 with e2; have := (lo5 b e).1; omega)).trans ((b7.block b (by have := (lo5 b e).2; omega)).trans (g6.block b (lo5 b e).2 (fun e2 => by injection e2 with e2; have := (lo5 b e).1; omega)))))
        have y6 : Below w.heap.size w w6 := (hwb.trans (b5.mono hw0)).grown g6 (by omega) (fun k e => by injection e with e; omega)
        have y8 : Below w.heap.size w w8 := (y6.trans (b7.mono (by omega))).grown g8 (by omega) (fun k e => by injection e with e; omega)
        have y9 : Below w.heap.size w w9 := (y8.alloc y8.size (.cells #[.string ⟨slot.toArray⟩] 9)).grown hg9 (by rw [size_alloc']; omega) (fun b e => by have := hbnd b e; omega)
        refine ⟨k + 1, A9, c9, A5, c5, x5, by omega, by go_num, rfl, by rw [HST.out]; exact hown9, kD9, ownsRow_lower o9 (by omega), ox5, by rw [HTG.out]; exact kt9, fun j h1 h2 => ?_, y9, by omega⟩
        exact (k89 j (by omega) (.inl (by omega))).trans ((k68 j (by omega) (by omega) (by omega)).trans (hkeep j h1 h2))
      case measure => simp [intOf]; omega
    · have hkk : k = count := by omega
      clear hlt
      subst hkk
      have kkr : Blk wr (w.heap.size + 1) 23 (bs key).toArray := (hkeep _ (by omega) (by omega)).trans kk0
      have kzr : Blk wr (w.heap.size + 3) 33 #[.int .i64 0, .slice none 0 0, .slice none 0 0, .int .i64 0, .bool false, .slice none 0 0] := (hkeep _ (by omega) (by omega)).trans kz0
      have htl : (tagOf (List.replicate 32 0) (rSlots done way first size start k)).length = 32 := tagOf_length _ _ (by simp)
      have hne0 := fun W => run_neq_sum W (tagOf (List.replicate 32 0) (rSlots done way first size start k)) stag htl HT.out
      have z3 : (bs (tagOf (List.replicate 32 0) (rSlots done way first size start k))).toArray.size = 32 := by rw [List.size_toArray, bs_length, htl]
      have z4 : (Tryz.prog.info? 23).map (·.size) = some (bs stag).length := by rw [bs_length, HT.out]; kernel_rfl
      have hrg : wr.rangeAt (w.heap.size + 2) 2 (bs stag) := fun j u hj => by
        refine (ksr.cell _).trans ?_
        rw [List.getElem?_toArray]
        unfold stCells
        rw [List.getElem?_append_right (by simp)]
        simpa using hj
      have Z3 := Lib.hid z3
      have Z4 := Lib.hid z4
      have ltz := kzr.lt
      have htag := fun h => loadV_tag (key := key) (stag := stag) (slots := rSlots done way first size start k) h
      have hrec := fun rs h h2 => loadV_recs (key := key) (stag := stag) (slots := rSlots done way first size start k) (rs := rs) h h2
      have hpopn := fun h => loadV_pop (key := key) (stag := stag) (slots := rSlots done way first size start k) h
      have HTAG := Lib.hid htag
      have HREC := Lib.hid hrec
      have HPOP := Lib.hid hpopn
      clear htl z3 z4 htag hrec hpopn
      generalize htg : tagOf (List.replicate 32 0) (rSlots done way first size start k) = tag at *
      by_cases htt : tag = stag
      · have hne : ∀ W, (binOp .neq 23 (.agg (bs tag).toArray) (.agg (bs stag).toArray)).run Tryz.prog W = .ok (.bool false) W := fun W => by rw [hne0 W, htt]; simp
        have HTT := Lib.hid htt
        have HTG := Lib.hid htg
        clear htt htg hne0
        go_wp2_with (first | ((with_reducible refine wpList_load_blk (o := ⟨some 80, _, _, _, _, _⟩) rfl 23 _ rfl (bt + 1) rfl 23 _ _ kt Tryz.underlying23 rfl (by rw [Z3.out]; kernel_rfl) ?_)) | ((with_reducible refine wpList_load_mid (op := ⟨some 82, _, _, _, _, _⟩) rfl 23 _ rfl (w.heap.size + 2) 2 rfl (bs stag) _ hrg Tryz.underlying23 rfl Z4.out ?_)))
        clear hne kt hor hrg
        obtain ⟨wo, rfl⟩ : ∃ wo : World, wo = wr := ⟨_, rfl⟩
        have hlgk := hlg k
        go_loopw [20, 21] (fun vr ix wq => ∃ (j : Nat) (A2 : Option Addr) (c2 : Nat) (rs : List Rec), j ≤ k ∧ ix = .int .i64 j ∧ vr = .slice A2 j c2 ∧ wq.ownsRow wo.heap.size 107 3 (.slice A2 j c2) j (encR rs) ∧ PopTo key (rSlots done way first size start k) j rs ∧ Below wo.heap.size wo wq) (fun _ ix _ => k - (intOf ix).toNat)
        case atStart => exact ⟨0, none, 0, [], by omega, rfl, rfl, World.ownsRow_nil _ _ _ _, ⟨rfl, fun i hi => absurd hi (by omega)⟩, Below.refl _ _⟩
        case round =>
          obtain ⟨j, A2, c2, rs, hj, rfl, rfl, hor, hPT, b5⟩ := hrel
          have kDr := kD.below b5 kD.lt
          have kzr2 := kzr.below b5 ltz
          have hsb := b5.size
          have yr : Below w.heap.size w wr := hwb.trans (b5.mono hwb.size)
          by_cases hlt : j < k
          · have hsj := rSlots_get done way first size start k j hlt
            have hpn := popAll_no key (rSlots done way first size start k) j _ hsj
            have hps := fun r h => PopTo.snoc (r := r) hPT hsj h
            simp only at hpn hps
            have hr5 := readR_len (done := done) (way := way) (ldPlace first size start j) HD.out HWY.out
            have hmod : (start + j) % size < size := Nat.mod_lt _ (by omega)
            have hpm : (((start + j) % size : Nat) : Int) = ((start : Int) + (j : Int)) % (size : Int) := by simp
            obtain ⟨place, hplace⟩ : ∃ place, place = ldPlace first size start j := ⟨_, rfl⟩
            have hpi : (first : Int) + ((start : Int) + (j : Int)) % (size : Int) = (place : Int) := by rw [hplace, ← hpm]; unfold ldPlace; simp
            have htm : ((start : Int) + (j : Int)).tmod (size : Int) = ((start : Int) + (j : Int)) % (size : Int) := Int.tmod_eq_emod_of_nonneg (by omega)
            have hplt : place < n := by rw [hplace]; unfold ldPlace; omega
            rw [← hplace] at hpn hps hr5 hsj
            have hmi : ((start : Int) + (j : Int)) % (size : Int) < (size : Int) := by rw [← hpm]; omega
            have hmj : (0 : Int) ≤ ((start : Int) + (j : Int)) % (size : Int) := by rw [← hpm]; omega
            have hsz0 : ¬ (size : Int) = 0 := by omega
            have hp32 : place < 4294967296 := by omega
            have hp64 : (place : Int) ≤ 1048576 := by omega
            have hsti : (start : Int) ≤ 1048576 := by omega
            have hji : (j : Int) ≤ 1048576 := by omega
            have ksr2 := ksr.below b5 ksr.lt
            have kkr2 := kkr.below b5 kkr.lt
            have q0 : wr.cell? ⟨w.heap.size + 2, 0, none⟩ = some (.int .u64 (start : Int)) := ksr2.cell 0
            obtain ⟨gs, caps, hv, _, hgs⟩ := hol.form (by omega)
            injection hv with hA _ hC
            subst hA hC
            have hcs : (strsOf (rSlots done way first size start k))[j]? = some (.string ⟨(readR done way place).toArray⟩) := by unfold strsOf; rw [List.getElem?_map, hsj]; rfl
            have q1 : wr.cell? ⟨gs, j, none⟩ = some (.string ⟨(readR done way place).toArray⟩) := by
              have h := World.ownsRow.cells hol (g := gs) rfl _ _ hcs
              rw [add_head] at h
              exact (b5.cell (p := ⟨gs, j, none⟩) hgs).trans h
            have hopn := fun W => refOpen_any key (readR done way place) place W hr5 HK.out hp32
            have hgok := plainB_length key place 176 (readR done way place) (by omega)
            have hgt := fun W => rrget_any (plainB key place 176 (readR done way place)) W hgok
            have hpvd : popV key place (readR done way place) = if openOk 176 (readR done way place) && recOk (plainB key place 176 (readR done way place)) then some (recOf (plainB key place 176 (readR done way place))) else none := rfl
            have HON := Lib.hid (fun h => openV_no (key := key) (place := place) (n := 176) (s := readR done way place) h)
            have HOY := Lib.hid (fun h => openV_yes (key := key) (place := place) (n := 176) (s := readR done way place) h)
            have HGN := Lib.hid (fun h => getV_no (p := plainB key place 176 (readR done way place)) h)
            have HGY := Lib.hid (fun h => getV_yes (p := plainB key place 176 (readR done way place)) h)
            have HPV := Lib.hid hpvd
            have HPN := Lib.hid hpn
            have HPS := Lib.hid hps
            have i1' : (0 : Int) ≤ (j : Int) := by omega
            have i2' : (j : Int) < (k : Int) := by omega
            have hi39 : (Tryz.prog.info? 23).map (·.size) = some (bs key).length := by rw [bs_length, HK.out]; kernel_rfl
            have hu39 := Tryz.underlying23
            clear hsj hr5 hpm hplace hcs hgok hpvd hpn hps
            generalize openV key place 176 (readR done way place) = ov at *
            generalize getV (plainB key place 176 (readR done way place)) = gv at *
            generalize openOk 176 (readR done way place) = ok at *
            generalize recOk (plainB key place 176 (readR done way place)) = rk at *
            generalize hrr : recOf (plainB key place 176 (readR done way place)) = rr at *
            generalize plainB key place 176 (readR done way place) = plain at *
            generalize readR done way place = slot at *
            have hSo : ∀ W, Below wr.heap.size wr W → W.rangeAt (w.heap.size + 1) 0 (bs key) ∧ W.cell? ⟨gs, j, none⟩ = some (.string ⟨slot.toArray⟩) := fun W hb => ⟨range_below (Blk.range kkr2) hb kkr2.lt, (hb.cell (p := ⟨gs, j, none⟩) (by show gs < _; omega)).trans q1⟩
            have eopn : ∀ args w, (callFunc 50 args).run Tryz.prog w = .ok (.enter 50 args) w := enters_of Tryz.func50 (by kernel_rfl) rfl
            cases ok with
            | false =>
              have hE := HON.out rfl
              subst hE
              have hpnone : popV key place slot = none := HPV.out
              have HLN := Lib.hid (HPOP.out (HPN.out hpnone))
              clear hpnone hgt
              go_wp2
              have hS0 := hSo _ (Below.refl _ wr).drew
              refine wp_region_held_drew (S := fun w' => w'.rangeAt (w.heap.size + 1) 0 (bs key) ∧ w'.cell? ⟨gs, j, none⟩ = some (.string ⟨slot.toArray⟩)) (by kernel_rfl) hS0 (fun _ => ?_)
              refine wpAnyH_take (i := 0) (oi := ⟨some 101, _, _, _, _, _⟩) (v := .agg (bs key).toArray) rfl (by kernel_rfl) (by kernel_rfl) (by kernel_rfl) (fun _ _ _ h => h) (yieldsIf_load_mid (by rfl) 23 _ rfl (w.heap.size + 1) 0 (by rfl) (bs key) _ (fun W h => h.1) hu39 rfl hi39) hS0 ?_
              simp only [Act.put, List.setIfInBounds_toArray, List.set_cons_zero, List.set_cons_succ]
              refine wpAnyH_take (i := 1) (oi := ⟨some 102, _, _, _, _, _⟩) (v := .int .i64 (place : Int)) rfl (by kernel_rfl) (by kernel_rfl) (by kernel_rfl) (fun _ _ _ h => h) (Or.inl ⟨by rfl, by intro W hS; obtain ⟨s1, s2⟩ := hS; go_simp⟩) hS0 ?_
              simp only [Act.put, List.setIfInBounds_toArray, List.set_cons_zero, List.set_cons_succ]
              refine wpAnyH_take (i := 2) (oi := ⟨some 103, _, _, _, _, _⟩) (v := .int .u32 (place : Int)) rfl (by kernel_rfl) (by kernel_rfl) (by kernel_rfl) (fun _ _ _ h => h) (Or.inl ⟨by rfl, by intro W hS; go_simp; exact wrapU32_le _ (by omega) (by omega)⟩) hS0 ?_
              simp only [Act.put, List.setIfInBounds_toArray, List.set_cons_zero, List.set_cons_succ]
              refine wpAnyH_take (i := 3) (oi := ⟨some 104, _, _, _, _, _⟩) (v := .slice (some ⟨gs, 0, none⟩) k c) rfl (by kernel_rfl) (by kernel_rfl) (by kernel_rfl) (fun _ _ _ h => h) (Or.inl ⟨by rfl, by intro W hS; obtain ⟨s1, s2⟩ := hS; go_simp⟩) hS0 ?_
              simp only [Act.put, List.setIfInBounds_toArray, List.set_cons_zero, List.set_cons_succ]
              refine wpAnyH_take (i := 4) (oi := ⟨some 105, _, _, _, _, _⟩) (v := .int .i64 (j : Int)) rfl (by kernel_rfl) (by kernel_rfl) (by kernel_rfl) (fun _ _ _ h => h) (Or.inl ⟨by rfl, by intro W hS; obtain ⟨s1, s2⟩ := hS; go_simp⟩) hS0 ?_
              simp only [Act.put, List.setIfInBounds_toArray, List.set_cons_zero, List.set_cons_succ]
              refine wpAnyH_take (i := 5) (oi := ⟨some 106, _, _, _, _, _⟩) (v := .pointer (some ⟨gs, j, none⟩)) rfl (by kernel_rfl) (by kernel_rfl) (by kernel_rfl) (fun _ _ _ h => h) (Or.inl ⟨by rfl, by intro W hS; obtain ⟨s1, s2⟩ := hS; go_simp⟩) hS0 ?_
              simp only [Act.put, List.setIfInBounds_toArray, List.set_cons_zero, List.set_cons_succ]
              refine wpAnyH_take (i := 6) (oi := ⟨some 107, _, _, _, _, _⟩) (v := .string ⟨slot.toArray⟩) rfl (by kernel_rfl) (by kernel_rfl) (by kernel_rfl) (fun _ _ _ h => h) (Or.inl ⟨by rfl, by intro W hS; obtain ⟨s1, s2⟩ := hS; go_simp⟩) hS0 ?_
              simp only [Act.put, List.setIfInBounds_toArray, List.set_cons_zero, List.set_cons_succ]
              refine wpAnyH_ready (rs := [7]) (by kernel_rfl) (by simp) ?_
              refine AllReadyH.cons (o := ⟨some 108, .call { callee := .value (.func 50), args := #[.tmp 101, .tmp 103, .tmp 107, .const (.int .i64 176)], argTypes := #[23, 59, 9, 3] }, _, _, _, _⟩) rfl (fun K' hK => ?_) AllReadyH.nil
              refine step_call_w (by rfl) 50 [_, _, _, _] _ rfl [.agg (bs key).toArray, .int .u32 (place : Int), .string ⟨slot.toArray⟩, .int .i64 176] rfl eopn _ (hopn _) ?_
              rintro e w6 ⟨rfl, b6⟩
              have b6w : Below wr.heap.size wr w6 := (Below.refl _ wr).drew.trans b6
              have hS1 := hSo _ b6w
              refine ⟨_, rfl, hK.out _ _ hS1 (fun _ => ?_)⟩
              clear hK
              simp only [Act.put, List.setIfInBounds_toArray, List.set_cons_zero, List.set_cons_succ]
              refine wpAnyH_take (i := 8) (oi := ⟨some 100, _, _, _, _, _⟩) (v := .tuple #[.int .u64 0, .string ⟨#[]⟩, .int .i64 11]) rfl (by kernel_rfl) (by kernel_rfl) (by kernel_rfl) (fun _ _ _ h => h) (Or.inl ⟨by rfl, by intro W hS; go_simp⟩) hS1 ?_
              simp only [Act.put, List.setIfInBounds_toArray, List.set_cons_zero, List.set_cons_succ]
              refine wpAnyH_take (i := 9) (oi := ⟨some 109, _, _, _, _, _⟩) (v := .int .u64 0) rfl (by kernel_rfl) (by kernel_rfl) (by kernel_rfl) (fun _ _ _ h => h) (Or.inl ⟨by rfl, by intro W hS; go_simp⟩) hS1 ?_
              simp only [Act.put, List.setIfInBounds_toArray, List.set_cons_zero, List.set_cons_succ]
              refine wpAnyH_take (i := 10) (oi := ⟨some 110, _, _, _, _, _⟩) (v := .string ⟨#[]⟩) rfl (by kernel_rfl) (by kernel_rfl) (by kernel_rfl) (fun _ _ _ h => h) (Or.inl ⟨by rfl, by intro W hS; go_simp⟩) hS1 ?_
              simp only [Act.put, List.setIfInBounds_toArray, List.set_cons_zero, List.set_cons_succ]
              refine wpAnyH_take (i := 11) (oi := ⟨some 111, _, _, _, _, _⟩) (v := .int .i64 11) rfl (by kernel_rfl) (by kernel_rfl) (by kernel_rfl) (fun _ _ _ h => h) (Or.inl ⟨by rfl, by intro W hS; go_simp⟩) hS1 ?_
              simp only [Act.put, List.setIfInBounds_toArray, List.set_cons_zero, List.set_cons_succ]
              refine wpAnyH_take (i := 12) (oi := ⟨some 23, _, _, _, _, _⟩) (v := .int .u64 0) rfl (by kernel_rfl) (by kernel_rfl) (by kernel_rfl) (fun _ _ _ h => h) (Or.inl ⟨by rfl, by intro W hS; go_simp⟩) hS1 ?_
              simp only [Act.put, List.setIfInBounds_toArray, List.set_cons_zero, List.set_cons_succ]
              refine wpAnyH_take (i := 13) (oi := ⟨some 24, _, _, _, _, _⟩) (v := .string ⟨#[]⟩) rfl (by kernel_rfl) (by kernel_rfl) (by kernel_rfl) (fun _ _ _ h => h) (Or.inl ⟨by rfl, by intro W hS; go_simp⟩) hS1 ?_
              simp only [Act.put, List.setIfInBounds_toArray, List.set_cons_zero, List.set_cons_succ]
              refine wpAnyH_take (i := 14) (oi := ⟨some 25, _, _, _, _, _⟩) (v := .int .i64 11) rfl (by kernel_rfl) (by kernel_rfl) (by kernel_rfl) (fun _ _ _ h => h) (Or.inl ⟨by rfl, by intro W hS; go_simp⟩) hS1 ?_
              simp only [Act.put, List.setIfInBounds_toArray, List.set_cons_zero, List.set_cons_succ]
              refine wpAnyH_done (by kernel_rfl) ?_ _
              clear hS0 hS1
              have kD6 := kDr.below b6w kDr.lt
              have kz6 := kzr2.below b6w kzr2.lt
              have y6 := yr.trans (b6w.mono yr.size)
              go_wp2_with (first | ((with_reducible refine wpList_load_blk (o := ⟨some 114, _, _, _, _, _⟩) rfl 33 _ rfl w.heap.size rfl 33 _ _ kD6 Tryz.underlying33 rfl (by kernel_rfl) ?_)) | ((with_reducible refine wpList_store_blk (o := ⟨none, .store 33 (.tmp 10) (.tmp 114), _, _, _, _⟩) rfl 33 (.tmp 10) (.tmp 114) rfl (w.heap.size + 3) #[.int .i64 (n : Int), .slice Ad nd cd, .slice Aw nw cw, .int .i64 left, .bool down, .slice Ao2 (no + k) co2] rfl rfl 33 _ kz6 (by kernel_rfl) (by simp) (by simp [Value.oneCell']) ?_); intro w7 k7 g7 s7))
              refine bodyPost_ret (results_row_tmp2 (fr := (0, 0)) rfl _ _ (w.heap.size + 3) 33 _ _ rfl k7 Tryz.underlying33 rfl (by kernel_rfl)) rfl ?_
              exact ⟨⟨no + k, Ao2, co2, .inl ⟨HLN.out, rfl⟩⟩, y6.grown g7 y6.size (fun k e => by injection e with e; omega)⟩
            | true =>
              have hE := HOY.out rfl
              subst hE
              go_wp2
              have hS0 := hSo _ (Below.refl _ wr).drew
              refine wp_region_held_drew (S := fun w' => w'.rangeAt (w.heap.size + 1) 0 (bs key) ∧ w'.cell? ⟨gs, j, none⟩ = some (.string ⟨slot.toArray⟩)) (by kernel_rfl) hS0 (fun _ => ?_)
              refine wpAnyH_take (i := 0) (oi := ⟨some 101, _, _, _, _, _⟩) (v := .agg (bs key).toArray) rfl (by kernel_rfl) (by kernel_rfl) (by kernel_rfl) (fun _ _ _ h => h) (yieldsIf_load_mid (by rfl) 23 _ rfl (w.heap.size + 1) 0 (by rfl) (bs key) _ (fun W h => h.1) hu39 rfl hi39) hS0 ?_
              simp only [Act.put, List.setIfInBounds_toArray, List.set_cons_zero, List.set_cons_succ]
              refine wpAnyH_take (i := 1) (oi := ⟨some 102, _, _, _, _, _⟩) (v := .int .i64 (place : Int)) rfl (by kernel_rfl) (by kernel_rfl) (by kernel_rfl) (fun _ _ _ h => h) (Or.inl ⟨by rfl, by intro W hS; obtain ⟨s1, s2⟩ := hS; go_simp⟩) hS0 ?_
              simp only [Act.put, List.setIfInBounds_toArray, List.set_cons_zero, List.set_cons_succ]
              refine wpAnyH_take (i := 2) (oi := ⟨some 103, _, _, _, _, _⟩) (v := .int .u32 (place : Int)) rfl (by kernel_rfl) (by kernel_rfl) (by kernel_rfl) (fun _ _ _ h => h) (Or.inl ⟨by rfl, by intro W hS; go_simp; exact wrapU32_le _ (by omega) (by omega)⟩) hS0 ?_
              simp only [Act.put, List.setIfInBounds_toArray, List.set_cons_zero, List.set_cons_succ]
              refine wpAnyH_take (i := 3) (oi := ⟨some 104, _, _, _, _, _⟩) (v := .slice (some ⟨gs, 0, none⟩) k c) rfl (by kernel_rfl) (by kernel_rfl) (by kernel_rfl) (fun _ _ _ h => h) (Or.inl ⟨by rfl, by intro W hS; obtain ⟨s1, s2⟩ := hS; go_simp⟩) hS0 ?_
              simp only [Act.put, List.setIfInBounds_toArray, List.set_cons_zero, List.set_cons_succ]
              refine wpAnyH_take (i := 4) (oi := ⟨some 105, _, _, _, _, _⟩) (v := .int .i64 (j : Int)) rfl (by kernel_rfl) (by kernel_rfl) (by kernel_rfl) (fun _ _ _ h => h) (Or.inl ⟨by rfl, by intro W hS; obtain ⟨s1, s2⟩ := hS; go_simp⟩) hS0 ?_
              simp only [Act.put, List.setIfInBounds_toArray, List.set_cons_zero, List.set_cons_succ]
              refine wpAnyH_take (i := 5) (oi := ⟨some 106, _, _, _, _, _⟩) (v := .pointer (some ⟨gs, j, none⟩)) rfl (by kernel_rfl) (by kernel_rfl) (by kernel_rfl) (fun _ _ _ h => h) (Or.inl ⟨by rfl, by intro W hS; obtain ⟨s1, s2⟩ := hS; go_simp⟩) hS0 ?_
              simp only [Act.put, List.setIfInBounds_toArray, List.set_cons_zero, List.set_cons_succ]
              refine wpAnyH_take (i := 6) (oi := ⟨some 107, _, _, _, _, _⟩) (v := .string ⟨slot.toArray⟩) rfl (by kernel_rfl) (by kernel_rfl) (by kernel_rfl) (fun _ _ _ h => h) (Or.inl ⟨by rfl, by intro W hS; obtain ⟨s1, s2⟩ := hS; go_simp⟩) hS0 ?_
              simp only [Act.put, List.setIfInBounds_toArray, List.set_cons_zero, List.set_cons_succ]
              refine wpAnyH_ready (rs := [7]) (by kernel_rfl) (by simp) ?_
              refine AllReadyH.cons (o := ⟨some 108, .call { callee := .value (.func 50), args := #[.tmp 101, .tmp 103, .tmp 107, .const (.int .i64 176)], argTypes := #[23, 59, 9, 3] }, _, _, _, _⟩) rfl (fun K' hK => ?_) AllReadyH.nil
              refine step_call_w (by rfl) 50 [_, _, _, _] _ rfl [.agg (bs key).toArray, .int .u32 (place : Int), .string ⟨slot.toArray⟩, .int .i64 176] rfl eopn _ (hopn _) ?_
              rintro e w6 ⟨rfl, b6⟩
              have b6w : Below wr.heap.size wr w6 := (Below.refl _ wr).drew.trans b6
              have hS1 := hSo _ b6w
              refine ⟨_, rfl, hK.out _ _ hS1 (fun _ => ?_)⟩
              clear hK
              simp only [Act.put, List.setIfInBounds_toArray, List.set_cons_zero, List.set_cons_succ]
              refine wpAnyH_take (i := 8) (oi := ⟨some 100, _, _, _, _, _⟩) (v := .tuple #[.int .u64 (verB slot : Int), .string ⟨plain.toArray⟩, .int .i64 0]) rfl (by kernel_rfl) (by kernel_rfl) (by kernel_rfl) (fun _ _ _ h => h) (Or.inl ⟨by rfl, by intro W hS; go_simp⟩) hS1 ?_
              simp only [Act.put, List.setIfInBounds_toArray, List.set_cons_zero, List.set_cons_succ]
              refine wpAnyH_take (i := 9) (oi := ⟨some 109, _, _, _, _, _⟩) (v := .int .u64 (verB slot : Int)) rfl (by kernel_rfl) (by kernel_rfl) (by kernel_rfl) (fun _ _ _ h => h) (Or.inl ⟨by rfl, by intro W hS; go_simp⟩) hS1 ?_
              simp only [Act.put, List.setIfInBounds_toArray, List.set_cons_zero, List.set_cons_succ]
              refine wpAnyH_take (i := 10) (oi := ⟨some 110, _, _, _, _, _⟩) (v := .string ⟨plain.toArray⟩) rfl (by kernel_rfl) (by kernel_rfl) (by kernel_rfl) (fun _ _ _ h => h) (Or.inl ⟨by rfl, by intro W hS; go_simp⟩) hS1 ?_
              simp only [Act.put, List.setIfInBounds_toArray, List.set_cons_zero, List.set_cons_succ]
              refine wpAnyH_take (i := 11) (oi := ⟨some 111, _, _, _, _, _⟩) (v := .int .i64 0) rfl (by kernel_rfl) (by kernel_rfl) (by kernel_rfl) (fun _ _ _ h => h) (Or.inl ⟨by rfl, by intro W hS; go_simp⟩) hS1 ?_
              simp only [Act.put, List.setIfInBounds_toArray, List.set_cons_zero, List.set_cons_succ]
              refine wpAnyH_take (i := 12) (oi := ⟨some 23, _, _, _, _, _⟩) (v := .int .u64 (verB slot : Int)) rfl (by kernel_rfl) (by kernel_rfl) (by kernel_rfl) (fun _ _ _ h => h) (Or.inl ⟨by rfl, by intro W hS; go_simp⟩) hS1 ?_
              simp only [Act.put, List.setIfInBounds_toArray, List.set_cons_zero, List.set_cons_succ]
              refine wpAnyH_take (i := 13) (oi := ⟨some 24, _, _, _, _, _⟩) (v := .string ⟨plain.toArray⟩) rfl (by kernel_rfl) (by kernel_rfl) (by kernel_rfl) (fun _ _ _ h => h) (Or.inl ⟨by rfl, by intro W hS; go_simp⟩) hS1 ?_
              simp only [Act.put, List.setIfInBounds_toArray, List.set_cons_zero, List.set_cons_succ]
              refine wpAnyH_take (i := 14) (oi := ⟨some 25, _, _, _, _, _⟩) (v := .int .i64 0) rfl (by kernel_rfl) (by kernel_rfl) (by kernel_rfl) (fun _ _ _ h => h) (Or.inl ⟨by rfl, by intro W hS; go_simp⟩) hS1 ?_
              simp only [Act.put, List.setIfInBounds_toArray, List.set_cons_zero, List.set_cons_succ]
              refine wpAnyH_done (by kernel_rfl) ?_ _
              clear hS0 hS1
              have kD6 := kDr.below b6w kDr.lt
              have kz6 := kzr2.below b6w kzr2.lt
              have y6 := yr.trans (b6w.mono yr.size)
              have s6 := b6w.size
              have hwo := hwb.size
              cases rk with
              | false =>
                have hE := HGN.out rfl
                subst hE
                have hpnone : popV key place slot = none := HPV.out
                have HLN := Lib.hid (HPOP.out (HPN.out hpnone))
                clear hpnone
                go_wp2_with (first | (go_at_call 51; (with_reducible refine (hgt _).mono ?_); rintro e w7 ⟨rfl, b7⟩; have kD7 := (kD6.below b7 kD6.lt).alloc (.cells #[.int .u64 0, .string ⟨#[]⟩, .bool false] 107); have kz7 := (kz6.below b7 kz6.lt).alloc (.cells #[.int .u64 0, .string ⟨#[]⟩, .bool false] 107); have y7 := (y6.trans (b7.mono y6.size)).alloc (by have := y6.size; have := b7.size; omega) (.cells #[.int .u64 0, .string ⟨#[]⟩, .bool false] 107)) | ((with_reducible refine wpList_load_blk (o := ⟨some 122, _, _, _, _, _⟩) rfl 33 _ rfl w.heap.size rfl 33 _ _ kD7 Tryz.underlying33 rfl (by kernel_rfl) ?_)) | ((with_reducible refine wpList_store_blk (o := ⟨none, .store 33 (.tmp 10) (.tmp 122), _, _, _, _⟩) rfl 33 (.tmp 10) (.tmp 122) rfl (w.heap.size + 3) #[.int .i64 (n : Int), .slice Ad nd cd, .slice Aw nw cw, .int .i64 left, .bool down, .slice Ao2 (no + k) co2] rfl rfl 33 _ kz7 (by kernel_rfl) (by simp) (by simp [Value.oneCell']) ?_); intro w8 k8 g8 s8))
                refine bodyPost_ret (results_row_tmp2 (fr := (0, 0)) rfl _ _ (w.heap.size + 3) 33 _ _ rfl k8 Tryz.underlying33 rfl (by kernel_rfl)) rfl ?_
                exact ⟨⟨no + k, Ao2, co2, .inl ⟨HLN.out, rfl⟩⟩, y7.grown g8 y7.size (fun k e => by injection e with e; omega)⟩
              | true =>
                obtain ⟨⟨x, b⟩, last⟩ := rr
                have hE := HGY.out rfl
                simp only at hE
                subst hE
                have hpv : popV key place slot = some ((x, b), last) := HPV.out
                have HPS2 := Lib.hid (HPS.out _ hpv)
                clear hpv
                have hone : ∀ u ∈ [Value.int .u64 (x : Int), .string ⟨b.toArray⟩, .bool last], u.oneCell' = true := by intro u hu; simp only [List.mem_cons, List.not_mem_nil, or_false] at hu; rcases hu with rfl | rfl | rfl <;> rfl
                have HM : Hid (j + 1 ≤ maxLen ∧ (j + 1) * 32 ≤ 140737488355328) := Lib.hid ⟨by unfold maxLen; omega, by omega⟩
                have hbnd := World.ownsRow.lt hor
                go_wp2_with (first | (go_at_call 51; (with_reducible refine (hgt _).mono ?_); rintro e w7 ⟨rfl, b7⟩; have s7 := b7.size; have hor7 := own_keep hor (w' := w7) (fun b e => (b7.block b (by have := (hbnd b e).2; omega)).trans (b6w.block b (hbnd b e).2)); have hnews := Blk.rows (xs := [Value.int .u64 (x : Int), .string ⟨b.toArray⟩, .bool last]) 1 3 (Blk.new (w7.alloc (.cells #[Value.int .u64 (x : Int), .string ⟨b.toArray⟩, .bool last] 107)) 107 #[Value.int .u64 (x : Int), .string ⟨b.toArray⟩, .bool last]) rfl; have hbase : wo.heap.size ≤ ((w7.alloc (.cells #[Value.int .u64 (x : Int), .string ⟨b.toArray⟩, .bool last] 107)).alloc (.cells #[Value.int .u64 (x : Int), .string ⟨b.toArray⟩, .bool last] 107)).heap.size := (by rw [size_alloc', size_alloc']; omega); simp only [size_alloc'] at hnews) | (at_builtin; refine wpList_append_any _ rfl (.tmp 123) (.tmp 125) 99 rfl wo.heap.size 107 i1 _ 3 32 Tryz.underlying99 ii1 hy0 hy1 hy2 rfl (by omega) (.slice A2 j c2) j (encR rs) rfl (World.ownsRow.alloc (World.ownsRow.alloc hor7 _) _) _ (some ⟨w7.heap.size + 1, 0, none⟩) 1 1 [_, _, _] rfl hnews hone HM.out.1 HM.out.2 hbase ?_; intro v9 w9 hown9 hg9 hat9; obtain ⟨A9, c9, rfl⟩ := own_shape hown9))
                go_roundw
                case rel =>
                  have b9 : Below wo.heap.size wo w9 := ((((b5.trans (b6w.mono hsb)).trans (b7.mono (by omega))).alloc (by omega) _).alloc (by rw [size_alloc']; omega) _).grown hg9 (by rw [size_alloc', size_alloc']; omega) (fun b e => (hbnd b e).1)
                  exact ⟨j + 1, A9, c9, rs ++ [((x, b), last)], by omega, by go_num, rfl, by rw [encR_append]; exact hown9, HPS2.out, b9⟩
                case measure => simp [intOf]; omega
          · have hjk : j = k := by omega
            clear hlt
            subst hjk
            have hall : popAll key (rSlots done way first size start j) = some rs := popAll_yes key _ _ (by rw [rSlots_length]; exact hPT)
            have hlv := HREC.out rs HTT.out hall
            have hch := rchg_any A2 j c2 rs wr (ownsRow_lower hor (by omega)) hPT.1 (by omega)
            have HLV := Lib.hid hlv
            clear hlv hall
            have hcases : chgV rs = none ∨ chgV rs = some (chg rs).out := by
              unfold chgV
              split
              · exact .inr rfl
              · exact .inl rfl
            rcases hcases with hcv | hcv
            · have hch2 : Calls Tryz.prog 52 #[.slice A2 j c2] wr fun e w' => e = .returned (.tuple #[.slice none 0 0, .int .i64 11]) ∧ Below wr.heap.size wr w' := hch.mono fun e w' h => by
                rcases h with ⟨h1 | ⟨_, _, _, h1, _⟩, h2⟩
                · exact ⟨h1.2, h2⟩
                · rw [hcv] at h1; cases h1
              have HLN := Lib.hid (HLV.out.trans hcv)
              clear hch hcv
              go_wp2_with (first | (go_at_call 52; (with_reducible refine hch2.mono ?_); rintro e w6 ⟨rfl, b6⟩; have kD6 := kDr.below b6 kDr.lt; have kz6 := kzr2.below b6 kzr2.lt; have y6 := yr.trans (b6.mono yr.size)) | ((with_reducible refine wpList_load_blk (o := ⟨some 134, _, _, _, _, _⟩) rfl 33 _ rfl w.heap.size rfl 33 _ _ kD6 Tryz.underlying33 rfl (by kernel_rfl) ?_)) | ((with_reducible refine wpList_store_blk (o := ⟨none, .store 33 (.tmp 10) (.tmp 134), _, _, _, _⟩) rfl 33 (.tmp 10) (.tmp 134) rfl (w.heap.size + 3) #[.int .i64 (n : Int), .slice Ad nd cd, .slice Aw nw cw, .int .i64 left, .bool down, .slice Ao2 (no + j) co2] rfl rfl 33 _ kz6 (by kernel_rfl) (by simp) (by simp [Value.oneCell']) ?_); intro w7 k7 g7 s7))
              refine bodyPost_ret (results_row_tmp2 (fr := (0, 0)) rfl _ _ (w.heap.size + 3) 33 _ _ rfl k7 Tryz.underlying33 rfl (by kernel_rfl)) rfl ?_
              exact ⟨⟨no + j, Ao2, co2, .inl ⟨HLN.out, rfl⟩⟩, y6.grown g7 y6.size (fun k e => by injection e with e; omega)⟩
            · have hch2 : Calls Tryz.prog 52 #[.slice A2 j c2] wr fun e w' => ∃ A' c' ys, e = .returned (.tuple #[.slice A' (chg rs).out.length c', .int .i64 0]) ∧ w'.ownsRow wr.heap.size 52 1 (.slice A' (chg rs).out.length c') (chg rs).out.length ys ∧ RowMs w' wr.heap.size ys (chg rs).out ∧ Below wr.heap.size wr w' := hch.mono fun e w' h => by
                rcases h with ⟨h1 | ⟨A', c', ys, _, h1, h3, h4⟩, h2⟩
                · have := h1.1; rw [hcv] at this; cases this
                · exact ⟨A', c', ys, h1, h3, h4, h2⟩
              have HLN := Lib.hid (HLV.out.trans hcv)
              clear hch hcv
              generalize (chg rs).out = ll at *
              go_wp2_with (first | (go_at_call 52; (with_reducible refine hch2.mono ?_); rintro e w6 ⟨A6, c6, y6s, rfl, o6, R6, b6⟩; have kD6 := kDr.below b6 kDr.lt; have kz6 := kzr2.below b6 kzr2.lt; have y6 := yr.trans (b6.mono yr.size)) | ((with_reducible refine wpList_load_blk (o := ⟨some 135, _, _, _, _, _⟩) rfl 33 _ rfl w.heap.size rfl 33 _ _ kD6 Tryz.underlying33 rfl (by kernel_rfl) ?_)) | ((with_reducible refine wpList_store_blk (o := ⟨none, .store 33 (.tmp 10) (.tmp 135), _, _, _, _⟩) rfl 33 (.tmp 10) (.tmp 135) rfl (w.heap.size + 3) #[.int .i64 (n : Int), .slice Ad nd cd, .slice Aw nw cw, .int .i64 left, .bool down, .slice Ao2 (no + j) co2] rfl rfl 33 _ kz6 (by kernel_rfl) (by simp) (by simp [Value.oneCell']) ?_); intro w7 k7 g7 s7))
              refine bodyPost_ret (results_row_tmp2 (fr := (0, 0)) rfl _ _ (w.heap.size + 3) 33 _ _ rfl k7 Tryz.underlying33 rfl (by kernel_rfl)) rfl ?_
              have ysz := yr.size
              have kz7 : ∀ b, wr.heap.size ≤ b → b < w6.heap.size → w7.heap[b]? = w6.heap[b]? := fun b h1 h2 => g7.block b h2 (fun e => by injection e with e; have := kzr2.lt; omega)
              refine ⟨⟨no + j, Ao2, co2, .inr ⟨ll, A6, c6, y6s, HLN.out, rfl, ownsRow_lower (own_keep o6 (fun b e => kz7 b (World.ownsRow.lt o6 b e).1 (World.ownsRow.lt o6 b e).2)) ysz, ?_⟩⟩, y6.grown g7 y6.size (fun k e => by injection e with e; omega)⟩
              intro i l hl
              obtain ⟨A', c', h1, h2⟩ := R6 i l hl
              exact ⟨A', c', h1, ownsRow_lower (own_keep h2 (fun b e => kz7 b (World.ownsRow.lt h2 b e).1 (World.ownsRow.lt h2 b e).2)) ysz⟩
      · have hne : ∀ W, (binOp .neq 23 (.agg (bs tag).toArray) (.agg (bs stag).toArray)).run Tryz.prog W = .ok (.bool true) W := fun W => by rw [hne0 W, show (tag == stag) = false from beq_eq_false_iff_ne.2 htt]; rfl
        have HTT := Lib.hid (HTAG.out htt)
        clear htt htg hne0
        go_wp2_with (first | ((with_reducible refine wpList_load_blk (o := ⟨some 80, _, _, _, _, _⟩) rfl 23 _ rfl (bt + 1) rfl 23 _ _ kt Tryz.underlying23 rfl (by rw [Z3.out]; kernel_rfl) ?_)) | ((with_reducible refine wpList_load_mid (op := ⟨some 82, _, _, _, _, _⟩) rfl 23 _ rfl (w.heap.size + 2) 2 rfl (bs stag) _ hrg Tryz.underlying23 rfl Z4.out ?_)) | ((with_reducible refine wpList_load_blk (o := ⟨some 84, _, _, _, _, _⟩) rfl 33 _ rfl w.heap.size rfl 33 _ _ kD Tryz.underlying33 rfl (by kernel_rfl) ?_)) | ((with_reducible refine wpList_store_blk (o := ⟨none, .store 33 (.tmp 10) (.tmp 84), _, _, _, _⟩) rfl 33 (.tmp 10) (.tmp 84) rfl (w.heap.size + 3) #[.int .i64 (n : Int), .slice Ad nd cd, .slice Aw nw cw, .int .i64 left, .bool down, .slice Ao2 (no + k) co2] rfl rfl 33 _ kzr (by kernel_rfl) (by simp) (by simp [Value.oneCell']) ?_); intro w4 k4 g4 s4))
        refine bodyPost_ret (results_row_tmp2 (fr := (0, 0)) rfl _ _ (w.heap.size + 3) 33 _ _ rfl k4 Tryz.underlying33 rfl (by kernel_rfl)) rfl ?_
        exact ⟨⟨no + k, Ao2, co2, .inl ⟨HTT.out, rfl⟩⟩, hwb.grown g4 hwb.size (fun k e => by injection e with e; omega)⟩
theorem rload_any (n nd cd nw cw no co : Nat) (Ad Aw Ao : Option Addr) (left : Int) (done way : List (Nat × List UInt8)) (xo : List Value) (first size start count : Nat) (key stag : List UInt8) (w : World)
    (hd : w.ownsRow 0 142 2 (.slice Ad nd cd) nd (encW done)) (hl : done.length = nd) (hn : nd ≤ 1048576) (hw : w.ownsRow 0 142 2 (.slice Aw nw cw) nw (encW way)) (hl2 : way.length = nw) (hn2 : nw ≤ 1048576)
    (ho : w.ownsRow 0 169 2 (.slice Ao no co) no xo) (hx : ∀ u ∈ xo, u.oneCell' = true) (hk : key.length = 32) (ht : stag.length = 32) (h1 : 1 ≤ size) (h2 : first + size ≤ n) (hp : n ≤ 1048576) (h3 : start < size) (h4 : count ≤ size) (hn3 : no + count ≤ 1048576)
    (h192d : ∀ p ∈ done, p.2.length = 192) (h192w : ∀ p ∈ way, p.2.length = 192) :
    Calls Tryz.prog 18 #[.agg #[.int .i64 (n : Int), .slice Ad nd cd, .slice Aw nw cw, .int .i64 left, .bool false, .slice Ao no co], .agg (bs key).toArray, .int .i64 (first : Int), .int .i64 (size : Int), .agg (stCells start count stag).toArray] w fun e w' =>
      (∃ no2 Ao2 co2, (loadV key stag (rSlots done way first size start count) = none ∧ e = .returned (.tuple #[.agg #[.int .i64 (n : Int), .slice Ad nd cd, .slice Aw nw cw, .int .i64 left, .bool false, .slice Ao2 no2 co2], .slice none 0 0, .int .i64 14])) ∨
        ∃ ll A' c' ys, loadV key stag (rSlots done way first size start count) = some ll ∧ e = .returned (.tuple #[.agg #[.int .i64 (n : Int), .slice Ad nd cd, .slice Aw nw cw, .int .i64 left, .bool false, .slice Ao2 no2 co2], .slice A' ll.length c', .int .i64 0]) ∧
          w'.ownsRow w.heap.size 52 1 (.slice A' ll.length c') ll.length ys ∧ RowMs w' w.heap.size ys ll) ∧ Below w.heap.size w w' :=
  rload_gen n nd cd nw cw no co Ad Aw Ao left done way xo first size start count key stag w hd hl hn hw hl2 hn2 ho hx hk ht h1 h2 hp h3 h4 hn3 h192d h192w false (fun _ => rfl)
end Go.Proofs.YtkhebllmnagkmaaGreatDoor
