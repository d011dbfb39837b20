/- Contracts and lemmas under the statements of this seat, one behind the other. Conditions: what each names. -/
import Derived.Test.YtkhebllmnagkmaaGreatDoorG32
import Derived.Test.YtkhebllmnagkmaaGreatDoorG31
/- Contracts of the reference's disk: Read at no place and when it is down, Stop, Write when it is to stop, Tamper; of ref13.New and ref14.Load that are refused; of ref13.Adopt; of ref13.Append that is refused. Conditions: what each names. -/
namespace Go.Proofs.YtkhebllmnagkmaaGreatDoor
open Go.RowKit
set_option linter.unusedVariables false

set_option maxRecDepth 100000 in
set_option maxHeartbeats 4000000 in
theorem rread_down (n nd cd nw cw no co : Nat) (Ad Aw Ao : Option Addr) (left i : Int) (w : World) :
    Calls Tryz.prog 49 #[.agg #[.int .i64 (n : Int), .slice Ad nd cd, .slice Aw nw cw, .int .i64 left, .bool true, .slice Ao no co], .int .i64 i] w fun e w' => e = .returned (.tuple #[.agg #[.int .i64 (n : Int), .slice Ad nd cd, .slice Aw nw cw, .int .i64 left, .bool true, .slice Ao no co], .string ⟨#[]⟩, .int .i64 13]) ∧ Below w.heap.size w w' := by
  obtain ⟨W0, hW0⟩ : ∃ W0 : World, W0 = ((w.alloc (.cells #[.int .i64 (n : Int), .slice Ad nd cd, .slice Aw nw cw, .int .i64 left, .bool true, .slice Ao no co] 33)).alloc (.cells #[.int .i64 0, .slice none 0 0, .slice none 0 0, .int .i64 0, .bool false, .slice none 0 0] 33)) := ⟨_, rfl⟩
  have y0 : Below w.heap.size w W0 := by rw [hW0]; exact (((Below.refl _ _).alloc (Nat.le_refl _) _).alloc (by simp) _)
  have s0 : W0.heap.size = w.heap.size + 2 := by rw [hW0]; simp
  have k0 : Blk W0 w.heap.size 33 #[.int .i64 (n : Int), .slice Ad nd cd, .slice Aw nw cw, .int .i64 left, .bool true, .slice Ao no co] := by rw [hW0]; exact ((Blk.new_of rfl rfl).alloc _)
  have k1 : Blk W0 (w.heap.size + 1) 33 #[.int .i64 0, .slice none 0 0, .slice none 0 0, .int .i64 0, .bool false, .slice none 0 0] := by rw [hW0]; exact (Blk.new_of (by simp) rfl)
  have HW0 := Lib.hid hW0
  clear hW0
  go_enter Tryz.func49, Tryz.ntmps49
  go_wp2_with (first | ((with_reducible refine wpList_load_blk (o := ⟨some 11, _, _, _, _, _⟩) rfl 33 _ rfl w.heap.size rfl 33 _ _ (by rw [← HW0.out]; exact k0) Tryz.underlying33 rfl (by kernel_rfl) ?_)) | ((with_reducible refine wpList_store_blk (o := ⟨none, .store 33 (.tmp 4) (.tmp 11), _, _, _, _⟩) rfl 33 (.tmp 4) (.tmp 11) rfl (w.heap.size + 1) #[.int .i64 (n : Int), .slice Ad nd cd, .slice Aw nw cw, .int .i64 left, .bool true, .slice Ao no co] rfl rfl 33 _ (by rw [← HW0.out]; exact k1) (by kernel_rfl) (by simp) (by simp [Value.oneCell']) ?_); intro w6 k6 g6 s6))
  refine bodyPost_ret (results_row_tmp2 (fr := (0, 0)) rfl _ _ (w.heap.size + 1) 33 _ _ rfl k6 Tryz.underlying33 rfl (by kernel_rfl)) rfl ?_
  rw [← HW0.out] at g6
  exact ⟨rfl, y0.grown g6 y0.size (fun k e => by injection e with e; omega)⟩
set_option maxRecDepth 100000 in
set_option maxHeartbeats 4000000 in
theorem rread_range (n nd cd nw cw no co : Nat) (Ad Aw Ao : Option Addr) (left i : Int) (w : World) (h : i < 0 ∨ (n : Int) ≤ i) :
    Calls Tryz.prog 49 #[.agg #[.int .i64 (n : Int), .slice Ad nd cd, .slice Aw nw cw, .int .i64 left, .bool false, .slice Ao no co], .int .i64 i] w fun e w' => e = .returned (.tuple #[.agg #[.int .i64 (n : Int), .slice Ad nd cd, .slice Aw nw cw, .int .i64 left, .bool false, .slice Ao no co], .string ⟨#[]⟩, .int .i64 12]) ∧ Below w.heap.size w w' := by
  obtain ⟨W0, hW0⟩ : ∃ W0 : World, W0 = ((w.alloc (.cells #[.int .i64 (n : Int), .slice Ad nd cd, .slice Aw nw cw, .int .i64 left, .bool false, .slice Ao no co] 33)).alloc (.cells #[.int .i64 0, .slice none 0 0, .slice none 0 0, .int .i64 0, .bool false, .slice none 0 0] 33)) := ⟨_, rfl⟩
  have y0 : Below w.heap.size w W0 := by rw [hW0]; exact (((Below.refl _ _).alloc (Nat.le_refl _) _).alloc (by simp) _)
  have s0 : W0.heap.size = w.heap.size + 2 := by rw [hW0]; simp
  have k0 : Blk W0 w.heap.size 33 #[.int .i64 (n : Int), .slice Ad nd cd, .slice Aw nw cw, .int .i64 left, .bool false, .slice Ao no co] := by rw [hW0]; exact ((Blk.new_of rfl rfl).alloc _)
  have k1 : Blk W0 (w.heap.size + 1) 33 #[.int .i64 0, .slice none 0 0, .slice none 0 0, .int .i64 0, .bool false, .slice none 0 0] := by rw [hW0]; exact (Blk.new_of (by simp) rfl)
  have HH := Lib.hid h
  clear h
  have HW0 := Lib.hid hW0
  clear hW0
  by_cases n0 : i < 0
  · go_enter Tryz.func49, Tryz.ntmps49
    go_wp2_with (first | ((with_reducible refine wpList_load_blk (o := ⟨some 20, _, _, _, _, _⟩) rfl 33 _ rfl w.heap.size rfl 33 _ _ (by rw [← HW0.out]; exact k0) Tryz.underlying33 rfl (by kernel_rfl) ?_)) | ((with_reducible refine wpList_store_blk (o := ⟨none, .store 33 (.tmp 4) (.tmp 20), _, _, _, _⟩) rfl 33 (.tmp 4) (.tmp 20) rfl (w.heap.size + 1) #[.int .i64 (n : Int), .slice Ad nd cd, .slice Aw nw cw, .int .i64 left, .bool false, .slice Ao no co] rfl rfl 33 _ (by rw [← HW0.out]; exact k1) (by kernel_rfl) (by simp) (by simp [Value.oneCell']) ?_); intro w6 k6 g6 s6))
    refine bodyPost_ret (results_row_tmp2 (fr := (0, 0)) rfl _ _ (w.heap.size + 1) 33 _ _ rfl k6 Tryz.underlying33 rfl (by kernel_rfl)) rfl ?_
    rw [← HW0.out] at g6
    exact ⟨rfl, y0.grown g6 y0.size (fun k e => by injection e with e; omega)⟩
  · have n1 : (n : Int) ≤ i := HH.out.resolve_left n0
    go_enter Tryz.func49, Tryz.ntmps49
    go_wp2_with (first | ((with_reducible refine wpList_load_blk (o := ⟨some 20, _, _, _, _, _⟩) rfl 33 _ rfl w.heap.size rfl 33 _ _ (by rw [← HW0.out]; exact k0) Tryz.underlying33 rfl (by kernel_rfl) ?_)) | ((with_reducible refine wpList_store_blk (o := ⟨none, .store 33 (.tmp 4) (.tmp 20), _, _, _, _⟩) rfl 33 (.tmp 4) (.tmp 20) rfl (w.heap.size + 1) #[.int .i64 (n : Int), .slice Ad nd cd, .slice Aw nw cw, .int .i64 left, .bool false, .slice Ao no co] rfl rfl 33 _ (by rw [← HW0.out]; exact k1) (by kernel_rfl) (by simp) (by simp [Value.oneCell']) ?_); intro w6 k6 g6 s6))
    refine bodyPost_ret (results_row_tmp2 (fr := (0, 0)) rfl _ _ (w.heap.size + 1) 33 _ _ rfl k6 Tryz.underlying33 rfl (by kernel_rfl)) rfl ?_
    rw [← HW0.out] at g6
    exact ⟨rfl, y0.grown g6 y0.size (fun k e => by injection e with e; omega)⟩
set_option maxRecDepth 100000 in
set_option maxHeartbeats 4000000 in
theorem rstop_any (n nd cd nw cw no co : Nat) (Ad Aw Ao : Option Addr) (left : Int) (down : Bool) (w : World) :
    Calls Tryz.prog 28 #[.agg #[.int .i64 (n : Int), .slice Ad nd cd, .slice Aw nw cw, .int .i64 left, .bool down, .slice Ao no co], .int .i64 0] w fun e w' => e = .returned (.agg #[.int .i64 (n : Int), .slice Ad nd cd, .slice Aw nw cw, .int .i64 0, .bool down, .slice Ao no co]) ∧ Below w.heap.size w w' := by
  obtain ⟨W0, hW0⟩ : ∃ W0 : World, W0 = ((w.alloc (.cells #[.int .i64 (n : Int), .slice Ad nd cd, .slice Aw nw cw, .int .i64 left, .bool down, .slice Ao no co] 33)).alloc (.cells #[.int .i64 0, .slice none 0 0, .slice none 0 0, .int .i64 0, .bool false, .slice none 0 0] 33)) := ⟨_, rfl⟩
  have y0 : Below w.heap.size w W0 := by rw [hW0]; exact (((Below.refl _ _).alloc (Nat.le_refl _) _).alloc (by simp) _)
  have s0 : W0.heap.size = w.heap.size + 2 := by rw [hW0]; simp
  have k0 : Blk W0 w.heap.size 33 #[.int .i64 (n : Int), .slice Ad nd cd, .slice Aw nw cw, .int .i64 left, .bool down, .slice Ao no co] := by rw [hW0]; exact ((Blk.new_of rfl rfl).alloc _)
  have k1 : Blk W0 (w.heap.size + 1) 33 #[.int .i64 0, .slice none 0 0, .slice none 0 0, .int .i64 0, .bool false, .slice none 0 0] := by rw [hW0]; exact (Blk.new_of (by simp) rfl)
  have j3 : W0.cell? ⟨w.heap.size, 3, none⟩ = some (.int .i64 left) := k0.cell 3
  have f3 := k0.frozen 3
  have kL := k0.set_ 3 (.int .i64 0)
  have kS := k1.far (p := ⟨w.heap.size, 3, none⟩) (by show w.heap.size + 1 ≠ w.heap.size; omega) (.int .i64 0)
  have yL := y0.setCell (p := ⟨w.heap.size, 3, none⟩) (Nat.le_refl _) (.int .i64 0)
  rw [hW0] at j3 f3 kL kS
  have HW0 := Lib.hid hW0
  clear hW0
  go_enter Tryz.func28, Tryz.ntmps28
  go_wp2_with (first | ((with_reducible refine wpList_load_blk (o := ⟨some 10, _, _, _, _, _⟩) rfl 33 _ rfl w.heap.size rfl 33 _ _ kL Tryz.underlying33 rfl (by kernel_rfl) ?_)) | ((with_reducible refine wpList_store_blk (o := ⟨none, .store 33 (.tmp 4) (.tmp 10), _, _, _, _⟩) rfl 33 (.tmp 4) (.tmp 10) rfl (w.heap.size + 1) #[.int .i64 (n : Int), .slice Ad nd cd, .slice Aw nw cw, .int .i64 0, .bool down, .slice Ao no co] rfl rfl 33 _ kS (by kernel_rfl) (by simp) (by simp [Value.oneCell']) ?_); intro w6 k6 g6 s6))
  obtain ⟨WF, hWF⟩ : ∃ WF : World, WF = ((w.alloc (.cells #[.int .i64 (n : Int), .slice Ad nd cd, .slice Aw nw cw, .int .i64 0, .bool down, .slice Ao no co] 33)).alloc (.cells #[.int .i64 (n : Int), .slice Ad nd cd, .slice Aw nw cw, .int .i64 0, .bool down, .slice Ao no co] 33)) := ⟨_, rfl⟩
  have k6 : Blk WF (w.heap.size + 1) 33 #[.int .i64 (n : Int), .slice Ad nd cd, .slice Aw nw cw, .int .i64 0, .bool down, .slice Ao no co] := by rw [hWF]; exact Blk.new_of (by simp) rfl
  have bF : Below w.heap.size w WF := by rw [hWF]; exact ((Below.refl _ _).alloc (Nat.le_refl _) _).alloc (by simp) _
  rw [← hWF]
  refine ret_cell 4 33 rfl rfl (w.heap.size + 1) 33 _ _ rfl k6 Tryz.underlying33 rfl (by kernel_rfl) ⟨rfl, bF⟩
set_option maxRecDepth 100000 in
set_option maxHeartbeats 4000000 in
theorem rwrite_stop (n nd cd nw cw no co : Nat) (Ad Aw Ao : Option Addr) (i : Nat) (b : List UInt8) (w : World) (hi : i < n) (hb : b.length = 192) :
    Calls Tryz.prog 29 #[.agg #[.int .i64 (n : Int), .slice Ad nd cd, .slice Aw nw cw, .int .i64 0, .bool false, .slice Ao no co], .int .i64 (i : Int), .string ⟨b.toArray⟩] w fun e w' => e = .returned (.tuple #[.agg #[.int .i64 (n : Int), .slice Ad nd cd, .slice Aw nw cw, .int .i64 0, .bool true, .slice Ao no co], .int .i64 13]) ∧ Below w.heap.size w w' := by
  obtain ⟨W0, hW0⟩ : ∃ W0 : World, W0 = ((w.alloc (.cells #[.int .i64 (n : Int), .slice Ad nd cd, .slice Aw nw cw, .int .i64 0, .bool false, .slice Ao no co] 33)).alloc (.cells #[.int .i64 0, .slice none 0 0, .slice none 0 0, .int .i64 0, .bool false, .slice none 0 0] 33)) := ⟨_, rfl⟩
  have y0 : Below w.heap.size w W0 := by rw [hW0]; exact (((Below.refl _ _).alloc (Nat.le_refl _) _).alloc (by simp) _)
  have s0 : W0.heap.size = w.heap.size + 2 := by rw [hW0]; simp
  have k0 : Blk W0 w.heap.size 33 #[.int .i64 (n : Int), .slice Ad nd cd, .slice Aw nw cw, .int .i64 0, .bool false, .slice Ao no co] := by rw [hW0]; exact ((Blk.new_of rfl rfl).alloc _)
  have k1 : Blk W0 (w.heap.size + 1) 33 #[.int .i64 0, .slice none 0 0, .slice none 0 0, .int .i64 0, .bool false, .slice none 0 0] := by rw [hW0]; exact (Blk.new_of (by simp) rfl)
  have hfi := rfits_any n i nd cd nw cw no co Ad Aw Ao 0 b W0 hi hb
  have HW0 := Lib.hid hW0
  have hlt0 : w.heap.size < W0.heap.size := by omega
  have hlt1 : w.heap.size + 1 < W0.heap.size := by omega
  clear hW0
  go_enter Tryz.func29, Tryz.ntmps29
  go_wp2_with (first | (go_at_call 57; rw [← HW0.out]; (with_reducible refine hfi.mono ?_); rintro e w1 ⟨rfl, b1⟩; have k01 := k0.below b1 hlt0; have k11 := k1.below b1 hlt1; have y1 := y0.trans (b1.mono y0.size); have j3 : w1.cell? ⟨w.heap.size, 3, none⟩ = some (.int .i64 0) := k01.cell 3; have j4 : w1.cell? ⟨w.heap.size, 4, none⟩ = some (.bool false) := k01.cell 4; have f4 := k01.frozen 4; have kL := k01.set_ 4 (.bool true); have kS := k11.far (p := ⟨w.heap.size, 4, none⟩) (by show w.heap.size + 1 ≠ w.heap.size; omega) (.bool true); have yL := y1.setCell (p := ⟨w.heap.size, 4, none⟩) (Nat.le_refl _) (.bool true)) | ((with_reducible refine wpList_load_blk (o := ⟨some 12, _, _, _, _, _⟩) rfl 33 _ rfl w.heap.size rfl 33 _ _ (by rw [← HW0.out]; exact k0) Tryz.underlying33 rfl (by kernel_rfl) ?_)) | ((with_reducible refine wpList_load_blk (o := ⟨some 24, _, _, _, _, _⟩) rfl 33 _ rfl w.heap.size rfl 33 _ _ kL Tryz.underlying33 rfl (by kernel_rfl) ?_)) | ((with_reducible refine wpList_store_blk (o := ⟨none, .store 33 (.tmp 6) (.tmp 24), _, _, _, _⟩) rfl 33 (.tmp 6) (.tmp 24) rfl (w.heap.size + 1) #[.int .i64 (n : Int), .slice Ad nd cd, .slice Aw nw cw, .int .i64 0, .bool true, .slice Ao no co] rfl rfl 33 _ kS (by kernel_rfl) (by simp) (by simp [Value.oneCell']) ?_); intro w6 k6 g6 s6))
  refine bodyPost_ret (results_row_tmp (fr := (0, 0)) rfl _ _ (w.heap.size + 1) 33 _ _ rfl k6 Tryz.underlying33 rfl (by kernel_rfl)) rfl ?_
  exact ⟨rfl, yL.grown g6 yL.size (fun k e => by injection e with e; omega)⟩
set_option maxRecDepth 100000 in
set_option maxHeartbeats 4000000 in
theorem rjnew_bad (places first size start count next limit : Nat) (key tag : List UInt8) (w : World) (hk : key.length = 32) (ht : tag.length = 32) (h1 : 1 ≤ size) (h2 : first + size ≤ places) (hp : places ≤ 1048576) (h3 : size ≤ start ∨ size < count) :
    Calls Tryz.prog 9 #[.int .i64 (places : Int), .agg (bs key).toArray, .int .i64 (first : Int), .int .i64 (size : Int), .agg (stCells start count tag).toArray, .int .u64 (next : Int), .int .u64 (limit : Int)] w fun e w' =>
      e = .returned (.tuple #[.agg Tryz.zeroCells44, .int .i64 1]) ∧ Below w.heap.size w w' := by
  obtain ⟨W0, hW0⟩ : ∃ W0 : World, W0 = (((w.alloc (.cells (bs key).toArray 23)).alloc (.cells (stCells start count tag).toArray 42)).alloc (.cells Tryz.zeroCells44 44)) := ⟨_, rfl⟩
  have y0 : Below w.heap.size w W0 := by rw [hW0]; exact ((((Below.refl _ _).alloc (Nat.le_refl _) _).alloc (by simp) _).alloc (by simp; omega) _)
  have s0 : W0.heap.size = w.heap.size + 3 := by rw [hW0]; simp
  have kk : Blk W0 w.heap.size 23 (bs key).toArray := by rw [hW0]; exact (((Blk.new_of rfl rfl).alloc _).alloc _)
  have ks : Blk W0 (w.heap.size + 1) 42 (stCells start count tag).toArray := by rw [hW0]; exact ((Blk.new_of (by simp) rfl).alloc _)
  have kj : Blk W0 (w.heap.size + 2) 44 Tryz.zeroCells44 := by rw [hW0]; exact (Blk.new_of (by simp) rfl)
  have q0 : W0.cell? ⟨w.heap.size + 1, 0, none⟩ = some (.int .u64 (start : Int)) := ks.cell 0
  have q1 : W0.cell? ⟨w.heap.size + 1, 1, none⟩ = some (.int .u64 (count : Int)) := ks.cell 1
  rw [hW0] at q0 q1
  generalize bs key = kl at *
  generalize stCells start count tag = st at *
  have HW0 := Lib.hid hW0
  have H3 := Lib.hid h3
  have g1 : ¬ (first : Int) < 0 := by omega
  have g2 : ¬ (size : Int) < 1 := by omega
  have g3 : ¬ (places : Int) < (first : Int) := by omega
  have g4 : ¬ (places : Int) - (first : Int) < (size : Int) := by omega
  have hf2 : first ≤ 1048576 := by omega
  have hs2 : size ≤ 1048576 := by omega
  clear hW0 hk ht h3
  by_cases h1s : size ≤ start
  · have i1 : (size : Int) ≤ (start : Int) := by omega
    have d1 : decide ((size : Int) ≤ (start : Int)) = true := decide_eq_true i1
    go_enter Tryz.func9, Tryz.ntmps9
    go_wp2_with (first | ((with_reducible refine wpList_store_blk (o := ⟨none, .store 44 (.tmp 14) (.tmp 56), _, _, _, _⟩) rfl 44 (.tmp 14) (.tmp 56) rfl (w.heap.size + 2) Tryz.zeroCells44 rfl rfl 44 _ (by rw [← HW0.out]; exact kj) (by kernel_rfl) rfl (by kernel_rfl) ?_); intro w6 k6 g6 s6))
    refine bodyPost_ret (results_row_tmp (fr := (0, 0)) rfl _ _ (w.heap.size + 2) 44 _ _ rfl k6 Tryz.underlying44 rfl (by kernel_rfl)) rfl ?_
    rw [← HW0.out] at g6
    exact ⟨rfl, y0.grown g6 y0.size (fun k e => by injection e with e; omega)⟩
  · have i1 : ¬ (size : Int) ≤ (start : Int) := by omega
    have d1 : decide ((size : Int) ≤ (start : Int)) = false := decide_eq_false i1
    have hc : size < count := H3.out.resolve_left h1s
    have i2 : (size : Int) < (count : Int) := by omega
    have d2 : decide ((size : Int) < (count : Int)) = true := decide_eq_true i2
    go_enter Tryz.func9, Tryz.ntmps9
    go_wp2_with (first | ((with_reducible refine wpList_store_blk (o := ⟨none, .store 44 (.tmp 14) (.tmp 56), _, _, _, _⟩) rfl 44 (.tmp 14) (.tmp 56) rfl (w.heap.size + 2) Tryz.zeroCells44 rfl rfl 44 _ (by rw [← HW0.out]; exact kj) (by kernel_rfl) rfl (by kernel_rfl) ?_); intro w6 k6 g6 s6))
    refine bodyPost_ret (results_row_tmp (fr := (0, 0)) rfl _ _ (w.heap.size + 2) 44 _ _ rfl k6 Tryz.underlying44 rfl (by kernel_rfl)) rfl ?_
    rw [← HW0.out] at g6
    exact ⟨rfl, y0.grown g6 y0.size (fun k e => by injection e with e; omega)⟩
set_option maxRecDepth 100000 in
set_option maxHeartbeats 4000000 in
theorem rload_bad (n nd cd nw cw no co : Nat) (Ad Aw Ao : Option Addr) (left : Int) (down : Bool) (first size start count : Nat) (key stag : List UInt8) (w : World) (hk : key.length = 32) (ht : stag.length = 32) (h1 : 1 ≤ size) (h2 : first + size ≤ n) (hp : n ≤ 1048576) (h3 : size ≤ start ∨ size < count) :
    Calls Tryz.prog 18 #[.agg #[.int .i64 (n : Int), .slice Ad nd cd, .slice Aw nw cw, .int .i64 left, .bool down, .slice Ao no co], .agg (bs key).toArray, .int .i64 (first : Int), .int .i64 (size : Int), .agg (stCells start count stag).toArray] w fun e w' => e = .returned (.tuple #[.agg #[.int .i64 (n : Int), .slice Ad nd cd, .slice Aw nw cw, .int .i64 left, .bool down, .slice Ao no co], .slice none 0 0, .int .i64 1]) ∧ Below w.heap.size w w' := by
  obtain ⟨W0, hW0⟩ : ∃ W0 : World, W0 = ((((w.alloc (.cells #[.int .i64 (n : Int), .slice Ad nd cd, .slice Aw nw cw, .int .i64 left, .bool down, .slice Ao no co] 33)).alloc (.cells (bs key).toArray 23)).alloc (.cells (stCells start count stag).toArray 42)).alloc (.cells #[.int .i64 0, .slice none 0 0, .slice none 0 0, .int .i64 0, .bool false, .slice none 0 0] 33)) := ⟨_, rfl⟩
  have y0 : Below w.heap.size w W0 := by rw [hW0]; exact (((((Below.refl _ _).alloc (Nat.le_refl _) _).alloc (by simp) _).alloc (by simp; omega) _).alloc (by simp; omega) _)
  have s0 : W0.heap.size = w.heap.size + 4 := by rw [hW0]; simp
  have kD0 : Blk W0 w.heap.size 33 #[.int .i64 (n : Int), .slice Ad nd cd, .slice Aw nw cw, .int .i64 left, .bool down, .slice Ao no co] := by rw [hW0]; exact ((((Blk.new_of rfl rfl).alloc _).alloc _).alloc _)
  have kk0 : Blk W0 (w.heap.size + 1) 23 (bs key).toArray := by rw [hW0]; exact (((Blk.new_of (by simp) rfl).alloc _).alloc _)
  have ks0 : Blk W0 (w.heap.size + 2) 42 (stCells start count stag).toArray := by rw [hW0]; exact ((Blk.new_of (by simp) rfl).alloc _)
  have kz0 : Blk W0 (w.heap.size + 3) 33 #[.int .i64 0, .slice none 0 0, .slice none 0 0, .int .i64 0, .bool false, .slice none 0 0] := by rw [hW0]; exact (Blk.new_of (by simp) rfl)
  have hnew : Calls Tryz.prog 9 #[.int .i64 (n : Int), .agg (bs key).toArray, .int .i64 (first : Int), .int .i64 (size : Int), .agg (stCells start count stag).toArray, .int .u64 1, .int .u64 1] W0 fun e w' => e = .returned (.tuple #[.agg Tryz.zeroCells44, .int .i64 1]) ∧ Below W0.heap.size W0 w' := rjnew_bad n first size start count 1 1 key stag W0 hk ht h1 h2 hp h3
  have z1 : (bs key).toArray.size = 32 := by simp [bs_length, hk]
  have z2 : (stCells start count stag).toArray.size = 34 := by rw [List.size_toArray, stCells_length, ht]
  have HW0 := Lib.hid hW0
  have Z1 := Lib.hid z1
  have Z2 := Lib.hid z2
  clear hW0 z1 z2 hk ht h3
  go_enter Tryz.func18, Tryz.ntmps18
  go_wp2_with (first | ((with_reducible refine wpList_load_blk (o := ⟨some 33, _, _, _, _, _⟩) rfl 23 _ rfl (w.heap.size + 1) rfl 23 _ _ (by rw [← HW0.out]; exact kk0) Tryz.underlying23 rfl (by rw [Z1.out]; kernel_rfl) ?_)) | ((with_reducible refine wpList_load_blk (o := ⟨some 36, _, _, _, _, _⟩) rfl 42 _ rfl (w.heap.size + 2) rfl 42 _ _ (by rw [← HW0.out]; exact ks0) Tryz.underlying42 rfl (by rw [Z2.out]; kernel_rfl) ?_)) | (go_at_call 9; rw [← HW0.out]; (with_reducible refine hnew.mono ?_); rintro e w1 ⟨rfl, b1⟩; clear hnew) | ((with_reducible refine wpList_store_blk (o := ⟨none, .store 44 (.tmp 13) (.tmp 38), _, _, _, _⟩) rfl 44 (.tmp 13) (.tmp 38) rfl w1.heap.size Tryz.zeroCells44 rfl rfl 44 _ (Blk.new _ _ _) (by kernel_rfl) rfl (by kernel_rfl) ?_); intro w2 k2 g2 s2; have s1a : (w1.alloc (.cells Tryz.zeroCells44 44)).heap.size = w1.heap.size + 1 := size_alloc' _ _; have hb1 := b1.size; have y1 := y0.trans (b1.mono y0.size); have y2 : Below w.heap.size w w2 := (y1.alloc y1.size _).grown g2 (by rw [s1a]; omega) (fun k e => by injection e with e; omega); have kp2 : ∀ j, j < W0.heap.size → w2.heap[j]? = W0.heap[j]? := (fun j hj => (g2.block j (by rw [s1a]; omega) (fun e => by injection e with e; omega)).trans ((Below.heap_alloc _ _ j (by omega)).trans (b1.block j hj))); have kD2 : Blk w2 w.heap.size 33 #[.int .i64 (n : Int), .slice Ad nd cd, .slice Aw nw cw, .int .i64 left, .bool down, .slice Ao no co] := (kp2 _ (by omega)).trans kD0; have kz2 : Blk w2 (w.heap.size + 3) 33 #[.int .i64 0, .slice none 0 0, .slice none 0 0, .int .i64 0, .bool false, .slice none 0 0] := (kp2 _ (by omega)).trans kz0) | ((with_reducible refine wpList_load_blk (o := ⟨some 42, _, _, _, _, _⟩) rfl 33 _ rfl w.heap.size rfl 33 _ _ kD2 Tryz.underlying33 rfl (by kernel_rfl) ?_)) | ((with_reducible refine wpList_store_blk (o := ⟨none, .store 33 (.tmp 10) (.tmp 42), _, _, _, _⟩) rfl 33 (.tmp 10) (.tmp 42) rfl (w.heap.size + 3) #[.int .i64 (n : Int), .slice Ad nd cd, .slice Aw nw cw, .int .i64 left, .bool down, .slice Ao no co] rfl rfl 33 _ kz2 (by kernel_rfl) (by simp) (by simp [Value.oneCell']) ?_); intro w8 k8 g8 s8))
  refine bodyPost_ret (results_row_tmp2 (fr := (0, 0)) rfl _ _ (w.heap.size + 3) 33 _ _ rfl k8 Tryz.underlying33 rfl (by kernel_rfl)) rfl ?_
  exact ⟨rfl, y2.grown g8 y2.size (fun k e => by injection e with e; omega)⟩
set_option maxRecDepth 100000 in
set_option maxHeartbeats 4000000 in
theorem rj_limit (J : Jr) (start count lim : Nat) (tag : List UInt8) (hk : J.key.length = 32) (ht2 : tag.length = 32) :
    (rjHead J ++ (stCells start count tag ++ [Value.int .u64 (J.next : Int), .int .u64 (J.limit : Int)])).toArray.setIfInBounds 69 (.int .u64 (lim : Int)) = (rjCells { J with start := start, count := count, tag := tag, limit := lim }).toArray := by
  unfold rjCells
  rw [List.setIfInBounds_toArray, List.set_append_right _ _ (by rw [rjHead_length _ hk]; omega), rjHead_length _ hk, List.set_append_right _ _ (by rw [stCells_length, ht2]; omega), stCells_length, ht2]
  rfl
set_option maxRecDepth 100000 in
set_option maxHeartbeats 4000000 in
theorem radopt_any (J : Jr) (start count lim : Nat) (tag : List UInt8) (w : World) (hk : J.key.length = 32) (ht : J.tag.length = 32) (ht2 : tag.length = 32) (h1 : start < J.size) (h2 : count ≤ J.size) (h3 : lim ≤ 9223372036854775807) :
    Calls Tryz.prog 22 #[.agg (rjCells J).toArray, .agg (stCells start count tag).toArray, .int .u64 (lim : Int)] w fun e w' => e = .returned (.agg (rjCells { J with start := start, count := count, tag := tag, limit := lim }).toArray) ∧ Below w.heap.size w w' := by
  obtain ⟨W0, hW0⟩ : ∃ W0 : World, W0 = (((w.alloc (.cells (rjCells J).toArray 44)).alloc (.cells (stCells start count tag).toArray 42)).alloc (.cells Tryz.zeroCells44 44)) := ⟨_, rfl⟩
  have y0 : Below w.heap.size w W0 := by rw [hW0]; exact ((((Below.refl _ _).alloc (Nat.le_refl _) _).alloc (by simp) _).alloc (by simp; omega) _)
  have s0 : W0.heap.size = w.heap.size + 3 := by rw [hW0]; simp
  have kJ : Blk W0 w.heap.size 44 (rjCells J).toArray := by rw [hW0]; exact (((Blk.new_of rfl rfl).alloc _).alloc _)
  have kS : Blk W0 (w.heap.size + 1) 42 (stCells start count tag).toArray := by rw [hW0]; exact ((Blk.new_of (by simp) rfl).alloc _)
  have kz : Blk W0 (w.heap.size + 2) 44 Tryz.zeroCells44 := by rw [hW0]; exact (Blk.new_of (by simp) rfl)
  have J0 : RJAt W0 w.heap.size J := ⟨kJ, hk, ht⟩
  have c33 := J0.c33
  have q0 : W0.cell? ⟨w.heap.size + 1, 0, none⟩ = some (.int .u64 (start : Int)) := kS.cell 0
  have q1 : W0.cell? ⟨w.heap.size + 1, 1, none⟩ = some (.int .u64 (count : Int)) := kS.cell 1
  have hsl := stCells_length start count tag
  rw [ht2] at hsl
  have hso := stCells_one start count tag
  have hsi : (Tryz.prog.info? 42).map (·.size) = some (stCells start count tag).toArray.size := by rw [List.size_toArray, hsl]; kernel_rfl
  have hhl := rjHead_length J hk
  have hth : W0.there w.heap.size 34 (stCells start count tag).toArray.size := fun j hj => by
    rw [List.size_toArray, hsl] at hj
    refine ⟨?_, kJ.frozen _⟩
    rw [kJ.cell, Array.getElem?_eq_getElem (by rw [List.size_toArray, rjCells_length J hk ht]; omega)]
    rfl
  obtain ⟨W1, hW1⟩ : ∃ W1 : World, W1 = W0.setCells w.heap.size 34 (stCells start count tag) := ⟨_, rfl⟩
  have g1 : W0.grownBy W1 (some w.heap.size) := by rw [hW1]; exact grownBy_setCells _ _ _ (World.grownBy.refl _ _)
  have kJ1 : Blk W1 w.heap.size 44 (rjHead J ++ (stCells start count tag ++ [Value.int .u64 (J.next : Int), .int .u64 (J.limit : Int)])).toArray := by
    have h := Blk.put (t := 44) (stCells start count tag) (rjHead J) (stCells J.start J.count J.tag) [Value.int .u64 (J.next : Int), .int .u64 (J.limit : Int)] W0 (by rw [stCells_length, stCells_length, ht, ht2]) kJ
    rw [hhl] at h
    rw [hW1]
    exact h
  have kz1 : Blk W1 (w.heap.size + 2) 44 Tryz.zeroCells44 := (g1.block _ (by omega) (fun e => by injection e with e; omega)).trans kz
  have y1 : Below w.heap.size w W1 := y0.grown g1 y0.size (fun k e => by injection e with e; omega)
  have c69 : W1.cell? ⟨w.heap.size, 69, none⟩ = some (.int .u64 (J.limit : Int)) := (kJ1.cell 69).trans (by
    rw [List.getElem?_toArray, List.getElem?_append_right (by rw [hhl]; omega), hhl, List.getElem?_append_right (by rw [hsl]; decide), hsl]; rfl)
  have f69 := kJ1.frozen 69
  have kL := kJ1.set_ 69 (.int .u64 (lim : Int))
  rw [rj_limit J start count lim tag hk ht2] at kL
  have kzL := kz1.far (p := ⟨w.heap.size, 69, none⟩) (by show w.heap.size + 2 ≠ w.heap.size; omega) (.int .u64 (lim : Int))
  have yL := y1.setCell (p := ⟨w.heap.size, 69, none⟩) (Nat.le_refl _) (.int .u64 (lim : Int))
  have hjl := rjCells_length { J with start := start, count := count, tag := tag, limit := lim } hk ht2
  have hjo := rjCells_one { J with start := start, count := count, tag := tag, limit := lim }
  have hji : (Tryz.prog.info? 44).map (·.size) = some (rjCells { J with start := start, count := count, tag := tag, limit := lim }).toArray.size := by rw [List.size_toArray, hjl]; kernel_rfl
  have hjz : Tryz.zeroCells44.size = (rjCells { J with start := start, count := count, tag := tag, limit := lim }).toArray.size := by rw [show (rjCells { J with start := start, count := count, tag := tag, limit := lim }).toArray.size = 70 by rw [List.size_toArray, hjl]]; kernel_rfl
  generalize rjCells { J with start := start, count := count, tag := tag, limit := lim } = jc at *
  have i1 : ¬ (J.size : Int) ≤ (start : Int) := by omega
  have i2 : ¬ (J.size : Int) < (count : Int) := by omega
  have i3 : ¬ 9223372036854775807 < (lim : Int) := by omega
  rw [hW0] at c33 q0 q1
  have HW0 := Lib.hid hW0
  have HW1 := Lib.hid hW1
  have HSI := Lib.hid hsi
  have HSO := Lib.hid hso
  have HJI := Lib.hid hji
  have HJO := Lib.hid hjo
  have HJZ := Lib.hid hjz
  have HTH := Lib.hid hth
  generalize rjCells J = j0 at *
  generalize stCells start count tag = st at *
  clear hW0 hW1 hsi hso hji hjo hjz hth kJ1 hjl
  go_enter Tryz.func22, Tryz.ntmps22
  go_wp2_with (first | ((with_reducible refine wpList_load_blk (o := ⟨some 20, _, _, _, _, _⟩) rfl 42 _ rfl (w.heap.size + 1) rfl 42 _ _ (by rw [← HW0.out]; exact kS) Tryz.underlying42 rfl HSI.out ?_)) | (with_reducible refine wpList_store_mid (op := ⟨none, .store 42 (.tmp 21) (.tmp 20), _, _, _, _⟩) rfl 42 (.tmp 21) (.tmp 20) rfl w.heap.size 34 st.toArray rfl rfl (by rw [← HW0.out]; exact HTH.out) HSI.out HSO.out ?_; rw [← HW0.out, ← HW1.out]) | ((with_reducible refine wpList_load_blk (o := ⟨some 27, _, _, _, _, _⟩) rfl 44 _ rfl w.heap.size rfl 44 _ _ kL Tryz.underlying44 rfl HJI.out ?_)) | ((with_reducible refine wpList_store_blk (o := ⟨none, .store 44 (.tmp 6) (.tmp 27), _, _, _, _⟩) rfl 44 (.tmp 6) (.tmp 27) rfl (w.heap.size + 2) jc.toArray rfl rfl 44 _ kzL HJI.out HJZ.out HJO.out ?_); intro w6 k6 g6 s6))
  refine ret_cell 6 44 rfl rfl (w.heap.size + 2) 44 _ _ rfl k6 Tryz.underlying44 rfl (by rw [HJI.out]) ⟨rfl, yL.grown g6 yL.size (fun k e => by injection e with e; omega)⟩
set_option maxRecDepth 100000 in
set_option maxHeartbeats 4000000 in
theorem rof_none (A : Option Addr) (c : Nat) (w : World) : Calls Tryz.prog 38 #[.slice A 0 c] w fun e w' => e = .returned (.tuple #[.slice none 0 0, .int .i64 1]) ∧ Below w.heap.size w w' := by
  go_enter Tryz.func38, Tryz.ntmps38
  go_wp2
  go_ret2
  exact ⟨rfl, Below.refl _ _⟩
set_option maxRecDepth 100000 in
set_option maxHeartbeats 4000000 in
theorem rappend_none (n nd cd nw cw no co : Nat) (Ad Aw Ao : Option Addr) (J : Jr) (A : Option Addr) (ca : Nat) (w : World) (hk : J.key.length = 32) (ht : J.tag.length = 32) :
    Calls Tryz.prog 12 #[.agg #[.int .i64 (n : Int), .slice Ad nd cd, .slice Aw nw cw, .int .i64 (-1), .bool false, .slice Ao no co], .agg (rjCells J).toArray, .slice A 0 ca] w fun e w' => e = .returned (.tuple #[.agg #[.int .i64 (n : Int), .slice Ad nd cd, .slice Aw nw cw, .int .i64 (-1), .bool false, .slice Ao no co], .agg (rjCells J).toArray, .agg st0.toArray, .int .i64 1]) ∧ Below w.heap.size w w' := by
  obtain ⟨W0, hW0⟩ : ∃ W0 : World, W0 = (((((w.alloc (.cells #[.int .i64 (n : Int), .slice Ad nd cd, .slice Aw nw cw, .int .i64 (-1), .bool false, .slice Ao no co] 33)).alloc (.cells (rjCells J).toArray 44)).alloc (.cells #[.int .i64 0, .slice none 0 0, .slice none 0 0, .int .i64 0, .bool false, .slice none 0 0] 33)).alloc (.cells Tryz.zeroCells44 44)).alloc (.cells st0.toArray 42)) := ⟨_, rfl⟩
  have y0 : Below w.heap.size w W0 := by rw [hW0]; exact ((((((Below.refl _ _).alloc (Nat.le_refl _) _).alloc (by simp) _).alloc (by simp; omega) _).alloc (by simp; omega) _).alloc (by simp; omega) _)
  have s0 : W0.heap.size = w.heap.size + 5 := by rw [hW0]; simp
  have kD0 : Blk W0 w.heap.size 33 #[.int .i64 (n : Int), .slice Ad nd cd, .slice Aw nw cw, .int .i64 (-1), .bool false, .slice Ao no co] := by rw [hW0]; exact (((((Blk.new_of rfl rfl).alloc _).alloc _).alloc _).alloc _)
  have kJ0 : Blk W0 (w.heap.size + 1) 44 (rjCells J).toArray := by rw [hW0]; exact ((((Blk.new_of (by simp) rfl).alloc _).alloc _).alloc _)
  have kx0 : Blk W0 (w.heap.size + 2) 33 #[.int .i64 0, .slice none 0 0, .slice none 0 0, .int .i64 0, .bool false, .slice none 0 0] := by rw [hW0]; exact (((Blk.new_of (by simp) rfl).alloc _).alloc _)
  have ky0 : Blk W0 (w.heap.size + 3) 44 Tryz.zeroCells44 := by rw [hW0]; exact ((Blk.new_of (by simp) rfl).alloc _)
  have kz0 : Blk W0 (w.heap.size + 4) 42 st0.toArray := by rw [hW0]; exact (Blk.new_of (by simp) rfl)
  have hjl := rjCells_length J hk ht
  have hjo := rjCells_one J
  have hji : (Tryz.prog.info? 44).map (·.size) = some (rjCells J).toArray.size := by rw [List.size_toArray, hjl]; kernel_rfl
  have hjz : (Tryz.zeroCells44).toList.length = (rjCells J).length := by rw [hjl]; kernel_rfl
  have J0 : RJAt W0 (w.heap.size + 1) J := ⟨kJ0, hk, ht⟩
  have hof := rof_none A ca W0
  rw [hW0] at hof
  have HW0 := Lib.hid hW0
  have HJO := Lib.hid hjo
  have HJI := Lib.hid hji
  have HJZ := Lib.hid hjz
  have HJL := Lib.hid hjl
  clear hW0 hjl hjo hji hjz
  have uD := Tryz.underlying33
  have uJ := Tryz.underlying44
  have uS := Tryz.underlying42
  have HU := Lib.hid (And.intro uD (And.intro uJ uS))
  clear uD uJ uS
  go_enter Tryz.func12, Tryz.ntmps12
  go_wp2_with (first | (go_at_call 38; refine hof.mono ?_; rintro e w1 ⟨rfl, b1⟩; rw [← HW0.out] at b1))
  obtain ⟨uD, uJ, uS⟩ := HU.out
  generalize hjc : rjCells J = jl at *
  obtain ⟨dl, hdl⟩ : ∃ dl : List Value, dl = [.int .i64 (n : Int), .slice Ad nd cd, .slice Aw nw cw, .int .i64 (-1), .bool false, .slice Ao no co] := ⟨_, rfl⟩
  have dl1 : dl.length = 6 := by rw [hdl]; rfl
  have do1 : ∀ v ∈ dl, v.oneCell' = true := by
    rw [hdl]
    intro v hv
    simp only [List.mem_cons, List.not_mem_nil, or_false] at hv
    rcases hv with rfl | rfl | rfl | rfl | rfl | rfl <;> rfl
  have hso : st0.toArray.all (·.oneCell') = true := by kernel_rfl
  have kD0' : Blk W0 w.heap.size 33 dl.toArray := by rw [hdl]; exact kD0
  have iD : (Tryz.prog.info? 33).map (·.size) = some dl.length := by rw [dl1]; kernel_rfl
  have iJ : (Tryz.prog.info? 44).map (·.size) = some jl.length := HJI.out
  have iS : (Tryz.prog.info? 42).map (·.size) = some st0.length := by kernel_rfl
  have hb1 := b1.size
  have y1 : Below w.heap.size w w1 := y0.trans (b1.mono y0.size)
  obtain ⟨u0, hu0⟩ : ∃ u0 : World, u0 = w1.drew := ⟨_, rfl⟩
  have e0 : ∀ j : Nat, j < W0.heap.size → u0.heap[j]? = W0.heap[j]? := fun j hj => by rw [hu0]; exact b1.block j hj
  have yu : Below w.heap.size w u0 := by rw [hu0]; exact y1.drew
  have hs1 : W0.heap.size ≤ u0.heap.size := by rw [hu0]; exact hb1
  have a0D : Blk u0 w.heap.size 33 dl.toArray := (e0 _ (by omega)).trans kD0'
  have a0J : Blk u0 (w.heap.size + 1) 44 jl.toArray := (e0 _ (by omega)).trans kJ0
  have a0x : Blk u0 (w.heap.size + 2) 33 ([.int .i64 0, .slice none 0 0, .slice none 0 0, .int .i64 0, .bool false, .slice none 0 0] : List Value).toArray := (e0 _ (by omega)).trans kx0
  have a0y : Blk u0 (w.heap.size + 3) 44 (Tryz.zeroCells44).toList.toArray := by rw [Array.toArray_toList]; exact (e0 _ (by omega)).trans ky0
  have a0z : Blk u0 (w.heap.size + 4) 42 st0.toArray := (e0 _ (by omega)).trans kz0
  have g1 : u0.grownBy (u0.setCells (w.heap.size + 2) 0 dl) (some (w.heap.size + 2)) := grownBy_setCells _ _ _ (World.grownBy.refl _ _)
  have p1 : Blk (u0.setCells (w.heap.size + 2) 0 dl) (w.heap.size + 2) 33 dl.toArray := by
    have h := Blk.put (t := 33) dl [] ([.int .i64 0, .slice none 0 0, .slice none 0 0, .int .i64 0, .bool false, .slice none 0 0] : List Value) [] u0 (by rw [dl1]; rfl) (by simpa using a0x)
    simpa using h
  obtain ⟨u1, hu1⟩ : ∃ u1 : World, u1 = u0.setCells (w.heap.size + 2) 0 dl := ⟨_, rfl⟩
  rw [← hu1] at g1 p1
  have e1 : ∀ j : Nat, j < u0.heap.size → j ≠ w.heap.size + 2 → u1.heap[j]? = u0.heap[j]? := fun j hj hne => g1.block j hj (fun e => by injection e with e; omega)
  have a1D : Blk u1 w.heap.size 33 dl.toArray := (e1 _ a0D.lt (by omega)).trans a0D
  have a1J : Blk u1 (w.heap.size + 1) 44 jl.toArray := (e1 _ a0J.lt (by omega)).trans a0J
  have a1y : Blk u1 (w.heap.size + 3) 44 (Tryz.zeroCells44).toList.toArray := (e1 _ a0y.lt (by omega)).trans a0y
  have a1z : Blk u1 (w.heap.size + 4) 42 st0.toArray := (e1 _ a0z.lt (by omega)).trans a0z
  have g2 : u1.grownBy (u1.setCells (w.heap.size + 3) 0 jl) (some (w.heap.size + 3)) := grownBy_setCells _ _ _ (World.grownBy.refl _ _)
  have p2 : Blk (u1.setCells (w.heap.size + 3) 0 jl) (w.heap.size + 3) 44 jl.toArray := by
    have h := Blk.put (t := 44) jl [] (Tryz.zeroCells44).toList [] u1 HJZ.out (by rw [List.append_nil]; exact a1y)
    rw [List.append_nil] at h
    exact h
  obtain ⟨u2, hu2⟩ : ∃ u2 : World, u2 = u1.setCells (w.heap.size + 3) 0 jl := ⟨_, rfl⟩
  rw [← hu2] at g2 p2
  have e2 : ∀ j : Nat, j < u1.heap.size → j ≠ w.heap.size + 3 → u2.heap[j]? = u1.heap[j]? := fun j hj hne => g2.block j hj (fun e => by injection e with e; omega)
  have a2D : Blk u2 w.heap.size 33 dl.toArray := (e2 _ a1D.lt (by omega)).trans a1D
  have a2J : Blk u2 (w.heap.size + 1) 44 jl.toArray := (e2 _ a1J.lt (by omega)).trans a1J
  have a2x : Blk u2 (w.heap.size + 2) 33 dl.toArray := (e2 _ p1.lt (by omega)).trans p1
  have a2z : Blk u2 (w.heap.size + 4) 42 st0.toArray := (e2 _ a1z.lt (by omega)).trans a1z
  have g3 : u2.grownBy (u2.setCells (w.heap.size + 4) 0 st0) (some (w.heap.size + 4)) := grownBy_setCells _ _ _ (World.grownBy.refl _ _)
  have p3 : Blk (u2.setCells (w.heap.size + 4) 0 st0) (w.heap.size + 4) 42 st0.toArray := by
    have h := Blk.put (t := 42) st0 [] st0 [] u2 rfl (by rw [List.append_nil]; exact a2z)
    rw [List.append_nil] at h
    exact h
  obtain ⟨u3, hu3⟩ : ∃ u3 : World, u3 = u2.setCells (w.heap.size + 4) 0 st0 := ⟨_, rfl⟩
  rw [← hu3] at g3 p3
  have e3 : ∀ j : Nat, j < u2.heap.size → j ≠ w.heap.size + 4 → u3.heap[j]? = u2.heap[j]? := fun j hj hne => g3.block j hj (fun e => by injection e with e; omega)
  have a3D : Blk u3 w.heap.size 33 dl.toArray := (e3 _ a2D.lt (by omega)).trans a2D
  have a3J : Blk u3 (w.heap.size + 1) 44 jl.toArray := (e3 _ a2J.lt (by omega)).trans a2J
  have a3x : Blk u3 (w.heap.size + 2) 33 dl.toArray := (e3 _ a2x.lt (by omega)).trans a2x
  have a3y : Blk u3 (w.heap.size + 3) 44 jl.toArray := (e3 _ p2.lt (by omega)).trans p2
  have yF : Below w.heap.size w u3 := ((yu.grown g1 yu.size (fun k e => by injection e with e; omega)).grown g2 (Nat.le_trans yu.size g1.size) (fun k e => by injection e with e; omega)).grown g3 (Nat.le_trans (Nat.le_trans yu.size g1.size) g2.size) (fun k e => by injection e with e; omega)
  have th1 : u0.there (w.heap.size + 2) 0 dl.length := a0x.there (by rw [dl1]; exact Nat.le_refl _)
  have th2 : u1.there (w.heap.size + 3) 0 jl.length := a1y.there (by rw [List.size_toArray, HJZ.out]; exact Nat.le_refl _)
  have th3 : u2.there (w.heap.size + 4) 0 st0.length := a2z.there (by exact Nat.le_refl _)
  have S0 : u0.rangeAt w.heap.size 0 dl ∧ u0.rangeAt (w.heap.size + 1) 0 jl := ⟨Blk.range a0D, Blk.range a0J⟩
  have S1 : u1.rangeAt w.heap.size 0 dl ∧ u1.rangeAt (w.heap.size + 1) 0 jl := ⟨Blk.range a1D, Blk.range a1J⟩
  have S2 : u2.rangeAt w.heap.size 0 dl ∧ u2.rangeAt (w.heap.size + 1) 0 jl := ⟨Blk.range a2D, Blk.range a2J⟩
  have S3 : u3.rangeAt w.heap.size 0 dl ∧ u3.rangeAt (w.heap.size + 1) 0 jl := ⟨Blk.range a3D, Blk.range a3J⟩
  have hu1' : u1 = u0.setCells (w.heap.size + 1 + 1) 0 dl := hu1
  have hu2' : u2 = u1.setCells (w.heap.size + 1 + 1 + 1) 0 jl := hu2
  have hu3' : u3 = u2.setCells (w.heap.size + 1 + 1 + 1 + 1) 0 st0 := hu3
  clear a0x a0y a0z a1y a1z a2D a2J a2x a2z g1 g2 g3 e1 e2 e3 p1 p2 e0
  refine wp_region_held_drew (S := fun w' => w'.rangeAt w.heap.size 0 dl ∧ w'.rangeAt (w.heap.size + 1) 0 jl) (by kernel_rfl) (by rw [← hu0]; exact S0) (fun _ => ?_)
  rw [← hu0]
  refine wpAnyH_take (i := 0) (oi := ⟨some 27, _, _, _, _, _⟩) (v := .agg dl.toArray) rfl (by kernel_rfl) (by kernel_rfl) (by kernel_rfl) (fun _ _ _ h => h) (yieldsIf_load_mid (by rfl) 33 _ rfl w.heap.size 0 (by rfl) dl _ (fun W h => h.1) uD rfl iD) S0 ?_
  simp only [Act.put, List.setIfInBounds_toArray, List.set_cons_zero, List.set_cons_succ]
  refine wpAnyH_take (i := 1) (oi := ⟨some 28, _, _, _, _, _⟩) (v := .agg jl.toArray) rfl (by kernel_rfl) (by kernel_rfl) (by kernel_rfl) (fun _ _ _ h => h) (yieldsIf_load_mid (by rfl) 44 _ rfl (w.heap.size + 1) 0 (by rfl) jl _ (fun W h => h.2) uJ rfl iJ) S0 ?_
  simp only [Act.put, List.setIfInBounds_toArray, List.set_cons_zero, List.set_cons_succ]
  refine wpAnyH_take (i := 2) (oi := ⟨some 29, _, _, _, _, _⟩) (v := .agg st0.toArray) rfl (by kernel_rfl) (by kernel_rfl) (by kernel_rfl) (fun _ _ _ h => h) (Or.inl ⟨by rfl, by intro W hS; go_simp; rfl⟩) S0 ?_
  simp only [Act.put, List.setIfInBounds_toArray, List.set_cons_zero, List.set_cons_succ]
  refine wpAnyH_take (i := 3) (oi := ⟨some 30, _, _, _, _, _⟩) (v := .int .i64 1) rfl (by kernel_rfl) (by kernel_rfl) (by kernel_rfl) (fun _ _ _ h => h) (Or.inl ⟨by rfl, by intro W hS; go_simp⟩) S0 ?_
  simp only [Act.put, List.setIfInBounds_toArray, List.set_cons_zero, List.set_cons_succ]
  refine wpAnyH_ready (rs := [4]) (by kernel_rfl) (by simp) ?_
  refine AllReadyH.cons (o := ⟨none, .store 33 (.tmp 6) (.tmp 27), _, _, _, _⟩) rfl (fun K' hK => ?_) AllReadyH.nil
  rw [if_pos (by rfl)]
  refine wp_store_mid _ _ _ rfl _ _ (List.toArray _) rfl rfl ?_ ?_ (all_oneCell_toArray do1) ?_
  · simpa using th1
  · rw [List.size_toArray]; exact iD
  simp only [Act.put]
  refine hK.out _ _ (by rw [← hu1']; exact S1) (fun _ => ?_)
  clear hK
  rw [← hu1']
  refine wpAnyH_ready (rs := [5]) (by kernel_rfl) (by simp) ?_
  refine AllReadyH.cons (o := ⟨none, .store 44 (.tmp 7) (.tmp 28), _, _, _, _⟩) rfl (fun K' hK => ?_) AllReadyH.nil
  rw [if_pos (by rfl)]
  refine wp_store_mid _ _ _ rfl _ _ (List.toArray _) rfl rfl ?_ ?_ HJO.out ?_
  · simpa using th2
  · rw [List.size_toArray]; exact iJ
  simp only [Act.put]
  refine hK.out _ _ (by rw [← hu2']; exact S2) (fun _ => ?_)
  clear hK
  rw [← hu2']
  refine wpAnyH_ready (rs := [6]) (by kernel_rfl) (by simp) ?_
  refine AllReadyH.cons (o := ⟨none, .store 42 (.tmp 8) (.tmp 29), _, _, _, _⟩) rfl (fun K' hK => ?_) AllReadyH.nil
  rw [if_pos (by rfl)]
  refine wp_store_mid _ _ _ rfl _ _ (List.toArray _) rfl rfl ?_ ?_ hso ?_
  · simpa using th3
  · rw [List.size_toArray]; exact iS
  simp only [Act.put]
  refine hK.out _ _ (by rw [← hu3']; exact S3) (fun _ => ?_)
  clear hK
  rw [← hu3']
  refine wpAnyH_take (i := 7) (oi := ⟨some 9, _, _, _, _, _⟩) (v := .int .i64 1) rfl (by kernel_rfl) (by kernel_rfl) (by kernel_rfl) (fun _ _ _ h => h) (Or.inl ⟨by rfl, by intro W hS; go_simp⟩) S3 ?_
  simp only [Act.put, List.setIfInBounds_toArray, List.set_cons_zero, List.set_cons_succ]
  refine wpAnyH_done (by kernel_rfl) ?_ _
  go_wp2
  refine bodyPost_ret (results_row4 rfl _ _ (w.heap.size + 2) (w.heap.size + 3) (w.heap.size + 4) 33 44 42 _ _ _ _ _ _ rfl rfl rfl a3x a3y p3 uD uJ uS rfl rfl rfl (by rw [List.size_toArray]; exact iD) (by rw [List.size_toArray]; exact iJ) (by rw [List.size_toArray]; exact iS)) rfl ?_
  exact ⟨by rw [hdl]; subst hjc; rfl, yF⟩
set_option maxRecDepth 100000 in
set_option maxHeartbeats 4000000 in
theorem rappend_full (n nd cd nw cw no co : Nat) (Ad Aw Ao : Option Addr) (J : Jr) (A : Option Addr) (ca : Nat) (l : List Img) (w : World) (hk : J.key.length = 32) (ht : J.tag.length = 32) (hI : w.ownsRow 0 105 2 (.slice A l.length ca) l.length (encM l)) (h1l : 1 ≤ l.length) (hll : l.length ≤ 1048576) (h160 : ∀ p ∈ l, p.2.length = 160) (hsz : J.size ≤ 1048576) (hc : J.count ≤ J.size) (h4 : J.size < J.count + l.length) :
    Calls Tryz.prog 12 #[.agg #[.int .i64 (n : Int), .slice Ad nd cd, .slice Aw nw cw, .int .i64 (-1), .bool false, .slice Ao no co], .agg (rjCells J).toArray, .slice A l.length ca] w fun e w' => e = .returned (.tuple #[.agg #[.int .i64 (n : Int), .slice Ad nd cd, .slice Aw nw cw, .int .i64 (-1), .bool false, .slice Ao no co], .agg (rjCells J).toArray, .agg st0.toArray, .int .i64 17]) ∧ Below w.heap.size w w' := by
  obtain ⟨W0, hW0⟩ : ∃ W0 : World, W0 = (((((w.alloc (.cells #[.int .i64 (n : Int), .slice Ad nd cd, .slice Aw nw cw, .int .i64 (-1), .bool false, .slice Ao no co] 33)).alloc (.cells (rjCells J).toArray 44)).alloc (.cells #[.int .i64 0, .slice none 0 0, .slice none 0 0, .int .i64 0, .bool false, .slice none 0 0] 33)).alloc (.cells Tryz.zeroCells44 44)).alloc (.cells st0.toArray 42)) := ⟨_, rfl⟩
  have y0 : Below w.heap.size w W0 := by rw [hW0]; exact ((((((Below.refl _ _).alloc (Nat.le_refl _) _).alloc (by simp) _).alloc (by simp; omega) _).alloc (by simp; omega) _).alloc (by simp; omega) _)
  have s0 : W0.heap.size = w.heap.size + 5 := by rw [hW0]; simp
  have kD0 : Blk W0 w.heap.size 33 #[.int .i64 (n : Int), .slice Ad nd cd, .slice Aw nw cw, .int .i64 (-1), .bool false, .slice Ao no co] := by rw [hW0]; exact (((((Blk.new_of rfl rfl).alloc _).alloc _).alloc _).alloc _)
  have kJ0 : Blk W0 (w.heap.size + 1) 44 (rjCells J).toArray := by rw [hW0]; exact ((((Blk.new_of (by simp) rfl).alloc _).alloc _).alloc _)
  have kx0 : Blk W0 (w.heap.size + 2) 33 #[.int .i64 0, .slice none 0 0, .slice none 0 0, .int .i64 0, .bool false, .slice none 0 0] := by rw [hW0]; exact (((Blk.new_of (by simp) rfl).alloc _).alloc _)
  have ky0 : Blk W0 (w.heap.size + 3) 44 Tryz.zeroCells44 := by rw [hW0]; exact ((Blk.new_of (by simp) rfl).alloc _)
  have kz0 : Blk W0 (w.heap.size + 4) 42 st0.toArray := by rw [hW0]; exact (Blk.new_of (by simp) rfl)
  have hjl := rjCells_length J hk ht
  have hjo := rjCells_one J
  have hji : (Tryz.prog.info? 44).map (·.size) = some (rjCells J).toArray.size := by rw [List.size_toArray, hjl]; kernel_rfl
  have hjz : (Tryz.zeroCells44).toList.length = (rjCells J).length := by rw [hjl]; kernel_rfl
  have J0 : RJAt W0 (w.heap.size + 1) J := ⟨kJ0, hk, ht⟩
  have hof := rof_any A l.length ca l W0 (own_keep hI fun b e => y0.block b (World.ownsRow.lt hI b e).2) rfl h1l hll h160
  rw [hW0] at hof
  have d1 : (J.size : Int) - (J.count : Int) < (l.length : Int) := by omega
  have e3 : IntKind.u64.wrap ((J.size : Int) - (J.count : Int)) = (J.size : Int) - (J.count : Int) := wrapU64_le _ (by omega) (by omega)
  have e5 : IntKind.u64.wrap (l.length : Int) = (l.length : Int) := wrapU64_le _ (by omega) (by omega)
  have HW0 := Lib.hid hW0
  have HJO := Lib.hid hjo
  have HJI := Lib.hid hji
  have HJZ := Lib.hid hjz
  have HJL := Lib.hid hjl
  clear hW0 hjl hjo hji hjz
  have uD := Tryz.underlying33
  have uJ := Tryz.underlying44
  have uS := Tryz.underlying42
  have HU := Lib.hid (And.intro uD (And.intro uJ uS))
  clear uD uJ uS
  go_enter Tryz.func12, Tryz.ntmps12
  go_wp2_with (first | (go_at_call 38; refine hof.mono ?_; rintro e w1 ⟨A1, c1, rfl, o1, b1⟩; rw [← HW0.out] at b1; have J1 := J0.under b1; have c33 := J1.c33; have c35 := J1.c35))
  obtain ⟨uD, uJ, uS⟩ := HU.out
  generalize hjc : rjCells J = jl at *
  obtain ⟨dl, hdl⟩ : ∃ dl : List Value, dl = [.int .i64 (n : Int), .slice Ad nd cd, .slice Aw nw cw, .int .i64 (-1), .bool false, .slice Ao no co] := ⟨_, rfl⟩
  have dl1 : dl.length = 6 := by rw [hdl]; rfl
  have do1 : ∀ v ∈ dl, v.oneCell' = true := by
    rw [hdl]
    intro v hv
    simp only [List.mem_cons, List.not_mem_nil, or_false] at hv
    rcases hv with rfl | rfl | rfl | rfl | rfl | rfl <;> rfl
  have hso : st0.toArray.all (·.oneCell') = true := by kernel_rfl
  have kD0' : Blk W0 w.heap.size 33 dl.toArray := by rw [hdl]; exact kD0
  have iD : (Tryz.prog.info? 33).map (·.size) = some dl.length := by rw [dl1]; kernel_rfl
  have iJ : (Tryz.prog.info? 44).map (·.size) = some jl.length := HJI.out
  have iS : (Tryz.prog.info? 42).map (·.size) = some st0.length := by kernel_rfl
  have hb1 := b1.size
  have y1 : Below w.heap.size w w1 := y0.trans (b1.mono y0.size)
  obtain ⟨u0, hu0⟩ : ∃ u0 : World, u0 = w1.drew := ⟨_, rfl⟩
  have e0 : ∀ j : Nat, j < W0.heap.size → u0.heap[j]? = W0.heap[j]? := fun j hj => by rw [hu0]; exact b1.block j hj
  have yu : Below w.heap.size w u0 := by rw [hu0]; exact y1.drew
  have hs1 : W0.heap.size ≤ u0.heap.size := by rw [hu0]; exact hb1
  have a0D : Blk u0 w.heap.size 33 dl.toArray := (e0 _ (by omega)).trans kD0'
  have a0J : Blk u0 (w.heap.size + 1) 44 jl.toArray := (e0 _ (by omega)).trans kJ0
  have a0x : Blk u0 (w.heap.size + 2) 33 ([.int .i64 0, .slice none 0 0, .slice none 0 0, .int .i64 0, .bool false, .slice none 0 0] : List Value).toArray := (e0 _ (by omega)).trans kx0
  have a0y : Blk u0 (w.heap.size + 3) 44 (Tryz.zeroCells44).toList.toArray := by rw [Array.toArray_toList]; exact (e0 _ (by omega)).trans ky0
  have a0z : Blk u0 (w.heap.size + 4) 42 st0.toArray := (e0 _ (by omega)).trans kz0
  have g1 : u0.grownBy (u0.setCells (w.heap.size + 2) 0 dl) (some (w.heap.size + 2)) := grownBy_setCells _ _ _ (World.grownBy.refl _ _)
  have p1 : Blk (u0.setCells (w.heap.size + 2) 0 dl) (w.heap.size + 2) 33 dl.toArray := by
    have h := Blk.put (t := 33) dl [] ([.int .i64 0, .slice none 0 0, .slice none 0 0, .int .i64 0, .bool false, .slice none 0 0] : List Value) [] u0 (by rw [dl1]; rfl) (by simpa using a0x)
    simpa using h
  obtain ⟨u1, hu1⟩ : ∃ u1 : World, u1 = u0.setCells (w.heap.size + 2) 0 dl := ⟨_, rfl⟩
  rw [← hu1] at g1 p1
  have e1 : ∀ j : Nat, j < u0.heap.size → j ≠ w.heap.size + 2 → u1.heap[j]? = u0.heap[j]? := fun j hj hne => g1.block j hj (fun e => by injection e with e; omega)
  have a1D : Blk u1 w.heap.size 33 dl.toArray := (e1 _ a0D.lt (by omega)).trans a0D
  have a1J : Blk u1 (w.heap.size + 1) 44 jl.toArray := (e1 _ a0J.lt (by omega)).trans a0J
  have a1y : Blk u1 (w.heap.size + 3) 44 (Tryz.zeroCells44).toList.toArray := (e1 _ a0y.lt (by omega)).trans a0y
  have a1z : Blk u1 (w.heap.size + 4) 42 st0.toArray := (e1 _ a0z.lt (by omega)).trans a0z
  have g2 : u1.grownBy (u1.setCells (w.heap.size + 3) 0 jl) (some (w.heap.size + 3)) := grownBy_setCells _ _ _ (World.grownBy.refl _ _)
  have p2 : Blk (u1.setCells (w.heap.size + 3) 0 jl) (w.heap.size + 3) 44 jl.toArray := by
    have h := Blk.put (t := 44) jl [] (Tryz.zeroCells44).toList [] u1 HJZ.out (by rw [List.append_nil]; exact a1y)
    rw [List.append_nil] at h
    exact h
  obtain ⟨u2, hu2⟩ : ∃ u2 : World, u2 = u1.setCells (w.heap.size + 3) 0 jl := ⟨_, rfl⟩
  rw [← hu2] at g2 p2
  have e2 : ∀ j : Nat, j < u1.heap.size → j ≠ w.heap.size + 3 → u2.heap[j]? = u1.heap[j]? := fun j hj hne => g2.block j hj (fun e => by injection e with e; omega)
  have a2D : Blk u2 w.heap.size 33 dl.toArray := (e2 _ a1D.lt (by omega)).trans a1D
  have a2J : Blk u2 (w.heap.size + 1) 44 jl.toArray := (e2 _ a1J.lt (by omega)).trans a1J
  have a2x : Blk u2 (w.heap.size + 2) 33 dl.toArray := (e2 _ p1.lt (by omega)).trans p1
  have a2z : Blk u2 (w.heap.size + 4) 42 st0.toArray := (e2 _ a1z.lt (by omega)).trans a1z
  have g3 : u2.grownBy (u2.setCells (w.heap.size + 4) 0 st0) (some (w.heap.size + 4)) := grownBy_setCells _ _ _ (World.grownBy.refl _ _)
  have p3 : Blk (u2.setCells (w.heap.size + 4) 0 st0) (w.heap.size + 4) 42 st0.toArray := by
    have h := Blk.put (t := 42) st0 [] st0 [] u2 rfl (by rw [List.append_nil]; exact a2z)
    rw [List.append_nil] at h
    exact h
  obtain ⟨u3, hu3⟩ : ∃ u3 : World, u3 = u2.setCells (w.heap.size + 4) 0 st0 := ⟨_, rfl⟩
  rw [← hu3] at g3 p3
  have e3 : ∀ j : Nat, j < u2.heap.size → j ≠ w.heap.size + 4 → u3.heap[j]? = u2.heap[j]? := fun j hj hne => g3.block j hj (fun e => by injection e with e; omega)
  have a3D : Blk u3 w.heap.size 33 dl.toArray := (e3 _ a2D.lt (by omega)).trans a2D
  have a3J : Blk u3 (w.heap.size + 1) 44 jl.toArray := (e3 _ a2J.lt (by omega)).trans a2J
  have a3x : Blk u3 (w.heap.size + 2) 33 dl.toArray := (e3 _ a2x.lt (by omega)).trans a2x
  have a3y : Blk u3 (w.heap.size + 3) 44 jl.toArray := (e3 _ p2.lt (by omega)).trans p2
  have yF : Below w.heap.size w u3 := ((yu.grown g1 yu.size (fun k e => by injection e with e; omega)).grown g2 (Nat.le_trans yu.size g1.size) (fun k e => by injection e with e; omega)).grown g3 (Nat.le_trans (Nat.le_trans yu.size g1.size) g2.size) (fun k e => by injection e with e; omega)
  have th1 : u0.there (w.heap.size + 2) 0 dl.length := a0x.there (by rw [dl1]; exact Nat.le_refl _)
  have th2 : u1.there (w.heap.size + 3) 0 jl.length := a1y.there (by rw [List.size_toArray, HJZ.out]; exact Nat.le_refl _)
  have th3 : u2.there (w.heap.size + 4) 0 st0.length := a2z.there (by exact Nat.le_refl _)
  have S0 : u0.rangeAt w.heap.size 0 dl ∧ u0.rangeAt (w.heap.size + 1) 0 jl := ⟨Blk.range a0D, Blk.range a0J⟩
  have S1 : u1.rangeAt w.heap.size 0 dl ∧ u1.rangeAt (w.heap.size + 1) 0 jl := ⟨Blk.range a1D, Blk.range a1J⟩
  have S2 : u2.rangeAt w.heap.size 0 dl ∧ u2.rangeAt (w.heap.size + 1) 0 jl := ⟨Blk.range a2D, Blk.range a2J⟩
  have S3 : u3.rangeAt w.heap.size 0 dl ∧ u3.rangeAt (w.heap.size + 1) 0 jl := ⟨Blk.range a3D, Blk.range a3J⟩
  have hu1' : u1 = u0.setCells (w.heap.size + 1 + 1) 0 dl := hu1
  have hu2' : u2 = u1.setCells (w.heap.size + 1 + 1 + 1) 0 jl := hu2
  have hu3' : u3 = u2.setCells (w.heap.size + 1 + 1 + 1 + 1) 0 st0 := hu3
  clear a0x a0y a0z a1y a1z a2D a2J a2x a2z g1 g2 g3 e1 e2 e3 p1 p2 e0
  refine wp_region_held_drew (S := fun w' => w'.rangeAt w.heap.size 0 dl ∧ w'.rangeAt (w.heap.size + 1) 0 jl) (by kernel_rfl) (by rw [← hu0]; exact S0) (fun _ => ?_)
  rw [← hu0]
  refine wpAnyH_take (i := 0) (oi := ⟨some 42, _, _, _, _, _⟩) (v := .agg dl.toArray) rfl (by kernel_rfl) (by kernel_rfl) (by kernel_rfl) (fun _ _ _ h => h) (yieldsIf_load_mid (by rfl) 33 _ rfl w.heap.size 0 (by rfl) dl _ (fun W h => h.1) uD rfl iD) S0 ?_
  simp only [Act.put, List.setIfInBounds_toArray, List.set_cons_zero, List.set_cons_succ]
  refine wpAnyH_take (i := 1) (oi := ⟨some 43, _, _, _, _, _⟩) (v := .agg jl.toArray) rfl (by kernel_rfl) (by kernel_rfl) (by kernel_rfl) (fun _ _ _ h => h) (yieldsIf_load_mid (by rfl) 44 _ rfl (w.heap.size + 1) 0 (by rfl) jl _ (fun W h => h.2) uJ rfl iJ) S0 ?_
  simp only [Act.put, List.setIfInBounds_toArray, List.set_cons_zero, List.set_cons_succ]
  refine wpAnyH_take (i := 2) (oi := ⟨some 44, _, _, _, _, _⟩) (v := .agg st0.toArray) rfl (by kernel_rfl) (by kernel_rfl) (by kernel_rfl) (fun _ _ _ h => h) (Or.inl ⟨by rfl, by intro W hS; go_simp; rfl⟩) S0 ?_
  simp only [Act.put, List.setIfInBounds_toArray, List.set_cons_zero, List.set_cons_succ]
  refine wpAnyH_ready (rs := [3]) (by kernel_rfl) (by simp) ?_
  refine AllReadyH.cons (o := ⟨none, .store 33 (.tmp 6) (.tmp 42), _, _, _, _⟩) rfl (fun K' hK => ?_) AllReadyH.nil
  rw [if_pos (by rfl)]
  refine wp_store_mid _ _ _ rfl _ _ (List.toArray _) rfl rfl ?_ ?_ (all_oneCell_toArray do1) ?_
  · simpa using th1
  · rw [List.size_toArray]; exact iD
  simp only [Act.put]
  refine hK.out _ _ (by rw [← hu1']; exact S1) (fun _ => ?_)
  clear hK
  rw [← hu1']
  refine wpAnyH_ready (rs := [4]) (by kernel_rfl) (by simp) ?_
  refine AllReadyH.cons (o := ⟨none, .store 44 (.tmp 7) (.tmp 43), _, _, _, _⟩) rfl (fun K' hK => ?_) AllReadyH.nil
  rw [if_pos (by rfl)]
  refine wp_store_mid _ _ _ rfl _ _ (List.toArray _) rfl rfl ?_ ?_ HJO.out ?_
  · simpa using th2
  · rw [List.size_toArray]; exact iJ
  simp only [Act.put]
  refine hK.out _ _ (by rw [← hu2']; exact S2) (fun _ => ?_)
  clear hK
  rw [← hu2']
  refine wpAnyH_ready (rs := [5]) (by kernel_rfl) (by simp) ?_
  refine AllReadyH.cons (o := ⟨none, .store 42 (.tmp 8) (.tmp 44), _, _, _, _⟩) rfl (fun K' hK => ?_) AllReadyH.nil
  rw [if_pos (by rfl)]
  refine wp_store_mid _ _ _ rfl _ _ (List.toArray _) rfl rfl ?_ ?_ hso ?_
  · simpa using th3
  · rw [List.size_toArray]; exact iS
  simp only [Act.put]
  refine hK.out _ _ (by rw [← hu3']; exact S3) (fun _ => ?_)
  clear hK
  rw [← hu3']
  refine wpAnyH_take (i := 6) (oi := ⟨some 9, _, _, _, _, _⟩) (v := .int .i64 17) rfl (by kernel_rfl) (by kernel_rfl) (by kernel_rfl) (fun _ _ _ h => h) (Or.inl ⟨by rfl, by intro W hS; go_simp⟩) S3 ?_
  simp only [Act.put, List.setIfInBounds_toArray, List.set_cons_zero, List.set_cons_succ]
  refine wpAnyH_done (by kernel_rfl) ?_ _
  go_wp2
  refine bodyPost_ret (results_row4 rfl _ _ (w.heap.size + 2) (w.heap.size + 3) (w.heap.size + 4) 33 44 42 _ _ _ _ _ _ rfl rfl rfl a3x a3y p3 uD uJ uS rfl rfl rfl (by rw [List.size_toArray]; exact iD) (by rw [List.size_toArray]; exact iJ) (by rw [List.size_toArray]; exact iS)) rfl ?_
  exact ⟨by rw [hdl]; subst hjc; rfl, yF⟩
set_option maxRecDepth 100000 in
set_option maxHeartbeats 4000000 in
theorem rload_down (n nd cd nw cw no co : Nat) (Ad Aw Ao : Option Addr) (left : Int) (first size start count : Nat) (key stag : List UInt8) (w : World) (hk : key.length = 32) (ht : stag.length = 32) (h1 : 1 ≤ size) (h2 : first + size ≤ n) (hp : n ≤ 1048576) (h3 : start < size) (h4 : count ≤ size) (hc : 1 ≤ count) :
    Calls Tryz.prog 18 #[.agg #[.int .i64 (n : Int), .slice Ad nd cd, .slice Aw nw cw, .int .i64 left, .bool true, .slice Ao no co], .agg (bs key).toArray, .int .i64 (first : Int), .int .i64 (size : Int), .agg (stCells start count stag).toArray] w fun e w' => e = .returned (.tuple #[.agg #[.int .i64 (n : Int), .slice Ad nd cd, .slice Aw nw cw, .int .i64 left, .bool true, .slice Ao no co], .slice none 0 0, .int .i64 13]) ∧ Below w.heap.size w w' := by
  obtain ⟨W0, hW0⟩ : ∃ W0 : World, W0 = (((w.alloc (.cells #[.int .i64 (n : Int), .slice Ad nd cd, .slice Aw nw cw, .int .i64 left, .bool true, .slice Ao no co] 33)).alloc (.cells (bs key).toArray 23)).alloc (.cells (stCells start count stag).toArray 42)).alloc (.cells #[.int .i64 0, .slice none 0 0, .slice none 0 0, .int .i64 0, .bool false, .slice none 0 0] 33) := ⟨_, rfl⟩
  have y0 : Below w.heap.size w W0 := by rw [hW0]; exact ((((Below.refl _ _).alloc (Nat.le_refl _) _).alloc (by simp) _).alloc (by simp; omega) _).alloc (by simp; omega) _
  have hs0 : W0.heap.size = w.heap.size + 4 := by rw [hW0]; simp
  have kD0 : Blk W0 w.heap.size 33 #[.int .i64 (n : Int), .slice Ad nd cd, .slice Aw nw cw, .int .i64 left, .bool true, .slice Ao no co] := by rw [hW0]; exact (((Blk.new_of rfl rfl).alloc _).alloc _).alloc _
  have kk0 : Blk W0 (w.heap.size + 1) 23 (bs key).toArray := by rw [hW0]; exact ((Blk.new_of (by simp) rfl).alloc _).alloc _
  have ks0 : Blk W0 (w.heap.size + 2) 42 (stCells start count stag).toArray := by rw [hW0]; exact (Blk.new_of (by simp) rfl).alloc _
  have kz0 : Blk W0 (w.heap.size + 3) 33 #[.int .i64 0, .slice none 0 0, .slice none 0 0, .int .i64 0, .bool false, .slice none 0 0] := by rw [hW0]; exact Blk.new_of (by simp) rfl
  have hnew : Calls Tryz.prog 9 #[.int .i64 (n : Int), .agg (bs key).toArray, .int .i64 (first : Int), .int .i64 (size : Int), .agg (stCells start count stag).toArray, .int .u64 1, .int .u64 1] W0 fun e w' => e = .returned (.tuple #[.agg (rjCells ⟨first, size, start, count, 1, 1, key, stag⟩).toArray, .int .i64 0]) ∧ Below W0.heap.size W0 w' := rjnew_any n ⟨first, size, start, count, 1, 1, key, stag⟩ W0 hk ht h1 h2 hp h3 h4 (Nat.le_refl _) (by show 1 ≤ 9223372036854775807; omega)
  have hjl := rjCells_length ⟨first, size, start, count, 1, 1, key, stag⟩ hk ht
  have hj1 := rjCells_one ⟨first, size, start, count, 1, 1, key, stag⟩
  have hji : (Tryz.prog.info? 44).map (·.size) = some (rjCells ⟨first, size, start, count, 1, 1, key, stag⟩).toArray.size := by rw [List.size_toArray, hjl]; kernel_rfl
  have hjz : Tryz.zeroCells44.size = (rjCells ⟨first, size, start, count, 1, 1, key, stag⟩).toArray.size := by rw [show (rjCells ⟨first, size, start, count, 1, 1, key, stag⟩).toArray.size = 70 by rw [List.size_toArray, hjl]]; kernel_rfl
  generalize rjCells ⟨first, size, start, count, 1, 1, key, stag⟩ = jc at *
  have z1 : (bs key).toArray.size = 32 := by simp [bs_length, hk]
  have z2 : (stCells start count stag).toArray.size = 34 := by rw [List.size_toArray, stCells_length, ht]
  have HW0 := Lib.hid hW0
  have Z1 := Lib.hid z1
  have Z2 := Lib.hid z2
  have HK := Lib.hid hk
  have HT := Lib.hid ht
  have HJI := Lib.hid hji
  have HJZ := Lib.hid hjz
  have HJ1 := Lib.hid hj1
  have HS0 := Lib.hid hs0
  clear hW0 z1 z2 hk ht hji hjz hj1 hjl
  go_enter Tryz.func18, Tryz.ntmps18
  go_wp2_with (first | ((with_reducible refine wpList_load_blk (o := ⟨some 33, _, _, _, _, _⟩) rfl 23 _ rfl (w.heap.size + 1) rfl 23 _ _ (by rw [← HW0.out]; exact kk0) Tryz.underlying23 rfl (by rw [Z1.out]; kernel_rfl) ?_)) | ((with_reducible refine wpList_load_blk (o := ⟨some 36, _, _, _, _, _⟩) rfl 42 _ rfl (w.heap.size + 2) rfl 42 _ _ (by rw [← HW0.out]; exact ks0) Tryz.underlying42 rfl (by rw [Z2.out]; kernel_rfl) ?_)) | (go_at_call 9; rw [← HW0.out]; (with_reducible refine hnew.mono ?_); rintro e w1 ⟨rfl, b1⟩; clear hnew) | ((with_reducible refine wpList_store_blk (o := ⟨none, .store 44 (.tmp 13) (.tmp 38), _, _, _, _⟩) rfl 44 (.tmp 13) (.tmp 38) rfl w1.heap.size jc.toArray rfl rfl 44 Tryz.zeroCells44 (Blk.new _ _ _) HJI.out HJZ.out HJ1.out ?_); intro w2 k2 g2 s2))
  obtain ⟨W3, hW3⟩ : ∃ W3 : World, W3 = w2.alloc (.cells (bs (List.replicate 32 0)).toArray 23) := ⟨_, rfl⟩
  rw [show (w2.alloc (.cells #[.int .u8 0, .int .u8 0, .int .u8 0, .int .u8 0, .int .u8 0, .int .u8 0, .int .u8 0, .int .u8 0, .int .u8 0, .int .u8 0, .int .u8 0, .int .u8 0, .int .u8 0, .int .u8 0, .int .u8 0, .int .u8 0, .int .u8 0, .int .u8 0, .int .u8 0, .int .u8 0, .int .u8 0, .int .u8 0, .int .u8 0, .int .u8 0, .int .u8 0, .int .u8 0, .int .u8 0, .int .u8 0, .int .u8 0, .int .u8 0, .int .u8 0, .int .u8 0] 23)) = W3 from hW3.symm]
  have s1a : (w1.alloc (.cells Tryz.zeroCells44 44)).heap.size = w1.heap.size + 1 := size_alloc' _ _
  have hb1 := b1.size
  have y1 : Below w.heap.size w w1 := y0.trans (b1.mono y0.size)
  have hy1s := y1.size
  have y2 : Below w.heap.size w w2 := (y1.alloc y1.size _).grown g2 (by rw [s1a]; omega) (fun k e => by injection e with e; omega)
  have s2' : w2.heap.size = w1.heap.size + 1 := s2.trans s1a
  have kp3 : ∀ j, j < W0.heap.size → W3.heap[j]? = W0.heap[j]? := fun j hj => by
    rw [hW3]
    exact (Below.heap_alloc _ _ j (by omega)).trans ((g2.block j (by rw [s1a]; omega) (fun e => by injection e with e; omega)).trans ((Below.heap_alloc _ _ j (by omega)).trans (b1.block j hj)))
  have kD3 : Blk W3 w.heap.size 33 #[.int .i64 (n : Int), .slice Ad nd cd, .slice Aw nw cw, .int .i64 left, .bool true, .slice Ao no co] := (kp3 _ (by omega)).trans kD0
  have kt3 : Blk W3 (w1.heap.size + 1) 23 (bs (List.replicate 32 0)).toArray := by rw [hW3, ← s2']; exact Blk.new_of rfl rfl
  have hs3 : W3.heap.size = w1.heap.size + 1 + 1 := by rw [hW3, ← s2']; exact size_alloc' _ _
  have y3 : Below w.heap.size w W3 := by rw [hW3]; exact y2.alloc y2.size _
  have hbw : W0.heap.size ≤ w1.heap.size := by omega
  have HW3 := Lib.hid hW3
  clear hW3 g2 k2 s2 s1a b1 y1 y2 s2' kD0 hb1 hy1s
  generalize hbt : w1.heap.size = bt at *
  clear hbt
  have ks3 : Blk W3 (w.heap.size + 2) 42 (stCells start count stag).toArray := (kp3 _ (by omega)).trans ks0
  have kz3 : Blk W3 (w.heap.size + 3) 33 #[.int .i64 0, .slice none 0 0, .slice none 0 0, .int .i64 0, .bool false, .slice none 0 0] := (kp3 _ (by omega)).trans kz0
  have q0 : W3.cell? ⟨w.heap.size + 2, 0, none⟩ = some (.int .u64 (start : Int)) := ks3.cell 0
  have q1 : W3.cell? ⟨w.heap.size + 2, 1, none⟩ = some (.int .u64 (count : Int)) := ks3.cell 1
  clear kt3 kk0 ks0 kz0
  go_loopw [15, 17] (fun vl ix wr => vl = .slice none 0 0 ∧ ix = .int .u64 0 ∧ wr = W3) (fun _ ix _ => count - (intOf ix).toNat)
  case atStart => exact ⟨rfl, rfl, rfl⟩
  case round =>
    obtain ⟨rfl, rfl, rfl⟩ := hrel
    have hlt : (0 : Int) < (count : Int) := by omega
    have hmod : start % size < size := Nat.mod_lt _ (by omega)
    have hpm : ((start % size : Nat) : Int) = (start : Int) % (size : Int) := by simp
    have hmi : (start : Int) % (size : Int) < (size : Int) := by rw [← hpm]; omega
    have hmj : (0 : Int) ≤ (start : Int) % (size : Int) := by rw [← hpm]; omega
    have hsz0 : ¬ (size : Int) = 0 := by omega
    have hrd := fun p => rread_down n nd cd nw cw no co Ad Aw Ao left p wr
    clear hpm
    go_wp2_with (first | ((with_reducible refine wpList_load_blk (o := ⟨some 61, _, _, _, _, _⟩) rfl 33 _ rfl w.heap.size rfl 33 _ _ kD3 Tryz.underlying33 rfl (by kernel_rfl) ?_)) | (go_at_call 49; (with_reducible refine (hrd _).mono ?_); rintro e w5 ⟨rfl, b5⟩; clear hrd; have kD5 := kD3.below b5 kD3.lt; have kz5 := kz3.below b5 kz3.lt; have y5 := y3.trans (b5.mono y3.size)) | ((with_reducible refine wpList_store_blk (o := ⟨none, .store 33 (.tmp 5) (.tmp 64), _, _, _, _⟩) rfl 33 (.tmp 5) (.tmp 64) rfl w.heap.size #[.int .i64 (n : Int), .slice Ad nd cd, .slice Aw nw cw, .int .i64 left, .bool true, .slice Ao no co] rfl rfl 33 _ kD5 (by kernel_rfl) (by simp) (by simp [Value.oneCell']) ?_); intro w6 k6 g6 s6; have kz6 := kz5.grown g6 (by intro e; injection e with e; omega); have y6 : Below w.heap.size w w6 := y5.grown g6 y5.size (fun k e => by injection e with e; omega)) | ((with_reducible refine wpList_load_blk (o := ⟨some 69, _, _, _, _, _⟩) rfl 33 _ rfl w.heap.size rfl 33 _ _ k6 Tryz.underlying33 rfl (by kernel_rfl) ?_)) | ((with_reducible refine wpList_store_blk (o := ⟨none, .store 33 (.tmp 10) (.tmp 69), _, _, _, _⟩) rfl 33 (.tmp 10) (.tmp 69) rfl (w.heap.size + 3) #[.int .i64 (n : Int), .slice Ad nd cd, .slice Aw nw cw, .int .i64 left, .bool true, .slice Ao no co] rfl rfl 33 _ kz6 (by kernel_rfl) (by simp) (by simp [Value.oneCell']) ?_); intro w8 k8 g8 s8))
    refine bodyPost_ret (results_row_tmp2 (fr := (0, 0)) rfl _ _ (w.heap.size + 3) 33 _ _ rfl k8 Tryz.underlying33 rfl (by kernel_rfl)) rfl ?_
    exact ⟨rfl, y6.grown g8 y6.size (fun k e => by injection e with e; omega)⟩
end Go.Proofs.YtkhebllmnagkmaaGreatDoor
