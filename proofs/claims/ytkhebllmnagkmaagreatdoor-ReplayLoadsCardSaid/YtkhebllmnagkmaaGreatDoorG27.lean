/- Contracts and lemmas under the statements of this seat, one behind the other. Conditions: what each names. -/
import Derived.Test.YtkhebllmnagkmaaGreatDoorG26
import Derived.Test.YtkhebllmnagkmaaGreatDoorG18
import Derived.Test.YtkhebllmnagkmaaGreatDoorG13
import Derived.Test.YtkhebllmnagkmaaGreatDoorG24
import Derived.Test.YtkhebllmnagkmaaGreatDoorG17
/- Contracts of journal.New, of replay.Load and of the journal's Append that are refused; of Load on a disk that is down. Conditions: what each names. -/
namespace Go.Proofs.YtkhebllmnagkmaaGreatDoor
open Go.RowKit
set_option linter.unusedVariables false

theorem may_no (start count size : Nat) (tag : List UInt8) (w : World) (h : size ≤ start ∨ size < count) :
    Calls Tryz.prog 32 #[.agg (stCells start count tag).toArray, .int .u64 (size : Int)] w fun e w' => e = .returned (.bool false) ∧ Below w.heap.size w w' := by
  have k0 : Blk (w.alloc (.cells (stCells start count tag).toArray 41)) w.heap.size 41 (stCells start count tag).toArray := Blk.new _ _ _
  have c0 : (w.alloc (.cells (stCells start count tag).toArray 41)).cell? ⟨w.heap.size, 0, none⟩ = some (.int .u64 (start : Int)) := k0.cell 0
  have c1 : (w.alloc (.cells (stCells start count tag).toArray 41)).cell? ⟨w.heap.size, 1, none⟩ = some (.int .u64 (count : Int)) := k0.cell 1
  have y0 : Below w.heap.size w (w.alloc (.cells (stCells start count tag).toArray 41)) := (Below.refl _ _).alloc (Nat.le_refl _) _
  by_cases h1 : start < size
  · have g1 : (start : Int) < size := by omega
    have g2 : ¬ (count : Int) ≤ size := by omega
    have d1 : decide ((start : Int) < (size : Int)) = true := decide_eq_true g1
    have d2 : decide ((count : Int) ≤ (size : Int)) = false := decide_eq_false g2
    generalize (stCells start count tag).toArray = st at *
    go_enter Tryz.func32, Tryz.ntmps32
    go_wp2
    go_ret
    exact ⟨rfl, y0⟩
  · have g1 : ¬ (start : Int) < size := by omega
    have d1 : decide ((start : Int) < (size : Int)) = false := decide_eq_false g1
    generalize (stCells start count tag).toArray = st at *
    go_enter Tryz.func32, Tryz.ntmps32
    go_wp2
    go_ret
    exact ⟨rfl, y0⟩
set_option maxRecDepth 100000 in
set_option maxHeartbeats 2000000 in
theorem jnew_bad (gd : Nat) (F : Nat → Prop) (D : Dk) (first size start count next limit : Nat) (key tag : List UInt8) (w : World) (hD : Disk w gd F D) (hk : key.length = 32) (ht : tag.length = 32) (h1 : 1 ≤ size) (h2 : first + size ≤ D.places.length) (hp : D.places.length ≤ 1048576) (h3 : size ≤ start ∨ size < count) :
    Calls Tryz.prog 8 #[.pointer (some ⟨gd, 0, none⟩), .agg (bs key).toArray, .int .i64 (first : Int), .int .i64 (size : Int), .agg (stCells start count tag).toArray, .int .u64 (next : Int), .int .u64 (limit : Int)] w fun e w' =>
      e = .returned (.tuple #[.pointer none, .int .i64 1]) ∧ Below w.heap.size w w' := by
  have hsize := fun W hD => dsize_any gd F D W hD
  have hmay := fun W => may_no start count size tag W h3
  obtain ⟨W0, hW0⟩ : ∃ W0 : World, W0 = (w.alloc (.cells (bs key).toArray 23)).alloc (.cells (stCells start count tag).toArray 41) := ⟨_, rfl⟩
  have y0 : Below w.heap.size w W0 := by rw [hW0]; exact ((Below.refl _ _).alloc (Nat.le_refl _) _).alloc (by simp) _
  have ks : Blk W0 (w.heap.size + 1) 41 (stCells start count tag).toArray := by rw [hW0]; exact Blk.new_of (by simp) rfl
  have hD0 : Disk W0 gd F D := hD.under y0
  have hsl := stCells_length start count tag
  rw [ht] at hsl
  generalize hkey : bs key = kl at *
  generalize hst : stCells start count tag = st at *
  have HSL := Lib.hid hsl
  have HKEY := Lib.hid hkey
  have HST := Lib.hid hst
  have g1 : ¬ (first : Int) < 0 := by omega
  have g2 : ¬ (size : Int) < 1 := by omega
  have g3 : ¬ (D.places.length : Int) < (first : Int) := by omega
  have g4 : ¬ (D.places.length : Int) - (first : Int) < (size : Int) := by omega
  have HW0 := Lib.hid hW0
  clear hsl hkey hst hW0 hk ht h3
  have hsz : size < 18446744073709551616 := by omega
  have hf2 : first ≤ 1048576 := by omega
  have hs2 : size ≤ 1048576 := by omega
  have d3 : decide (D.places.length < first) = false := decide_eq_false (by omega)
  have d4 : decide ((D.places.length : Int) - (first : Int) < (size : Int)) = false := decide_eq_false (by omega)
  go_enter Tryz.func8, Tryz.ntmps8
  go_wp2_with (first | (go_at_call 31; refine (hsize _ (by rw [← HW0.out]; exact hD0)).mono ?_; rintro e w1 ⟨rfl, rfl⟩) | ((refine wpList_load_mid_w (op := ⟨some 37, _, _, _, _, _⟩) (by rfl) 41 _ rfl (w.heap.size + 1) 0 rfl st _ (by rw [← HW0.out]; exact Blk.range ks) Tryz.underlying41 rfl (by rw [HSL.out]; kernel_rfl) ?_)) | (go_at_call 32; refine (hmay _).mono ?_; rintro e w1 ⟨rfl, b1⟩; rw [← HW0.out] at b1))
  go_ret2
  exact ⟨rfl, y0.trans (b1.mono y0.size)⟩
set_option maxRecDepth 100000 in
set_option maxHeartbeats 4000000 in
theorem load_refused (gd first size start count : Nat) (F : Nat → Prop) (D : Dk) (key stag : List UInt8) (w : World) (hD : Disk w gd F D) (hk : key.length = 32) (ht : stag.length = 32) (h1 : 1 ≤ size) (h2 : first + size ≤ D.places.length) (hp : D.places.length ≤ 1048576) (h3 : size ≤ start ∨ size < count) :
    Calls Tryz.prog 17 #[.pointer (some ⟨gd, 0, none⟩), .agg (bs key).toArray, .int .i64 (first : Int), .int .i64 (size : Int), .agg (stCells start count stag).toArray] w fun e w' => e = .returned (.tuple #[.slice none 0 0, .int .i64 1]) ∧ Below w.heap.size w w' := by
  obtain ⟨W0, hW0⟩ : ∃ W0 : World, W0 = (w.alloc (.cells (bs key).toArray 23)).alloc (.cells (stCells start count stag).toArray 41) := ⟨_, rfl⟩
  have y0 : Below w.heap.size w W0 := by rw [hW0]; exact ((Below.refl _ _).alloc (Nat.le_refl _) _).alloc (by simp) _
  have kk0 : Blk W0 w.heap.size 23 (bs key).toArray := by rw [hW0]; exact (Blk.new_of rfl rfl).alloc _
  have ks0 : Blk W0 (w.heap.size + 1) 41 (stCells start count stag).toArray := by rw [hW0]; exact Blk.new_of (by simp) rfl
  have hnew : Calls Tryz.prog 8 #[.pointer (some ⟨gd, 0, none⟩), .agg (bs key).toArray, .int .i64 (first : Int), .int .i64 (size : Int), .agg (stCells start count stag).toArray, .int .u64 1, .int .u64 1] W0 fun e w' => e = .returned (.tuple #[.pointer none, .int .i64 1]) ∧ Below W0.heap.size W0 w' := jnew_bad gd F D first size start count 1 1 key stag W0 (hD.under y0) hk ht h1 h2 hp h3
  have z1 : (bs key).toArray.size = 32 := by simp [bs_length, hk]
  have z2 : (stCells start count stag).toArray.size = 34 := by rw [List.size_toArray, stCells_length, ht]
  have HW0 := Lib.hid hW0
  have Z1 := Lib.hid z1
  have Z2 := Lib.hid z2
  clear hW0 z1 z2 hk ht h3
  go_enter Tryz.func17, Tryz.ntmps17
  go_wp2_with (first | ((with_reducible refine wpList_load_blk (o := ⟨some 29, _, _, _, _, _⟩) rfl 23 _ rfl w.heap.size rfl 23 _ _ (by rw [← HW0.out]; exact kk0) Tryz.underlying23 rfl (by rw [Z1.out]; kernel_rfl) ?_)) | ((with_reducible refine wpList_load_blk (o := ⟨some 32, _, _, _, _, _⟩) rfl 41 _ rfl (w.heap.size + 1) rfl 41 _ _ (by rw [← HW0.out]; exact ks0) Tryz.underlying41 rfl (by rw [Z2.out]; kernel_rfl) ?_)) | (go_at_call 8; rw [← HW0.out]; refine hnew.mono ?_; rintro e w1 ⟨rfl, b1⟩))
  go_ret2
  exact ⟨rfl, y0.trans (b1.mono y0.size)⟩
set_option maxRecDepth 100000 in
set_option maxHeartbeats 4000000 in
theorem load_down (gd first size start count : Nat) (F : Nat → Prop) (D : Dk) (key stag : List UInt8) (w : World) (hD : Disk w gd F D) (hk : key.length = 32) (ht : stag.length = 32) (h1 : 1 ≤ size) (h2 : first + size ≤ D.places.length) (hp : D.places.length ≤ 1048576) (h3 : start < size) (h4 : count ≤ size) (hdn : D.down = true) (hc : 1 ≤ count) :
    Calls Tryz.prog 17 #[.pointer (some ⟨gd, 0, none⟩), .agg (bs key).toArray, .int .i64 (first : Int), .int .i64 (size : Int), .agg (stCells start count stag).toArray] w fun e w' => e = .returned (.tuple #[.slice none 0 0, .int .i64 13]) ∧ Below w.heap.size w w' := by
  obtain ⟨W0, hW0⟩ : ∃ W0 : World, W0 = (w.alloc (.cells (bs key).toArray 23)).alloc (.cells (stCells start count stag).toArray 41) := ⟨_, rfl⟩
  have y0 : Below w.heap.size w W0 := by rw [hW0]; exact ((Below.refl _ _).alloc (Nat.le_refl _) _).alloc (by simp) _
  have kk0 : Blk W0 w.heap.size 23 (bs key).toArray := by rw [hW0]; exact (Blk.new_of rfl rfl).alloc _
  have ks0 : Blk W0 (w.heap.size + 1) 41 (stCells start count stag).toArray := by rw [hW0]; exact Blk.new_of (by simp) rfl
  have hnew := jnew_any gd F D ⟨first, size, start, count, 1, 1, key, stag⟩ W0 (hD.under y0) hk ht h1 h2 hp h3 h4 (Nat.le_refl _) (by show 1 ≤ 9223372036854775807; omega)
  have z1 : (bs key).toArray.size = 32 := by simp [bs_length, hk]
  have z2 : (stCells start count stag).toArray.size = 34 := by rw [List.size_toArray, stCells_length, ht]
  have hD0 : Disk W0 gd F D := hD.under y0
  have HW0 := Lib.hid hW0
  have Z1 := Lib.hid z1
  have Z2 := Lib.hid z2
  clear hW0 z1 z2 hk ht
  go_enter Tryz.func17, Tryz.ntmps17
  go_wp2_with (first | ((with_reducible refine wpList_load_blk (o := ⟨some 29, _, _, _, _, _⟩) rfl 23 _ rfl w.heap.size rfl 23 _ _ (by rw [← HW0.out]; exact kk0) Tryz.underlying23 rfl (by rw [Z1.out]; kernel_rfl) ?_)) | ((with_reducible refine wpList_load_blk (o := ⟨some 32, _, _, _, _, _⟩) rfl 41 _ rfl (w.heap.size + 1) rfl 41 _ _ (by rw [← HW0.out]; exact ks0) Tryz.underlying41 rfl (by rw [Z2.out]; kernel_rfl) ?_)) | (go_at_call 8; rw [← HW0.out]; refine hnew.mono ?_; rintro e w1 ⟨gj, rfl, hgj, _, b1⟩; have ks1 := ks0.below b1 ks0.lt; have hl1 : w.heap.size + 1 < w1.heap.size := ks1.lt; have x1 : w1.cell? ⟨w.heap.size + 1, 1, none⟩ = some (.int .u64 (count : Int)) := ks1.cell 1))
  obtain ⟨W3, hW3⟩ : ∃ W3 : World, W3 = w1.alloc (.cells (bs (List.replicate 32 0)).toArray 23) := ⟨_, rfl⟩
  rw [show (w1.alloc (.cells #[.int .u8 0, .int .u8 0, .int .u8 0, .int .u8 0, .int .u8 0, .int .u8 0, .int .u8 0, .int .u8 0, .int .u8 0, .int .u8 0, .int .u8 0, .int .u8 0, .int .u8 0, .int .u8 0, .int .u8 0, .int .u8 0, .int .u8 0, .int .u8 0, .int .u8 0, .int .u8 0, .int .u8 0, .int .u8 0, .int .u8 0, .int .u8 0, .int .u8 0, .int .u8 0, .int .u8 0, .int .u8 0, .int .u8 0, .int .u8 0, .int .u8 0, .int .u8 0] 23)) = W3 from hW3.symm]
  have b13 : Below w1.heap.size w1 W3 := by rw [hW3]; exact (Below.refl _ _).alloc (Nat.le_refl _) _
  have y1 : Below w.heap.size w w1 := y0.trans (b1.mono y0.size)
  have y3 : Below w.heap.size w W3 := y1.trans (b13.mono y1.size)
  have ks3 := ks1.below b13 ks1.lt
  have D3 : Disk W3 gd F D := (hD0.under b1).under b13
  have q0 : W3.cell? ⟨w.heap.size + 1, 0, none⟩ = some (.int .u64 (start : Int)) := ks3.cell 0
  have q1 : W3.cell? ⟨w.heap.size + 1, 1, none⟩ = some (.int .u64 (count : Int)) := ks3.cell 1
  have hs3 := y3.size
  clear hnew hW3 x1 b1 b13 ks1
  go_loopw [14, 41] (fun vl ix wr => vl = .slice none 0 0 ∧ ix = .int .u64 0 ∧ wr = W3) (fun _ ix _ => count - (intOf ix).toNat)
  case atStart => exact ⟨rfl, rfl, rfl⟩
  case round =>
    obtain ⟨rfl, rfl, rfl⟩ := hrel
    have hlt : (0 : Int) < (count : Int) := by omega
    have hmod : start % size < size := Nat.mod_lt _ (by omega)
    have hpm : ((start % size : Nat) : Int) = (start : Int) % (size : Int) := by simp
    have hmi : (start : Int) % (size : Int) < (size : Int) := by rw [← hpm]; omega
    have hmj : (0 : Int) ≤ (start : Int) % (size : Int) := by rw [← hpm]; omega
    have hsz0 : ¬ (size : Int) = 0 := by omega
    have hrd := fun p => dread_down gd p F D wr D3 hdn
    clear hpm
    go_wp2_with (first | (go_at_call 15; refine (hrd _).mono ?_; rintro e w5 ⟨rfl, b5⟩))
    go_ret2
    exact ⟨rfl, y3.trans (b5.mono y3.size)⟩
set_option maxRecDepth 100000 in
set_option maxHeartbeats 4000000 in
theorem append_full (gj gd : Nat) (J : Jr) (g o n c : Nat) (xs : List Value) (l : List (Nat × List UInt8)) (w : World) (hJ : JAt w gj gd J)
    (hr : Reads w w.heap.size 2 (some ⟨g, o, none⟩) n xs) (hl : l.length = n) (hi : RowI w xs l) (h160 : ∀ p ∈ l, p.2.length = 160) (hn0 : 1 ≤ n) (hnn : n ≤ 1048576) (hsz : J.size ≤ 1048576) (hc : J.count ≤ J.size) (h4 : J.size < J.count + n) :
    Calls Tryz.prog 11 #[.pointer (some ⟨gj, 0, none⟩), .slice (some ⟨g, o, none⟩) n c] w fun e w' => e = .returned (.tuple #[.agg st0.toArray, .int .i64 17]) ∧ Below w.heap.size w w' := by
  subst hl
  obtain ⟨W0, hW0⟩ : ∃ W0 : World, W0 = (w.alloc (.cells #[.pointer (some ⟨gj, 0, none⟩)] 36)).alloc (.cells st0.toArray 41) := ⟨_, rfl⟩
  have y0 : Below w.heap.size w W0 := by rw [hW0]; exact ((Below.refl _ _).alloc (Nat.le_refl _) _).alloc (by simp) _
  have kb0 : Blk W0 w.heap.size 36 #[.pointer (some ⟨gj, 0, none⟩)] := by rw [hW0]; exact (Blk.new_of rfl rfl).alloc _
  have kz0 : Blk W0 (w.heap.size + 1) 41 st0.toArray := by rw [hW0]; exact Blk.new_of (by simp) rfl
  have hof := of_ok g o l.length c xs l W0 ((hr.below y0).more y0.size) rfl (hi.under y0) h160 hn0 hnn
  rw [hW0] at hof
  have a0 : ((w.alloc (.cells #[.pointer (some ⟨gj, 0, none⟩)] 36)).alloc (.cells st0.toArray 41)).cell? ⟨w.heap.size, 0, none⟩ = some (.pointer (some ⟨gj, 0, none⟩)) := by rw [← hW0]; exact kb0.cell 0
  have hroom := fun W h => room_any gj gd J W h (by omega) (by omega)
  have d1 : decide (J.size - J.count < l.length) = true := decide_eq_true (by omega)
  have d2 : J.size - J.count < l.length := by omega
  have d3 : ((J.size - J.count : Nat) : Int) < (l.length : Int) := by omega
  have HW0 := Lib.hid hW0
  clear hW0
  go_enter Tryz.func11, Tryz.ntmps11
  go_wp2_with (first | (go_at_call 33; refine hof.mono ?_; rintro e w1 ⟨v1, xr, rfl, ho1, hR1, b1⟩; rw [← HW0.out] at ho1 b1; obtain ⟨A1, c1, rfl⟩ := own_shape ho1; have y1 := y0.trans (b1.mono y0.size); have kb1 := kb0.below b1 kb0.lt; have a1 : w1.cell? ⟨w.heap.size, 0, none⟩ = some (.pointer (some ⟨gj, 0, none⟩)) := kb1.cell 0; have J1 := hJ.under y1; have kz1 := kz0.below b1 kz0.lt) | (go_at_call 34; refine (hroom _ J1).mono ?_; rintro e w2 ⟨rfl, m, rfl⟩; have kz2 : Blk (w1.drewN m) (w.heap.size + 1) 41 st0.toArray := kz1; have y2 := below_drewN y1 m) | ((with_reducible refine wpList_store_blk (o := ⟨none, .store 41 (.tmp 4) (.tmp 35), _, _, _, _⟩) rfl 41 (.tmp 4) (.tmp 35) rfl (w.heap.size + 1) st0.toArray rfl rfl 41 st0.toArray kz2 (by kernel_rfl) rfl (by kernel_rfl) ?_); intro w3 k3 g3 s3; have S3 := Lib.hid s3; clear s3))
  refine bodyPost_ret (results_row_tmp (fr := (0, 0)) rfl _ _ (w.heap.size + 1) 41 _ _ rfl k3 Tryz.underlying41 rfl (by kernel_rfl)) rfl ?_
  exact ⟨rfl, y2.grown g3 y2.size (fun k e => by injection e with e; omega)⟩
end Go.Proofs.YtkhebllmnagkmaaGreatDoor
/- Contracts of the reference's disk: rows of writes, noted, more, last, At, fits, Read, Write. Conditions: what each names. -/
namespace Go.Proofs.YtkhebllmnagkmaaGreatDoor
open Go.RowKit
set_option linter.unusedVariables false

/-- Writes, in memory. -/
def encW (l : List (Nat × List UInt8)) : List Value := (l.map fun p => [.int .i64 (p.1 : Int), strB p.2]).flatten
theorem encW_append (a b : List (Nat × List UInt8)) : encW (a ++ b) = encW a ++ encW b := by unfold encW; simp
theorem encW_length (l : List (Nat × List UInt8)) : (encW l).length = l.length * 2 := by
  induction l with
  | nil => rfl
  | cons p l ih => unfold encW at *; rw [List.map_cons, List.flatten_cons, List.length_append, ih, List.length_cons]; simp; omega
theorem encW_get (l : List (Nat × List UInt8)) (i : Nat) (p : Nat × List UInt8) (h : l[i]? = some p) : (encW l)[2 * i]? = some (.int .i64 (p.1 : Int)) ∧ (encW l)[2 * i + 1]? = some (strB p.2) := by
  induction l generalizing i with
  | nil => simp at h
  | cons q l ih =>
    have e : encW (q :: l) = .int .i64 (q.1 : Int) :: strB q.2 :: encW l := rfl
    rw [e]
    cases i with
    | zero => simp at h; subst h; exact ⟨rfl, rfl⟩
    | succ i =>
      simp at h
      obtain ⟨h1, h2⟩ := ih i h
      exact ⟨by rw [show 2 * (i + 1) = 2 * i + 1 + 1 by omega]; simpa using h1, by rw [show 2 * (i + 1) + 1 = 2 * i + 1 + 1 + 1 by omega]; simpa using h2⟩
theorem encW_one (l : List (Nat × List UInt8)) : ∀ u ∈ encW l, u.oneCell' = true := by
  intro u hu
  unfold encW at hu
  rw [List.mem_flatten] at hu
  obtain ⟨c, hc, hu⟩ := hu
  rw [List.mem_map] at hc
  obtain ⟨p, _, rfl⟩ := hc
  simp only [List.mem_cons, List.not_mem_nil, or_false] at hu
  rcases hu with rfl | rfl <;> rfl
theorem infoW : (Tryz.prog.info? 142).map (fun i => (i.zero, i.size, i.bytes)) = some (some (.agg #[.int .i64 0, .string ⟨#[]⟩]), 2, 24) := by kernel_rfl
theorem infoOp : (Tryz.prog.info? 169).map (fun i => (i.zero, i.size, i.bytes)) = some (some (.agg #[.int .i64 0, .int .i64 0]), 2, 16) := by kernel_rfl
/-- The last write at a place. -/
def lastW (l : List (Nat × List UInt8)) (i : Nat) : Option (List UInt8) := (l.reverse.find? (fun p => p.1 == i)).map (·.2)
theorem lastW_snoc (l : List (Nat × List UInt8)) (p : Nat × List UInt8) (i : Nat) : lastW (l ++ [p]) i = if p.1 == i then some p.2 else lastW l i := by
  unfold lastW
  rw [List.reverse_append]
  show Option.map _ (List.find? _ (p :: l.reverse)) = _
  rw [List.find?_cons]
  split
  · rename_i h; rw [if_pos h]; rfl
  · rename_i h; rw [if_neg (by rw [h]; exact Bool.false_ne_true)]
theorem lastW_none (l : List (Nat × List UInt8)) (i : Nat) (h : ∀ (j : Nat) (p : Nat × List UInt8), l[j]? = some p → p.1 ≠ i) : lastW l i = none := by
  unfold lastW
  rw [Option.map_eq_none_iff, List.find?_eq_none]
  intro x hx
  obtain ⟨j, hj⟩ := List.getElem?_of_mem (List.mem_reverse.1 hx)
  simpa using h j x hj
theorem lastW_cons (l : List (Nat × List UInt8)) (p : Nat × List UInt8) (i : Nat) : lastW (p :: l) i = (lastW l i).or (if p.1 == i then some p.2 else none) := by
  unfold lastW
  rw [List.reverse_cons, List.find?_append]
  cases List.find? (fun p => p.1 == i) l.reverse with
  | some q => rfl
  | none =>
    rw [Option.none_or]
    show Option.map (·.2) (List.find? _ [p]) = _
    rw [List.find?_cons]
    split
    · rename_i h; rw [if_pos h]; rfl
    · rename_i h; rw [if_neg (by rw [h]; exact Bool.false_ne_true)]; rfl
theorem lastW_some : ∀ (l : List (Nat × List UInt8)) (i j : Nat) (p : Nat × List UInt8), l[j]? = some p → p.1 = i → (∀ m, j < m → ∀ q, l[m]? = some q → q.1 ≠ i) → lastW l i = some p.2
  | [], i, j, p, h, _, _ => by simp at h
  | q :: l, i, 0, p, h, hp, hm => by
    have h : q = p := by simpa using h
    subst h
    rw [lastW_cons, lastW_none l i (fun j r hr => hm (j + 1) (by omega) r (by simpa using hr)), if_pos (by simpa using hp)]
    rfl
  | q :: l, i, j + 1, p, h, hp, hm => by
    rw [lastW_cons, lastW_some l i j p (by simpa using h) hp (fun m hjm r hr => hm (m + 1) (by omega) r (by simpa using hr))]
    rfl
set_option maxRecDepth 100000 in
set_option maxHeartbeats 4000000 in
theorem noted_any (n left kind slot : Int) (Ad Aw Ao : Option Addr) (nd cd nw cw no co : Nat) (down : Bool) (xo : List Value) (w : World) (ho : w.ownsRow 0 169 2 (.slice Ao no co) no xo) (hx : ∀ u ∈ xo, u.oneCell' = true) (hn : no ≤ 1048576) :
    Calls Tryz.prog 59 #[.agg #[.int .i64 n, .slice Ad nd cd, .slice Aw nw cw, .int .i64 left, .bool down, .slice Ao no co], .int .i64 kind, .int .i64 slot] w fun e w' => ∃ Ao' co' xo', e = .returned (.agg #[.int .i64 n, .slice Ad nd cd, .slice Aw nw cw, .int .i64 left, .bool down, .slice Ao' (no + 1) co']) ∧
      w'.ownsRow w.heap.size 169 2 (.slice Ao' (no + 1) co') (no + 1) xo' ∧ (∀ u ∈ xo', u.oneCell' = true) ∧ Below w.heap.size w w' := by
  obtain ⟨i0, ii0, hz0, hz1, hz2⟩ := info_parts infoOp
  obtain ⟨W0, hW0⟩ : ∃ W0 : World, W0 = (w.alloc (.cells #[.int .i64 n, .slice Ad nd cd, .slice Aw nw cw, .int .i64 left, .bool down, .slice Ao no co] 33)).alloc (.cells #[.int .i64 0, .slice none 0 0, .slice none 0 0, .int .i64 0, .bool false, .slice none 0 0] 33) := ⟨_, rfl⟩
  have y0 : Below w.heap.size w W0 := by rw [hW0]; exact ((Below.refl _ _).alloc (Nat.le_refl _) _).alloc (by simp) _
  have s0 : W0.heap.size = w.heap.size + 2 := by rw [hW0]; simp
  have k0 : Blk W0 w.heap.size 33 #[.int .i64 n, .slice Ad nd cd, .slice Aw nw cw, .int .i64 left, .bool down, .slice Ao no co] := by rw [hW0]; exact (Blk.new_of rfl rfl).alloc _
  have k1 : Blk W0 (w.heap.size + 1) 33 #[.int .i64 0, .slice none 0 0, .slice none 0 0, .int .i64 0, .bool false, .slice none 0 0] := by rw [hW0]; exact Blk.new_of (by simp) rfl
  have r0 := Reads.of_own (own_keep ho fun k e => y0.block k (World.ownsRow.lt ho k e).2)
  have onil : W0.ownsRow (w.heap.size + 2) 169 2 (.slice none 0 0) 0 [] := World.ownsRow_nil _ _ _ _
  have hm1 : 0 + no ≤ maxLen := by unfold maxLen; omega
  have hm2 : (0 + no) * 16 ≤ 140737488355328 := by omega
  have hb2 : w.heap.size + 2 ≤ W0.heap.size := by omega
  have HW0 := Lib.hid hW0
  have HM := Lib.hid (And.intro hm1 hm2)
  clear hW0 hm1 hm2
  have hone2 : ∀ u ∈ [Value.int .i64 kind, .int .i64 slot], u.oneCell' = true := by intro u hu; simp only [List.mem_cons, List.not_mem_nil, or_false] at hu; rcases hu with rfl | rfl <;> rfl
  have HM2 : Hid (no + 1 ≤ maxLen ∧ (no + 1) * 16 ≤ 140737488355328) := Lib.hid ⟨by unfold maxLen; omega, by omega⟩
  go_enter Tryz.func59, Tryz.ntmps59
  go_wp2_with (first | (at_builtin; refine wpList_append_any _ rfl (.tmp 8) (.tmp 10) 31 rfl (w.heap.size + 2) 169 i0 _ 2 16 Tryz.underlying31 ii0 hz0 hz1 hz2 rfl (by omega) (.slice none 0 0) 0 [] rfl (World.ownsRow_nil _ _ _ _) _ Ao no co xo rfl (by rw [← HW0.out]; exact r0) hx HM.out.1 HM.out.2 (by rw [← HW0.out]; exact hb2) ?_; intro v5 w5 hown5 hg5 hat5; rw [← HW0.out] at hg5; have k05 := k0.grown hg5 (by intro e; cases e); have k15 := k1.grown hg5 (by intro e; cases e); have y5 := y0.grown hg5 y0.size (fun k e => by cases e); have s5 := hg5.size; rw [List.nil_append] at hown5; simp only [Nat.zero_add] at hown5; obtain ⟨A5, c5, rfl⟩ := own_shape hown5; have lo5 := World.ownsRow.lt hown5; clear hg5 hat5) | (at_builtin; refine wpList_append_any _ rfl (.tmp 12) (.tmp 16) 31 rfl (w.heap.size + 2) 169 i0 _ 2 16 Tryz.underlying31 ii0 hz0 hz1 hz2 rfl (by omega) (.slice A5 no c5) no xo rfl (World.ownsRow.alloc hown5 _) _ (some ⟨w5.heap.size, 0, none⟩) 1 1 [.int .i64 kind, .int .i64 slot] rfl (Blk.rows 1 2 (Blk.new w5 169 #[.int .i64 kind, .int .i64 slot]) rfl) hone2 HM2.out.1 HM2.out.2 (by rw [size_alloc']; omega) ?_; intro v7 w7 hown7 hg7 hat7; have k07 := (k05.alloc _).grown hg7 (by intro e; have := (lo5 _ e.symm).1; omega); have k17 := (k15.alloc _).grown hg7 (by intro e; have := (lo5 _ e.symm).1; omega); have y7 := (y5.alloc y5.size (.cells #[.int .i64 kind, .int .i64 slot] 169)).grown hg7 (by rw [size_alloc']; have := y5.size; omega) (fun k e => by have := (lo5 _ e).1; omega); have s7 := hg7.size; rw [size_alloc'] at s7; obtain ⟨A7, c7, rfl⟩ := own_shape hown7; have lo7 := World.ownsRow.lt hown7; have j5 : w7.cell? ⟨w.heap.size, 5, none⟩ = some (.slice Ao no co) := k07.cell 5; have f5 := k07.frozen 5; have kL := k07.set_ 5 (.slice A7 (no + 1) c7); have kS := k17.far (p := ⟨w.heap.size, 5, none⟩) (by show w.heap.size + 1 ≠ w.heap.size; omega) (.slice A7 (no + 1) c7); clear hg7 hat7) | ((with_reducible refine wpList_load_blk (o := ⟨some 19, _, _, _, _, _⟩) rfl 33 _ rfl w.heap.size rfl 33 _ _ kL Tryz.underlying33 rfl (by kernel_rfl) ?_)) | ((with_reducible refine wpList_store_blk (o := ⟨none, .store 33 (.tmp 6) (.tmp 19), _, _, _, _⟩) rfl 33 (.tmp 6) (.tmp 19) rfl (w.heap.size + 1) #[.int .i64 n, .slice Ad nd cd, .slice Aw nw cw, .int .i64 left, .bool down, .slice A7 (no + 1) c7] rfl rfl 33 _ kS (by kernel_rfl) (by simp) (by simp [Value.oneCell']) ?_); intro w10 k10 g10 s10))
  have y8 := y7.setCell (p := ⟨w.heap.size, 5, none⟩) (Nat.le_refl _) (.slice A7 (no + 1) c7)
  have y10 := y8.grown g10 y8.size (fun k e => by injection e with e; omega)
  have o8 := ownsRow_setCell_below hown7 (a := ⟨w.heap.size, 5, none⟩) (by show w.heap.size < w.heap.size + 2; omega) (.slice A7 (no + 1) c7)
  have o10 := World.ownsRow.kept o8 g10 (.inr fun e => by have := (lo7 _ e).1; omega)
  refine ret_cell 6 33 rfl rfl (w.heap.size + 1) 33 _ _ rfl k10 Tryz.underlying33 rfl (by kernel_rfl) ⟨A7, c7, _, rfl, ownsRow_lower o10 (by omega), fun u hu => ?_, y10⟩
  rw [List.mem_append] at hu
  rcases hu with hu | hu
  · exact hx u hu
  · exact hone2 u hu
set_option maxRecDepth 100000 in
set_option maxHeartbeats 4000000 in
theorem more_any (A : Option Addr) (n c slot : Nat) (b : List UInt8) (l : List (Nat × List UInt8)) (w : World) (ho : w.ownsRow 0 142 2 (.slice A n c) n (encW l)) (hn : n ≤ 1048576) :
    Calls Tryz.prog 58 #[.slice A n c, .agg #[.int .i64 (slot : Int), .string ⟨b.toArray⟩]] w fun e w' => ∃ A' c', e = .returned (.slice A' (n + 1) c') ∧ w'.ownsRow w.heap.size 142 2 (.slice A' (n + 1) c') (n + 1) (encW (l ++ [(slot, b)])) ∧ Below w.heap.size w w' := by
  obtain ⟨i0, ii0, hz0, hz1, hz2⟩ := info_parts infoW
  obtain ⟨W0, hW0⟩ : ∃ W0 : World, W0 = w.alloc (.cells #[.int .i64 (slot : Int), .string ⟨b.toArray⟩] 142) := ⟨_, rfl⟩
  have y0 : Below w.heap.size w W0 := by rw [hW0]; exact (Below.refl _ _).alloc (Nat.le_refl _) _
  have s0 : W0.heap.size = w.heap.size + 1 := by rw [hW0]; simp
  have k0 : Blk W0 w.heap.size 142 #[.int .i64 (slot : Int), .string ⟨b.toArray⟩] := by rw [hW0]; exact Blk.new_of rfl rfl
  have r0 := Reads.of_own (own_keep ho fun k e => y0.block k (World.ownsRow.lt ho k e).2)
  have hx := encW_one l
  have hone2 := encW_one [(slot, b)]
  have hap := encW_append l [(slot, b)]
  have heW : encW [(slot, b)] = [.int .i64 (slot : Int), .string ⟨b.toArray⟩] := rfl
  rw [heW] at hap hone2
  generalize encW l = xo at *
  have HM : Hid (0 + n ≤ maxLen ∧ (0 + n) * 24 ≤ 140737488355328) := Lib.hid ⟨by unfold maxLen; omega, by omega⟩
  have HM2 : Hid (n + 1 ≤ maxLen ∧ (n + 1) * 24 ≤ 140737488355328) := Lib.hid ⟨by unfold maxLen; omega, by omega⟩
  have hb2 : w.heap.size + 1 ≤ W0.heap.size := by omega
  have HW0 := Lib.hid hW0
  have HAP := Lib.hid hap
  clear hW0 hap heW
  go_enter Tryz.func58, Tryz.ntmps58
  go_wp2_with (first | (at_builtin; refine wpList_append_any _ rfl (.tmp 6) (.tmp 7) 30 rfl (w.heap.size + 1) 142 i0 _ 2 24 Tryz.underlying30 ii0 hz0 hz1 hz2 rfl (by omega) (.slice none 0 0) 0 [] rfl (World.ownsRow_nil _ _ _ _) _ A n c xo rfl (by rw [← HW0.out]; exact r0) hx HM.out.1 HM.out.2 (by rw [← HW0.out]; exact hb2) ?_; intro v5 w5 hown5 hg5 hat5; rw [← HW0.out] at hg5; have k05 := k0.grown hg5 (by intro e; cases e); have y5 := y0.grown hg5 y0.size (fun k e => by cases e); have s5 := hg5.size; rw [List.nil_append] at hown5; simp only [Nat.zero_add] at hown5; obtain ⟨A5, c5, rfl⟩ := own_shape hown5; have lo5 := World.ownsRow.lt hown5; have j0 : w5.cell? ⟨w.heap.size, 0, none⟩ = some (.int .i64 (slot : Int)) := k05.cell 0; have j1 : w5.cell? ⟨w.heap.size, 1, none⟩ = some (.string ⟨b.toArray⟩) := k05.cell 1; clear hg5 hat5) | (at_builtin; refine wpList_append_any _ rfl (.tmp 9) (.tmp 11) 30 rfl (w.heap.size + 1) 142 i0 _ 2 24 Tryz.underlying30 ii0 hz0 hz1 hz2 rfl (by omega) (.slice A5 n c5) n xo rfl (World.ownsRow.alloc hown5 _) _ (some ⟨w5.heap.size, 0, none⟩) 1 1 [.int .i64 (slot : Int), .string ⟨b.toArray⟩] rfl (Blk.rows 1 2 (Blk.new w5 142 #[.int .i64 (slot : Int), .string ⟨b.toArray⟩]) rfl) hone2 HM2.out.1 HM2.out.2 (by rw [size_alloc']; omega) ?_; intro v7 w7 hown7 hg7 hat7; have y7 := (y5.alloc y5.size (.cells #[.int .i64 (slot : Int), .string ⟨b.toArray⟩] 142)).grown hg7 (by rw [size_alloc']; have := y5.size; omega) (fun k e => by have := (lo5 _ e).1; omega); obtain ⟨A7, c7, rfl⟩ := own_shape hown7; clear hg7 hat7))
  go_ret
  exact ⟨A7, c7, rfl, by rw [HAP.out]; exact ownsRow_lower hown7 (by omega), y7⟩
set_option maxRecDepth 100000 in
set_option maxHeartbeats 4000000 in
theorem last_any (A : Option Addr) (n c i : Nat) (l : List (Nat × List UInt8)) (w : World) (ho : w.ownsRow 0 142 2 (.slice A n c) n (encW l)) (hl : l.length = n) (hn : n ≤ 1048576) (hi : i ≤ 1048576) :
    Calls Tryz.prog 80 #[.slice A n c, .int .i64 (i : Int)] w fun e w' => e = .returned (.tuple #[.string ⟨((lastW l i).getD []).toArray⟩, .bool (lastW l i).isSome]) ∧ w = w' := by
  have e5 : wrap64 ((n : Int) - 1) = (n : Int) - 1 := by unfold wrap64; omega
  have hno := lastW_none l i
  have hyes := lastW_some l i
  have HL := Lib.hid hl
  have HNO := Lib.hid hno
  have HYES := Lib.hid hyes
  clear hno hyes hl
  generalize lastW l i = lw at *
  go_enter Tryz.func80, Tryz.ntmps80
  go_wp2
  clear e5
  go_loopw [6] (fun v wr => ((v = .int .i64 (-1) ∧ ∀ (j : Nat) (p : Nat × List UInt8), l[j]? = some p → p.1 ≠ i) ∨ (∃ j : Nat, j < n ∧ v = .int .i64 (j : Int) ∧ ∀ m, j < m → ∀ q, l[m]? = some q → q.1 ≠ i)) ∧ wr = w) (fun v _ => match v with | .int _ n => (n + 1).toNat | _ => 0)
  case atStart =>
    refine ⟨?_, rfl⟩
    rcases Nat.eq_zero_or_pos n with h0 | h0
    · subst h0
      exact .inl ⟨rfl, fun j p hp => by have := (List.getElem?_eq_some_iff.1 hp).1; have := HL.out; omega⟩
    · refine .inr ⟨n - 1, by omega, ?_, fun m hm q hq => ?_⟩
      · show Value.int .i64 ((n : Int) - 1) = _
        rw [show ((n - 1 : Nat) : Int) = (n : Int) - 1 by omega]
      · have := (List.getElem?_eq_some_iff.1 hq).1
        have := HL.out
        omega
  case round =>
    obtain ⟨hcase, rfl⟩ := hrel
    rcases hcase with ⟨rfl, hz⟩ | ⟨j, hj, rfl, hz⟩
    · have HZ := Lib.hid (HNO.out hz)
      clear hz
      go_wp2
      go_ret2
      rw [HZ.out]
      exact ⟨rfl, rfl⟩
    · obtain ⟨p, hp⟩ : ∃ p, l[j]? = some p := ⟨_, List.getElem?_eq_getElem (by have := HL.out; omega)⟩
      obtain ⟨g, cap, hv, _, hlt⟩ := ho.form (by omega)
      injection hv with hA
      subst hA
      obtain ⟨h1, h2⟩ := encW_get l j p hp
      have hcl := World.ownsRow.cells ho (g := g) rfl
      have q0 : wr.cell? ⟨g, j * 2, none⟩ = some (.int .i64 (p.1 : Int)) := by have h := hcl _ _ h1; rw [add_head, Nat.mul_comm] at h; exact h
      have q1 : wr.cell? ⟨g, j * 2 + 1, none⟩ = some (.string ⟨p.2.toArray⟩) := by have h := hcl _ _ h2; rw [add_head, Nat.mul_comm 2] at h; exact h
      have e1 : wrap64 ((j : Int) - 1) = (j : Int) - 1 := by unfold wrap64; omega
      have e2 : (0 : Int) ≤ (j : Int) := by omega
      have e3 : (j : Int) < (n : Int) := by omega
      by_cases hpi : p.1 = i
      · have hpI : (p.1 : Int) = (i : Int) := by omega
        have HZ := Lib.hid (HYES.out j p hp hpi hz)
        clear hz h1 h2 hcl e1 hp
        go_wp2
        go_ret2
        rw [HZ.out]
        exact ⟨rfl, rfl⟩
      · have hpI : ¬ (p.1 : Int) = (i : Int) := by omega
        clear h1 h2 hcl
        go_wp2
        go_roundw
        case rel =>
          refine ⟨?_, trivial⟩
          rcases Nat.eq_zero_or_pos j with h0 | h0
          · subst h0
            refine .inl ⟨rfl, fun m q hq => ?_⟩
            rcases Nat.eq_zero_or_pos m with hm | hm
            · subst hm
              rw [hp] at hq
              injection hq with hq
              subst hq
              exact hpi
            · exact hz m hm q hq
          · refine .inr ⟨j - 1, by omega, ?_, fun m hm q hq => ?_⟩
            · show Value.int .i64 ((j : Int) - 1) = _
              rw [show ((j - 1 : Nat) : Int) = (j : Int) - 1 by omega]
            · rcases Nat.lt_or_ge j m with hlt | hge
              · exact hz m hlt q hq
              · have hmj : m = j := by omega
                subst hmj
                rw [hp] at hq
                injection hq with hq
                subst hq
                exact hpi
        case measure => simp only; omega
end Go.Proofs.YtkhebllmnagkmaaGreatDoor
/- Contracts of the reference's disk: At, fits, Read, Write. Conditions: what each names. -/
namespace Go.Proofs.YtkhebllmnagkmaaGreatDoor
open Go.RowKit
set_option linter.unusedVariables false

theorem results_row_tmp2 {P : Program} {fn : Func} {p u v : Tmp} {ty : TypeId} (h : fn.results = #[.cell p ty, .tmp u, .tmp v]) (tmps : Array Value) (w : World) (g : Nat) (t : TypeId) (cs : Array Value) (fr : Nat × Nat) (d : TypeDesc)
    (hp : tmps.getD p undef = .pointer (some ⟨g, 0, none⟩)) (hg : w.heap[g]? = some (.cells cs t fr))
    (hu : P.underlying ty = some d) (hd : (match d with | .struct _ | .array _ _ => true | _ => false) = true) (hi : (P.info? ty).map (·.size) = some cs.size) :
    (results fn tmps).run P w = .ok (.tuple #[.agg cs, tmps.getD u undef, tmps.getD v undef]) w := by
  have hp' : tmps[p]?.getD undef = .pointer (some ⟨g, 0, none⟩) := by simpa using hp
  simp [results, h, hp', asAddr, run_loadVar_row w g t ty cs fr d hg hu hd hi]
/-- What stands at a place of the reference's disk. -/
def readR (done way : List (Nat × List UInt8)) (i : Nat) : List UInt8 := (lastW way i).getD ((lastW done i).getD zeros192)
set_option maxRecDepth 100000 in
set_option maxHeartbeats 4000000 in
theorem refAtP_any (n i nd cd nw cw no co : Nat) (Ad Aw Ao : Option Addr) (left : Int) (done : List (Nat × List UInt8)) (w : World) (hd : w.ownsRow 0 142 2 (.slice Ad nd cd) nd (encW done)) (hl : done.length = nd) (hn : nd ≤ 1048576) (hi : i ≤ 1048576) :
    Calls Tryz.prog 81 #[.agg #[.int .i64 (n : Int), .slice Ad nd cd, .slice Aw nw cw, .int .i64 left, .bool false, .slice Ao no co], .int .i64 (i : Int)] w fun e w' => e = .returned (.string ⟨((lastW done i).getD zeros192).toArray⟩) ∧ Below w.heap.size w w' := by
  have y0 : Below w.heap.size w (w.alloc (.cells #[.int .i64 (n : Int), .slice Ad nd cd, .slice Aw nw cw, .int .i64 left, .bool false, .slice Ao no co] 33)) := (Below.refl _ _).alloc (Nat.le_refl _) _
  have hla := last_any Ad nd cd i done _ (own_keep hd fun k e => y0.block k (World.ownsRow.lt hd k e).2) hl hn hi
  cases hlw : lastW done i with
  | some b =>
    rw [hlw] at hla
    go_enter Tryz.func81, Tryz.ntmps81
    go_wp2_with (first | (go_at_call 80; (with_reducible refine hla.mono ?_); rintro e w1 ⟨rfl, rfl⟩))
    go_ret
    exact ⟨rfl, y0⟩
  | none =>
    rw [hlw] at hla
    have hmk := run_make192
    have hcv : ∀ (W : World), (convert 55 9 (.slice (some ⟨W.heap.size, 0, none⟩) 192 192)).run Tryz.prog (W.alloc (.cells (bs zeros192).toArray 5)) = .ok (strB zeros192) (W.alloc (.cells (bs zeros192).toArray 5)) := fun W => by
      have h := run_string (W.alloc (.cells (bs zeros192).toArray 5)) (some ⟨W.heap.size, 0, none⟩) 192 zeros192 (Blk.rows _ 1 (Blk.new W 5 (bs zeros192).toArray) (by rw [bs_length]; omega))
      exact h
    have hcv2 := hcv (w.alloc (.cells #[.int .i64 (n : Int), .slice Ad nd cd, .slice Aw nw cw, .int .i64 left, .bool false, .slice Ao no co] 33))
    rw [size_alloc'] at hcv2
    generalize zeros192 = zs at *
    go_enter Tryz.func81, Tryz.ntmps81
    go_wp2_with (first | (go_at_call 80; (with_reducible refine hla.mono ?_); rintro e w1 ⟨rfl, rfl⟩))
    go_ret
    exact ⟨rfl, y0.alloc (by rw [size_alloc']; omega) _⟩
set_option maxRecDepth 100000 in
set_option maxHeartbeats 4000000 in
theorem rfits_any (n i nd cd nw cw no co : Nat) (Ad Aw Ao : Option Addr) (left : Int) (b : List UInt8) (w : World) (hi : i < n) (hb : b.length = 192) :
    Calls Tryz.prog 57 #[.agg #[.int .i64 (n : Int), .slice Ad nd cd, .slice Aw nw cw, .int .i64 left, .bool false, .slice Ao no co], .int .i64 (i : Int), .string ⟨b.toArray⟩] w fun e w' => e = .returned (.int .i64 0) ∧ Below w.heap.size w w' := by
  have y0 : Below w.heap.size w (w.alloc (.cells #[.int .i64 (n : Int), .slice Ad nd cd, .slice Aw nw cw, .int .i64 left, .bool false, .slice Ao no co] 33)) := (Below.refl _ _).alloc (Nat.le_refl _) _
  have hlen : (ByteArray.mk b.toArray).size = 192 := by simp [ByteArray.size, hb]
  have e1 : ¬ (n : Int) ≤ (i : Int) := by omega
  have e2 : ¬ (i : Int) < 0 := by omega
  go_enter Tryz.func57, Tryz.ntmps57
  go_wp2
  go_ret
  exact ⟨rfl, y0⟩
set_option maxRecDepth 100000 in
set_option maxHeartbeats 4000000 in
theorem rread_any (n i nd cd nw cw no co : Nat) (Ad Aw Ao : Option Addr) (left : Int) (done way : List (Nat × List UInt8)) (xo : List Value) (w : World) (hd : w.ownsRow 0 142 2 (.slice Ad nd cd) nd (encW done)) (hl : done.length = nd) (hn : nd ≤ 1048576)
    (hw : w.ownsRow 0 142 2 (.slice Aw nw cw) nw (encW way)) (hl2 : way.length = nw) (hn2 : nw ≤ 1048576) (ho : w.ownsRow 0 169 2 (.slice Ao no co) no xo) (hx : ∀ u ∈ xo, u.oneCell' = true) (hn3 : no ≤ 1048576) (hi : i < n) (hin : i ≤ 1048576) :
    Calls Tryz.prog 49 #[.agg #[.int .i64 (n : Int), .slice Ad nd cd, .slice Aw nw cw, .int .i64 left, .bool false, .slice Ao no co], .int .i64 (i : Int)] w fun e w' => ∃ Ao' co' xo', e = .returned (.tuple #[.agg #[.int .i64 (n : Int), .slice Ad nd cd, .slice Aw nw cw, .int .i64 left, .bool false, .slice Ao' (no + 1) co'], .string ⟨(readR done way i).toArray⟩, .int .i64 0]) ∧
      w'.ownsRow w.heap.size 169 2 (.slice Ao' (no + 1) co') (no + 1) xo' ∧ (∀ u ∈ xo', u.oneCell' = true) ∧ Below w.heap.size w w' := by
  obtain ⟨W0, hW0⟩ : ∃ W0 : World, W0 = (w.alloc (.cells #[.int .i64 (n : Int), .slice Ad nd cd, .slice Aw nw cw, .int .i64 left, .bool false, .slice Ao no co] 33)).alloc (.cells #[.int .i64 0, .slice none 0 0, .slice none 0 0, .int .i64 0, .bool false, .slice none 0 0] 33) := ⟨_, rfl⟩
  have y0 : Below w.heap.size w W0 := by rw [hW0]; exact ((Below.refl _ _).alloc (Nat.le_refl _) _).alloc (by simp) _
  have s0 : W0.heap.size = w.heap.size + 2 := by rw [hW0]; simp
  have k0 : Blk W0 w.heap.size 33 #[.int .i64 (n : Int), .slice Ad nd cd, .slice Aw nw cw, .int .i64 left, .bool false, .slice Ao no co] := by rw [hW0]; exact (Blk.new_of rfl rfl).alloc _
  have k1 : Blk W0 (w.heap.size + 1) 33 #[.int .i64 0, .slice none 0 0, .slice none 0 0, .int .i64 0, .bool false, .slice none 0 0] := by rw [hW0]; exact Blk.new_of (by simp) rfl
  have hd0 := own_keep hd fun k e => y0.block k (World.ownsRow.lt hd k e).2
  have hw0 := own_keep hw fun k e => y0.block k (World.ownsRow.lt hw k e).2
  have ho0 := own_keep ho fun k e => y0.block k (World.ownsRow.lt ho k e).2
  have hla := last_any Aw nw cw i way W0 hw0 hl2 hn2 hin
  have hat := refAtP_any n i nd cd nw cw no co Ad Aw Ao left done W0 hd0 hl hn hin
  have hnt := fun W h => noted_any (n : Int) left 1 (i : Int) Ad Aw Ao nd cd nw cw no co false xo W h hx hn3
  have e1 : ¬ (n : Int) ≤ (i : Int) := by omega
  have e2 : ¬ (i : Int) < 0 := by omega
  have HW0 := Lib.hid hW0
  have hlt0 : w.heap.size < W0.heap.size := by omega
  have hlt1 : w.heap.size + 1 < W0.heap.size := by omega
  clear hW0
  cases hlw : lastW way i with
  | some b =>
    have hrr : readR done way i = b := by unfold readR; rw [hlw]; rfl
    rw [hlw] at hla
    rw [hrr]
    go_enter Tryz.func49, Tryz.ntmps49
    go_wp2_with (first | (go_at_call 80; rw [← HW0.out]; (with_reducible refine hla.mono ?_); rintro e w1 ⟨rfl, rfl⟩; have j0 := k0.cell 0; have j1 := k0.cell 1; have j2 := k0.cell 2; have j3 := k0.cell 3; have j4 := k0.cell 4; have j5 := k0.cell 5) | ((with_reducible refine wpList_load_blk (o := ⟨some 33, _, _, _, _, _⟩) rfl 33 _ rfl w.heap.size rfl 33 _ _ k0 Tryz.underlying33 rfl (by kernel_rfl) ?_)) | (go_at_call 59; (with_reducible refine (hnt _ ho0).mono ?_); rintro e w5 ⟨A5, c5, x5, rfl, o5, ox5, b5⟩; have k15 := k1.below b5 hlt1; have y5 := y0.trans (b5.mono y0.size)) | ((with_reducible refine wpList_store_blk (o := ⟨none, .store 33 (.tmp 4) (.tmp 35), _, _, _, _⟩) rfl 33 (.tmp 4) (.tmp 35) rfl (w.heap.size + 1) #[.int .i64 (n : Int), .slice Ad nd cd, .slice Aw nw cw, .int .i64 left, .bool false, .slice A5 (no + 1) c5] rfl rfl 33 _ k15 (by kernel_rfl) (by simp) (by simp [Value.oneCell']) ?_); intro w6 k6 g6 s6))
    refine bodyPost_ret (results_row_tmp2 (fr := (0, 0)) rfl _ _ (w.heap.size + 1) 33 _ _ rfl k6 Tryz.underlying33 rfl (by kernel_rfl)) rfl ?_
    have lo5 := World.ownsRow.lt o5
    exact ⟨A5, c5, x5, rfl, ownsRow_lower (World.ownsRow.kept o5 g6 (.inr fun e => by have := (lo5 _ e).1; omega)) (by omega), ox5, y5.grown g6 y5.size (fun k e => by injection e with e; omega)⟩
  | none =>
    have hrr : readR done way i = (lastW done i).getD zeros192 := by unfold readR; rw [hlw]; rfl
    rw [hlw] at hla
    rw [hrr]
    generalize (lastW done i).getD zeros192 = b at *
    go_enter Tryz.func49, Tryz.ntmps49
    go_wp2_with (first | (go_at_call 80; rw [← HW0.out]; (with_reducible refine hla.mono ?_); rintro e w1 ⟨rfl, rfl⟩) | ((with_reducible refine wpList_load_blk (o := ⟨some 30, _, _, _, _, _⟩) rfl 33 _ rfl w.heap.size rfl 33 _ _ k0 Tryz.underlying33 rfl (by kernel_rfl) ?_)) | (go_at_call 81; (with_reducible refine hat.mono ?_); rintro e w2 ⟨rfl, b2⟩; have k02 := k0.below b2 hlt0; have k12 := k1.below b2 hlt1; have ho2 := own_keep ho0 fun k e => b2.block k (World.ownsRow.lt ho0 k e).2; have y2 := y0.trans (b2.mono y0.size); have s2 := b2.size) | ((with_reducible refine wpList_load_blk (o := ⟨some 33, _, _, _, _, _⟩) rfl 33 _ rfl w.heap.size rfl 33 _ _ k02 Tryz.underlying33 rfl (by kernel_rfl) ?_)) | (go_at_call 59; (with_reducible refine (hnt _ ho2).mono ?_); rintro e w5 ⟨A5, c5, x5, rfl, o5, ox5, b5⟩; have k15 := k12.below b5 k12.lt; have y5 := y2.trans (b5.mono y2.size)) | ((with_reducible refine wpList_store_blk (o := ⟨none, .store 33 (.tmp 4) (.tmp 35), _, _, _, _⟩) rfl 33 (.tmp 4) (.tmp 35) rfl (w.heap.size + 1) #[.int .i64 (n : Int), .slice Ad nd cd, .slice Aw nw cw, .int .i64 left, .bool false, .slice A5 (no + 1) c5] rfl rfl 33 _ k15 (by kernel_rfl) (by simp) (by simp [Value.oneCell']) ?_); intro w6 k6 g6 s6))
    refine bodyPost_ret (results_row_tmp2 (fr := (0, 0)) rfl _ _ (w.heap.size + 1) 33 _ _ rfl k6 Tryz.underlying33 rfl (by kernel_rfl)) rfl ?_
    have lo5 := World.ownsRow.lt o5
    exact ⟨A5, c5, x5, rfl, ownsRow_lower (World.ownsRow.kept o5 g6 (.inr fun e => by have := (lo5 _ e).1; omega)) (by omega), ox5, y5.grown g6 y5.size (fun k e => by injection e with e; omega)⟩
end Go.Proofs.YtkhebllmnagkmaaGreatDoor
