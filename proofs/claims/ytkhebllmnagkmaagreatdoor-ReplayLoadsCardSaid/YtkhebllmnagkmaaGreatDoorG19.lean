/- Contracts and lemmas under the statements of this seat, one behind the other. Conditions: what each names. -/
import Derived.Test.YtkhebllmnagkmaaGreatDoorG10
/- Contracts of the reference's SHA-256, its small parts: a word turned right, the table of the rounds. No condition beyond what each names. -/
namespace Go.Proofs.YtkhebllmnagkmaaGreatDoor
open Go.RowKit
set_option linter.unusedVariables false

set_option maxRecDepth 100000 in
theorem refRight_any (x n : Nat) (w : World) (hx : x < 4294967296) (h1 : 1 ≤ n) (h31 : n ≤ 31) :
    Calls Tryz.prog 115 #[.int .u32 (x : Int), .int .u64 (n : Int)] w fun e w' => e = .returned (.int .u32 (rotl x (32 - n) : Int)) ∧ w = w' := by
  have hsb : IntKind.u64.wrap (32 - (n : Int)) = 32 - (n : Int) := by rw [IntKind.wrap_u64]; omega
  have ht : (32 - (n : Int)).toNat = 32 - n := by omega
  have h0 : (0 : Int) ≤ 32 - (n : Int) := by omega
  go_enter Tryz.func115, Tryz.ntmps115
  go_wp2
  go_ret
  refine ⟨ret_int ?_, rfl⟩
  have e1 : (x : Int) * 2 ^ (32 - n) % 4294967296 = ((x * 2 ^ (32 - n) % 4294967296 : Nat) : Int) := by simp
  have e2 : (x : Int) / 2 ^ n = ((x / 2 ^ n : Nat) : Int) := by simp
  rw [e1, e2, u32_or_nat _ _ (Nat.lt_of_le_of_lt (Nat.div_le_self _ _) hx) (by omega), Nat.or_comm]
  unfold rotl
  rw [show 32 - (32 - n) = n by omega]
theorem refRight_int (x : Nat) (n : Int) (w : World) (hx : x < 4294967296) (h1 : 1 ≤ n) (h31 : n ≤ 31) :
    Calls Tryz.prog 115 #[.int .u32 (x : Int), .int .u64 n] w fun e w' => e = .returned (.int .u32 (rotl x (32 - n.toNat) : Int)) ∧ w = w' := by
  obtain ⟨m, rfl⟩ : ∃ m : Nat, n = (m : Int) := ⟨n.toNat, by omega⟩
  rw [Int.toNat_natCast]
  exact refRight_any x m w hx (by omega) (by omega)
theorem info154 : (Tryz.prog.info? 205).map (·.size) = some (fw 64 shaK).size := by rw [fw_size]; kernel_rfl
def roundVs : List (Nat × Value) := [(0, Value.int .u32 1116352408), (1, Value.int .u32 1899447441), (2, Value.int .u32 3049323471), (3, Value.int .u32 3921009573), (4, Value.int .u32 961987163), (5, Value.int .u32 1508970993), (6, Value.int .u32 2453635748), (7, Value.int .u32 2870763221), (8, Value.int .u32 3624381080), (9, Value.int .u32 310598401), (10, Value.int .u32 607225278), (11, Value.int .u32 1426881987), (12, Value.int .u32 1925078388), (13, Value.int .u32 2162078206), (14, Value.int .u32 2614888103), (15, Value.int .u32 3248222580), (16, Value.int .u32 3835390401), (17, Value.int .u32 4022224774), (18, Value.int .u32 264347078), (19, Value.int .u32 604807628), (20, Value.int .u32 770255983), (21, Value.int .u32 1249150122), (22, Value.int .u32 1555081692), (23, Value.int .u32 1996064986), (24, Value.int .u32 2554220882), (25, Value.int .u32 2821834349), (26, Value.int .u32 2952996808), (27, Value.int .u32 3210313671), (28, Value.int .u32 3336571891), (29, Value.int .u32 3584528711), (30, Value.int .u32 113926993), (31, Value.int .u32 338241895), (32, Value.int .u32 666307205), (33, Value.int .u32 773529912), (34, Value.int .u32 1294757372), (35, Value.int .u32 1396182291), (36, Value.int .u32 1695183700), (37, Value.int .u32 1986661051), (38, Value.int .u32 2177026350), (39, Value.int .u32 2456956037), (40, Value.int .u32 2730485921), (41, Value.int .u32 2820302411), (42, Value.int .u32 3259730800), (43, Value.int .u32 3345764771), (44, Value.int .u32 3516065817), (45, Value.int .u32 3600352804), (46, Value.int .u32 4094571909), (47, Value.int .u32 275423344), (48, Value.int .u32 430227734), (49, Value.int .u32 506948616), (50, Value.int .u32 659060556), (51, Value.int .u32 883997877), (52, Value.int .u32 958139571), (53, Value.int .u32 1322822218), (54, Value.int .u32 1537002063), (55, Value.int .u32 1747873779), (56, Value.int .u32 1955562222), (57, Value.int .u32 2024104815), (58, Value.int .u32 2227730452), (59, Value.int .u32 2361852424), (60, Value.int .u32 2428436474), (61, Value.int .u32 2756734187), (62, Value.int .u32 3204031479), (63, Value.int .u32 3329325298)]
def roundParts : List (Nat × Operand) := roundVs.map fun p => (p.1, .const p.2)
theorem built154 : Tryz.prog.built 205 roundVs = some (fw 64 shaK) := by kernel_rfl
set_option maxRecDepth 100000 in
set_option maxHeartbeats 2000000 in
theorem refRounds_any (w : World) : Calls Tryz.prog 116 #[] w fun e w' => e = .returned (.agg (fw 64 shaK)) ∧ Below w.heap.size w w' := by
  have hb := built154
  have hi := info154
  have h1 := fw_one 64 shaK
  have h0 : (fw 64 (fun _ => 0)).size = (fw 64 shaK).size := by rw [fw_size, fw_size]
  generalize fw 64 shaK = K at *
  go_enter Tryz.func116, Tryz.ntmps116
  iterate 11 go_step
  refine wpList_build_plain rfl 205 roundParts (by kernel_rfl) roundVs (by rfl) K hb ?_
  go_wp2_with (with_reducible refine wpList_store_blk (o := ⟨none, .store 205 (.tmp 0) (.tmp 1), _, _, _, _⟩) rfl 205 (.tmp 0) (.tmp 1) rfl w.heap.size K rfl rfl 205 (fw 64 (fun _ => 0)) (Blk.new_of rfl rfl) hi h0 h1 ?_; intro w6 k6 g6 s6; have S6 := Lib.hid s6; clear s6)
  simp only [Act.put]
  exact ret_cell 0 205 rfl rfl w.heap.size 205 _ _ rfl k6 Tryz.underlying205 rfl hi ⟨rfl, ((Below.refl _ _).alloc (Nat.le_refl _) _).grown g6 (by simp) (fun k e => by injection e with e; omega)⟩
end Go.Proofs.YtkhebllmnagkmaaGreatDoor
/- Contract of the reference's Put of a number's bytes. Conditions: what it names. -/
namespace Go.Proofs.YtkhebllmnagkmaaGreatDoor
open Go.RowKit
set_option linter.unusedVariables false

theorem putB_succ (x k : Nat) : putB x (k + 1) = putB x k ++ [UInt8.ofNat (x / 2 ^ (8 * k))] := by simp [putB, List.range_succ]
set_option maxRecDepth 100000 in
set_option maxHeartbeats 2000000 in
theorem ref01Put_any (x n : Nat) (w : World) (hx : x < 18446744073709551616) (hn : n ≤ 8) :
    Calls Tryz.prog 70 #[.int .u64 (x : Int), .int .i64 (n : Int)] w fun e w' => ∃ A c, e = .returned (.slice A n c) ∧ w'.ownsRow w.heap.size 5 1 (.slice A n c) n (bs (putB x n)) ∧ Below w.heap.size w w' := by
  obtain ⟨i0, ii0, hz0, hz1, hz2⟩ := info_parts info5
  have h8 : ¬ (8 : Int) < (n : Int) := by omega
  go_enter Tryz.func70, Tryz.ntmps70
  go_wp2
  go_loopw [0, 5, 6] (fun vx vo ix wr => ∃ (k : Nat) (A : Option Addr) (c y : Nat), k ≤ n ∧ ix = .int .i64 k ∧ y = x / 2 ^ (8 * k) ∧ vx = .int .u64 (y : Int) ∧ vo = .slice A k c ∧ wr.ownsRow w.heap.size 5 1 (.slice A k c) k (bs (putB x k)) ∧ Below w.heap.size w wr) (fun _ _ ix _ => n - (intOf ix).toNat)
  case atStart => exact ⟨0, none, 0, x, by omega, rfl, by simp, rfl, rfl, World.ownsRow_nil _ _ _ _, Below.refl _ _⟩
  case round =>
    obtain ⟨k, A, c, y, hk, rfl, hy, rfl, rfl, hor, hw⟩ := hrel
    by_cases hlt : k < n
    · have hyl : y < 18446744073709551616 := by rw [hy]; exact Nat.lt_of_le_of_lt (Nat.div_le_self _ _) hx
      have hbnd : ∀ bk, (Value.slice A k c).ownBlock = some bk → w.heap.size ≤ bk ∧ bk < wr.heap.size := World.ownsRow.lt hor
      have hnews := Blk.rows (xs := [Value.int .u8 ((y : Int) % 256)]) 1 1 (Blk.new wr 5 #[Value.int .u8 ((y : Int) % 256)]) rfl
      have hwr := hw.size
      have hbase : w.heap.size ≤ (wr.alloc (.cells #[Value.int .u8 ((y : Int) % 256)] 5)).heap.size := by rw [size_alloc']; omega
      have hone : ∀ u ∈ [Value.int .u8 ((y : Int) % 256)], u.oneCell' = true := by intro u hu; simp only [List.mem_cons, List.not_mem_nil, or_false] at hu; rcases hu with rfl; rfl
      have hm1 : k + 1 ≤ maxLen := by unfold maxLen; omega
      have hm2 : (k + 1) * 1 ≤ 140737488355328 := by omega
      have HY := Lib.hid hy
      clear hy
      go_wp2_with (at_builtin; refine wpList_append_any _ rfl (.tmp 15) (.tmp 19) 55 rfl w.heap.size 5 i0 _ 1 1 Tryz.underlying55 ii0 hz0 hz1 hz2 rfl (by omega) (.slice A k c) k (bs (putB x k)) rfl (World.ownsRow.alloc hor _) _ (some ⟨wr.heap.size, 0, none⟩) 1 1 [_] rfl hnews hone hm1 hm2 hbase ?_; intro v9 w9 hown9 hg9 hat9; obtain ⟨A9, cc9, rfl⟩ := own_shape hown9)
      go_roundw
      case rel =>
        have hy := HY.out
        have e1 : y / 256 = x / 2 ^ (8 * (k + 1)) := by rw [hy, Nat.div_div_eq_div_mul, show 8 * (k + 1) = 8 * k + 8 by omega, Nat.pow_add]
        have e2 : bs (putB x k) ++ [Value.int .u8 ((y : Int) % 256)] = bs (putB x (k + 1)) := by
          rw [putB_succ, bs_append, ← hy]
          simp [bs]
        refine ⟨k + 1, A9, cc9, y / 256, by omega, by go_num, e1, by simp, rfl, by rw [← e2]; exact hown9, (hw.alloc (by omega) _).grown hg9 hbase (fun bk e => (hbnd bk e).1)⟩
      case measure => simp [intOf]; omega
    · have hkk : k = n := by omega
      have hps : n ≤ k := by omega
      clear hy hlt hk
      subst hkk
      go_wp2
      go_ret
      exact ⟨A, c, rfl, hor, hw⟩
end Go.Proofs.YtkhebllmnagkmaaGreatDoor
