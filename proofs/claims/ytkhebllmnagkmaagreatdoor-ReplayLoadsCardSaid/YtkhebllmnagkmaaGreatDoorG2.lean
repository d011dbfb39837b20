/- Contracts and lemmas under the statements of this seat, one behind the other. Conditions: what each names. -/
import Derived.Test.YtkhebllmnagkmaaGreatDoorG1
import Derived.Laws.BitsAllLaws
import Derived.StillTailTactics
/- Contracts of the package digest (SHA-256): RotateLeft32, right, first, words, mixed, Of, Pieces. Conditions: what each names; the table of the rounds lies in memory as the program's text lays it. -/
namespace Go.Proofs.YtkhebllmnagkmaaGreatDoor
open Go.RowKit
set_option linter.unusedVariables false

theorem ret_int {k : IntKind} {a b : Int} (h : a = b) : Ending.returned (.int k a) = .returned (.int k b) := by rw [h]
/-! ### the tables at package level -/
def shaKs : List Nat := [1116352408, 1899447441, 3049323471, 3921009573, 961987163, 1508970993, 2453635748, 2870763221, 3624381080, 310598401, 607225278, 1426881987, 1925078388, 2162078206, 2614888103, 3248222580, 3835390401, 4022224774, 264347078, 604807628, 770255983, 1249150122, 1555081692, 1996064986, 2554220882, 2821834349, 2952996808, 3210313671, 3336571891, 3584528711, 113926993, 338241895, 666307205, 773529912, 1294757372, 1396182291, 1695183700, 1986661051, 2177026350, 2456956037, 2730485921, 2820302411, 3259730800, 3345764771, 3516065817, 3600352804, 4094571909, 275423344, 430227734, 506948616, 659060556, 883997877, 958139571, 1322822218, 1537002063, 1747873779, 1955562222, 2024104815, 2227730452, 2361852424, 2428436474, 2756734187, 3204031479, 3329325298]
def shaK (i : Nat) : Nat := shaKs.getD i 0
def quarterTab : List Nat := [0, 4, 8, 12, 1, 5, 9, 13, 2, 6, 10, 14, 3, 7, 11, 15, 0, 5, 10, 15, 1, 6, 11, 12, 2, 7, 8, 13, 3, 4, 9, 14]
/-- The tables of the packages digest and cipher lie in memory as the program's text lays them. -/
structure Tabs (w : World) : Prop where
  k : ∀ i, i < 64 → w.cell? ⟨1, i, none⟩ = some (.int .u32 (shaK i : Int))
  q : ∀ i, i < 32 → w.cell? ⟨0, i, none⟩ = some (.int .i64 (quarterTab.getD i 0 : Int))
  size : 1 + 0 < w.heap.size
theorem Tabs.below {w w' : World} {B : Nat} (h : Tabs w) (hb : Below B w w') (hB : 1 + 0 < B) : Tabs w' :=
  ⟨fun i hi => (hb.cell (p := ⟨1, i, none⟩) (by show 1 < B; omega)).trans (h.k i hi), fun i hi => (hb.cell (p := ⟨0, i, none⟩) (by show 0 < B; omega)).trans (h.q i hi), Nat.lt_of_lt_of_le h.size hb.size⟩
theorem Tabs.under {w w' : World} (h : Tabs w) (hb : Below w.heap.size w w') : Tabs w' := h.below hb h.size
theorem shaK_lt (i : Nat) : shaK i < 4294967296 := by
  have h : ∀ x ∈ shaKs, x < 4294967296 := by decide
  unfold shaK
  rw [List.getD_eq_getElem?_getD]
  by_cases hi : i < shaKs.length
  · rw [List.getElem?_eq_getElem hi]; exact h _ (List.getElem_mem hi)
  · rw [List.getElem?_eq_none (by omega)]; exact Nat.zero_lt_of_ne_zero (by omega)

/-! ### words of 32 bits -/
def rotl (x : Nat) (s : Nat) : Nat := (x * 2 ^ s) % 4294967296 ||| x / 2 ^ (32 - s)
theorem rotl_lt (x s : Nat) (hx : x < 4294967296) (hs : s ≤ 32) : rotl x s < 4294967296 := by
  unfold rotl
  refine Nat.or_lt_two_pow (n := 32) (by omega) ?_
  exact Nat.lt_of_le_of_lt (Nat.div_le_self _ _) hx
set_option maxRecDepth 100000 in
theorem rotate_any (x : Nat) (k : Int) (s : Nat) (w : World) (hx : x < 4294967296) (hk : -32 ≤ k) (hk2 : k ≤ 32) (hs : k % 32 = s) (h1 : 1 ≤ s) (h31 : s ≤ 31) :
    Calls Tryz.prog 112 #[.int .u32 (x : Int), .int .i64 k] w fun e w' => e = .returned (.int .u32 (rotl x s : Int)) ∧ w = w' := by
  have hand : bits .and .u64 (IntKind.u64.wrap k) 31 = (s : Int) := by
    rw [IntKind.wrap_u64, u64_and _ _ (by omega) (by omega) (by omega) (by omega), show ((31 : Int)).toNat = 31 from rfl, nat_mask5]
    omega
  have HS := Lib.hid hs
  clear hs
  go_enter Tryz.func112, Tryz.ntmps112
  go_wp2
  go_ret
  refine ⟨ret_int ?_, rfl⟩
  have e1 : (x : Int) * 2 ^ s % 4294967296 = ((x * 2 ^ s % 4294967296 : Nat) : Int) := by simp
  have e2 : (x : Int) / 2 ^ (32 - s) = ((x / 2 ^ (32 - s) : Nat) : Int) := by simp
  rw [e1, e2, u32_or_nat _ _ (by omega) (Nat.lt_of_le_of_lt (Nat.div_le_self _ _) hx)]
  rfl
/-- A word turned to the right. -/
theorem right_any (x n : Nat) (w : World) (hx : x < 4294967296) (h1 : 1 ≤ n) (h31 : n ≤ 31) :
    Calls Tryz.prog 118 #[.int .u32 (x : Int), .int .i64 (n : Int)] w fun e w' => e = .returned (.int .u32 (rotl x (32 - n) : Int)) ∧ w = w' := by
  go_enter Tryz.func118, Tryz.ntmps118
  go_wp2_with (go_at_call 112; refine (rotate_any x _ (32 - n) _ hx (by omega) (by omega) (by omega) (by omega) (by omega)).mono ?_; rintro e w' ⟨rfl, rfl⟩)
  go_ret
  exact ⟨rfl, rfl⟩

theorem right_int (x : Nat) (n : Int) (w : World) (hx : x < 4294967296) (h1 : 1 ≤ n) (h31 : n ≤ 31) :
    Calls Tryz.prog 118 #[.int .u32 (x : Int), .int .i64 n] w fun e w' => e = .returned (.int .u32 (rotl x (32 - n.toNat) : Int)) ∧ w = w' := by
  obtain ⟨m, rfl⟩ : ∃ m : Nat, n = (m : Int) := ⟨n.toNat, by omega⟩
  rw [Int.toNat_natCast]
  exact right_any x m w hx (by omega) (by omega)

/-! ### the state at first -/
def ws32 (l : List Nat) : List Value := l.map fun (x : Nat) => Value.int .u32 (x : Int)
def sha0 : List Nat := [1779033703, 3144134277, 1013904242, 2773480762, 1359893119, 2600822924, 528734635, 1541459225]
set_option maxRecDepth 100000 in
theorem first_any (w : World) : Calls Tryz.prog 93 #[] w fun e w' => e = .returned (.agg (ws32 sha0).toArray) ∧ Below w.heap.size w w' := by
  go_enter Tryz.func93, Tryz.ntmps93
  go_wp2
  refine ret_cell 0 181 rfl rfl w.heap.size 181 _ _ rfl (Blk.new w _ _) Tryz.underlying181 rfl (by kernel_rfl) ⟨?_, (Below.refl _ _).alloc (Nat.le_refl _) _⟩
  simp [ws32, sha0]
/-! ### the words of 64 bytes -/
/-- A row of n words told by a function. -/
def fw (n : Nat) (f : Nat → Nat) : Array Value := ((List.range n).map fun i => Value.int .u32 (f i : Int)).toArray
theorem fw_size (n : Nat) (f : Nat → Nat) : (fw n f).size = n := by simp [fw]
theorem fw_get (n : Nat) (f : Nat → Nat) (i : Nat) (h : i < n) : (fw n f)[i]? = some (.int .u32 (f i : Int)) := by simp [fw, h]
theorem fw_set (n : Nat) (f : Nat → Nat) (k x : Nat) : (fw n f).setIfInBounds k (.int .u32 (x : Int)) = fw n (fun i => if i = k then x else f i) := by
  apply Array.ext_getElem?
  intro i
  simp only [fw, List.setIfInBounds_toArray, List.getElem?_toArray, List.getElem?_set, List.length_map, List.length_range, List.getElem?_map]
  by_cases h : i < n
  · by_cases hk : k = i
    · subst hk; simp [h]
    · rw [if_neg hk]; simp [h, Ne.symm hk]
  · by_cases hk : k = i
    · subst hk; simp [h]
    · rw [if_neg hk]; simp [h]
theorem fw_congr {n : Nat} {f g : Nat → Nat} (h : ∀ i, i < n → f i = g i) : fw n f = fw n g := by
  unfold fw
  congr 1
  apply List.map_congr_left
  intro i hi
  rw [h i (List.mem_range.1 hi)]
/-- Bytes as a number, the highest first. -/
def be (l : List UInt8) : Nat := l.foldl (fun a b => a * 256 + b.toNat) 0
theorem be_snoc (l : List UInt8) (b : UInt8) : be (l ++ [b]) = be l * 256 + b.toNat := by simp [be]
theorem be_go (l : List UInt8) : ∀ a : Nat, l.foldl (fun a b => a * 256 + b.toNat) a < (a + 1) * 256 ^ l.length := by
  induction l with
  | nil => intro a; simp
  | cons b l ih =>
    intro a
    have := b.toNat_lt
    have h1 := ih (a * 256 + b.toNat)
    have h2 : (a * 256 + b.toNat + 1) * 256 ^ l.length ≤ ((a + 1) * 256) * 256 ^ l.length := Nat.mul_le_mul_right _ (by omega)
    rw [List.foldl_cons, List.length_cons, Nat.pow_succ, Nat.mul_comm (256 ^ l.length) 256, ← Nat.mul_assoc]
    omega
theorem be_lt (l : List UInt8) : be l < 256 ^ l.length := by
  have := be_go l 0
  simpa [be] using this
def chunk4 (l : List UInt8) (t : Nat) : List UInt8 := (l.drop (4 * t)).take 4
def wfirst (l : List UInt8) (t : Nat) : Nat → Nat := fun i => if i < t then be (chunk4 l i) else 0
def wpart (l : List UInt8) (t j : Nat) : Nat → Nat := fun i => if i < t then be (chunk4 l i) else if i = t then be ((chunk4 l t).take j) else 0
def sig0 (x : Nat) : Nat := (rotl x (32 - 7) ^^^ rotl x (32 - 18)) ^^^ (x / 8)
def sig1 (x : Nat) : Nat := (rotl x (32 - 17) ^^^ rotl x (32 - 19)) ^^^ (x / 1024)
theorem sig0_eq (x : Nat) (hx : x < 4294967296) : bits .xor .u32 (bits .xor .u32 (rotl x 25 : Int) (rotl x 14 : Int)) ((x : Int) / 8) = (sig0 x : Int) := by
  have h1 := rotl_lt x 25 hx (by omega)
  have h2 := rotl_lt x 14 hx (by omega)
  rw [u32_xor_nat _ _ h1 h2, show (x : Int) / 8 = ((x / 8 : Nat) : Int) by simp, u32_xor_nat _ _ (Nat.xor_lt_two_pow (n := 32) h1 h2) (by omega)]
  rfl
theorem sig1_eq (x : Nat) (hx : x < 4294967296) : bits .xor .u32 (bits .xor .u32 (rotl x 15 : Int) (rotl x 13 : Int)) ((x : Int) / 1024) = (sig1 x : Int) := by
  have h1 := rotl_lt x 15 hx (by omega)
  have h2 := rotl_lt x 13 hx (by omega)
  rw [u32_xor_nat _ _ h1 h2, show (x : Int) / 1024 = ((x / 1024 : Nat) : Int) by simp, u32_xor_nat _ _ (Nat.xor_lt_two_pow (n := 32) h1 h2) (by omega)]
  rfl
/-- The next word. -/
def shaNext (ws : List Nat) : Nat := (ws.getD (ws.length - 16) 0 + sig0 (ws.getD (ws.length - 15) 0) + ws.getD (ws.length - 7) 0 + sig1 (ws.getD (ws.length - 2) 0)) % 4294967296
def shaW (l : List UInt8) : Nat → List Nat
  | 0 => (List.range 16).map fun i => be (chunk4 l i)
  | m + 1 => shaW l m ++ [shaNext (shaW l m)]
/-- The 64 words, as the cells of an array. -/
@[irreducible] def shaWord (l : List UInt8) (q : Nat) : Nat := (shaW l 48).getD q 0
def shaWords (l : List UInt8) : Array Value := fw 64 (shaWord l)
theorem shaWords_size (l : List UInt8) : (shaWords l).size = 64 := fw_size _ _
theorem fw_one (n : Nat) (f : Nat → Nat) : (fw n f).all (·.oneCell') = true := by
  rw [Array.all_eq_true_iff_forall_mem]
  intro x hx
  simp only [fw, List.mem_toArray, List.mem_map] at hx
  obtain ⟨i, _, rfl⟩ := hx
  rfl
theorem shaWords_one (l : List UInt8) : (shaWords l).all (·.oneCell') = true := fw_one _ _
theorem shaW_length (l : List UInt8) (m : Nat) : (shaW l m).length = 16 + m := by
  induction m with
  | zero => simp [shaW]
  | succ m ih => simp [shaW, ih]; omega
theorem shaNext_lt (ws : List Nat) : shaNext ws < 4294967296 := by
  unfold shaNext
  exact Nat.mod_lt _ (by omega)
theorem be4_lt (l : List UInt8) (h : l.length ≤ 4) : be l < 4294967296 := by
  have h1 := be_lt l
  have h3 : 256 ^ l.length ≤ 256 ^ 4 := Nat.pow_le_pow_right (by omega) h
  have h4 : (256 : Nat) ^ 4 = 4294967296 := by decide
  omega
theorem shaW_lt (l : List UInt8) (m q : Nat) : (shaW l m).getD q 0 < 4294967296 := by
  induction m with
  | zero =>
    by_cases h : q < 16
    · have h2 : (chunk4 l q).length ≤ 4 := by unfold chunk4; rw [List.length_take]; omega
      rw [shaW, List.getD_eq_getElem?_getD, List.getElem?_map, List.getElem?_range h]
      exact be4_lt _ h2
    · rw [shaW, List.getD_eq_getElem?_getD, List.getElem?_eq_none (by simp; omega)]
      exact Nat.zero_lt_of_ne_zero (by omega)
  | succ m ih =>
    have hl := shaW_length l m
    rw [shaW, List.getD_eq_getElem?_getD, List.getElem?_append]
    by_cases h : q < (shaW l m).length
    · rw [if_pos h, ← List.getD_eq_getElem?_getD]; exact ih
    · rw [if_neg h]
      by_cases h2 : q - (shaW l m).length = 0
      · rw [h2, List.getElem?_cons_zero, Option.getD_some]; exact shaNext_lt _
      · rw [List.getElem?_eq_none (by simp; omega)]; simp
theorem shaWord_lt (l : List UInt8) (q : Nat) : shaWord l q < 4294967296 := by
  unfold shaWord
  exact shaW_lt l 48 q
theorem shaW_next (l : List UInt8) (i : Nat) (hi : 16 ≤ i) : (fw 64 fun q => (shaW l (i - 16)).getD q 0).setIfInBounds i (.int .u32 (shaNext (shaW l (i - 16)) : Int)) = fw 64 fun q => (shaW l (i + 1 - 16)).getD q 0 := by
  rw [fw_set, show i + 1 - 16 = (i - 16) + 1 by omega]
  refine fw_congr fun q _ => ?_
  have hl := shaW_length l (i - 16)
  rw [shaW, List.getD_eq_getElem?_getD, List.getD_eq_getElem?_getD, List.getElem?_append]
  by_cases h : q = i
  · rw [if_pos h, if_neg (by omega), hl, show q - (16 + (i - 16)) = 0 by omega, List.getElem?_cons_zero, Option.getD_some]
  · rw [if_neg h]
    by_cases h2 : q < (shaW l (i - 16)).length
    · rw [if_pos h2]
    · rw [if_neg h2, List.getElem?_eq_none (by omega), List.getElem?_eq_none (by simp; omega)]
theorem chunk4_succ (l : List UInt8) (t j : Nat) (h : 4 * t + j < l.length) (hj : j < 4) : (chunk4 l t).take (j + 1) = (chunk4 l t).take j ++ [l[4 * t + j]] := by
  unfold chunk4
  rw [List.take_take, List.take_take, Nat.min_eq_left (by omega), Nat.min_eq_left (by omega), List.take_succ_eq_append_getElem (by rw [List.length_drop]; omega), List.getElem_drop]
theorem wpart_step (l : List UInt8) (t j : Nat) (h : 4 * t + j < l.length) (ht : t < 16) (hj : j < 4) :
    (fw 64 (wpart l t j)).setIfInBounds t (.int .u32 ((wpart l t j t * 256 + (l[4 * t + j]).toNat : Nat) : Int)) = fw 64 (wpart l t (j + 1)) := by
  rw [fw_set]
  refine fw_congr fun i _ => ?_
  unfold wpart
  by_cases hi : i = t
  · subst hi
    simp only [if_pos, Nat.lt_irrefl, if_false]
    rw [chunk4_succ l i j h hj, be_snoc]
  · simp [hi]
theorem wpart_lt (l : List UInt8) (t j : Nat) (hj : j < 4) : wpart l t j t < 16777216 := by
  unfold wpart
  simp only [Nat.lt_irrefl, if_false, if_pos]
  have h := be_lt ((chunk4 l t).take j)
  have h2 : ((chunk4 l t).take j).length ≤ 3 := by rw [List.length_take]; omega
  have h3 : 256 ^ ((chunk4 l t).take j).length ≤ 256 ^ 3 := Nat.pow_le_pow_right (by omega) h2
  omega
set_option maxRecDepth 100000 in
set_option maxHeartbeats 1000000 in
theorem words_any (A : Option Addr) (c : Nat) (l : List UInt8) (w : World) (hl : l.length = 64) (hc : 64 ≤ c) (hr : Reads w w.heap.size 1 A 64 (bs l)) :
    Calls Tryz.prog 117 #[.slice A 64 c] w fun e w' => e = .returned (.agg (shaWords l)) ∧ Below w.heap.size w w' := by
  obtain ⟨ad, rfl, hb, hcell⟩ := hr.2 (by omega)
  go_enter Tryz.func117, Tryz.ntmps117
  go_wp2
  go_loopw [10] (fun ix wr => ∃ t : Nat, t ≤ 16 ∧ ix = .int .i64 t ∧ Blk wr (w.heap.size + 1) 205 (fw 64 (wfirst l t)) ∧ Blk wr w.heap.size 205 (fw 64 (wfirst l 0)) ∧ Below w.heap.size w wr) (fun ix _ => 16 - (intOf ix).toNat)
  case atStart => exact ⟨0, by omega, rfl, heap_alloc2_new w _ _, heap_alloc2_old w _ _, ((Below.refl _ _).alloc (Nat.le_refl _) _).alloc (by simp) _⟩
  case round =>
    obtain ⟨t, ht, rfl, hb1, hb0, hbw⟩ := hrel
    by_cases hlt : t < 16
    · go_wp2
      obtain ⟨wo, rfl⟩ : ∃ wo : World, wo = wr := ⟨_, rfl⟩
      go_loopw [21] (fun jx wi => ∃ j : Nat, j ≤ 4 ∧ jx = .int .i64 j ∧ Blk wi (w.heap.size + 1) 205 (fw 64 (wpart l t j)) ∧ Blk wi w.heap.size 205 (fw 64 (wfirst l 0)) ∧ Below w.heap.size w wi) (fun jx _ => 4 - (intOf jx).toNat)
      case atStart => exact ⟨0, by omega, rfl, by rw [show fw 64 (wpart l t 0) = fw 64 (wfirst l t) from fw_congr (fun i _ => by unfold wpart wfirst; by_cases h1 : i < t <;> simp [h1, be])]; exact hb1, hb0, hbw⟩
      case round =>
        obtain ⟨j, hj, rfl, hi1, hi0, hiw⟩ := hrel
        by_cases hjl : j < 4
        · have hcx := (hiw.cell (p := ad.add (4 * t + j)) (by rw [block_of_add]; exact hb)).trans (hcell (4 * t + j) (.int .u8 ((l[4 * t + j]'(by omega)).toNat : Int)) (by rw [bs_get, List.getElem?_eq_getElem (by omega)]; rfl))
          rw [← add_of_add] at hcx
          have hc1 := (hi1.cell t).trans (fw_get 64 _ t (by omega))
          have hf1 := hi1.frozen t
          have hst := wpart_step l t j (by omega) hlt hjl
          have hbl := wpart_lt l t j hjl
          have HS := Lib.hid hst
          clear hst
          generalize wpart l t j t = x at *
          have hb8 := (l[4 * t + j]'(by omega)).toNat_lt
          generalize (l[4 * t + j]'(by omega)).toNat = b at *
          go_wp2
          go_roundw
          case rel =>
            refine ⟨j + 1, by omega, by go_num, ?_, hi0.far (p := ⟨w.heap.size + 1, t, none⟩) (by simp) _, hiw.setCell (by simp) _⟩
            have h := hi1.set_ t (.int .u32 ((x * 256 + b : Nat) : Int))
            rw [HS.out] at h
            have e : bits .or .u32 ((x : Int) * 256) (b : Int) = ((x * 256 + b : Nat) : Int) := by
              rw [show (x : Int) * 256 = ((x * 256 : Nat) : Int) by simp, u32_or_nat _ _ (by omega) (by omega), nat_join 8 (x * 256) b (by omega) (by omega)]
            rw [e]
            exact h
          case measure => simp [intOf]; omega
        · obtain rfl : j = 4 := by omega
          go_wp2
          go_roundw
          case rel =>
            refine ⟨t + 1, by omega, by go_num, ?_, hi0, hiw⟩
            rw [show fw 64 (wfirst l (t + 1)) = fw 64 (wpart l t 4) from fw_congr (fun i _ => by
              unfold wpart wfirst
              by_cases h1 : i < t
              · rw [if_pos (by omega), if_pos h1]
              · by_cases h2 : i = t
                · subst h2; rw [if_pos (by omega), if_neg h1, if_pos rfl, List.take_of_length_le (by unfold chunk4; rw [List.length_take]; omega)]
                · rw [if_neg (by omega), if_neg h1, if_neg h2])]
            exact hi1
          case measure => simp [intOf]; omega
    · have e16 : t = 16 := by omega
      rw [e16] at hb1
      clear e16
      rw [show fw 64 (wfirst l 16) = fw 64 (fun i => (shaW l 0).getD i 0) from fw_congr (fun i hi => by simp [wfirst, shaW, List.getD]; by_cases h : i < 16 <;> simp [h])] at hb1
      obtain ⟨wo, rfl⟩ : ∃ wo : World, wo = wr := ⟨_, rfl⟩
      go_wp2
      go_loopw [7] (fun ix wi => ∃ i : Nat, 16 ≤ i ∧ i ≤ 64 ∧ ix = .int .i64 i ∧ Blk wi (w.heap.size + 1) 205 (fw 64 fun q => (shaW l (i - 16)).getD q 0) ∧ Blk wi w.heap.size 205 (fw 64 (wfirst l 0)) ∧ Below w.heap.size w wi) (fun ix _ => 64 - (intOf ix).toNat)
      case atStart => exact ⟨16, by omega, by omega, rfl, hb1, hb0, hbw⟩
      case round =>
        obtain ⟨i, hi16, hi64, rfl, hi1, hi0, hiw⟩ := hrel
        by_cases hml : i < 64
        · have hx15 : wr.cell? ⟨w.heap.size + 1, i - 15, none⟩ = _ := (hi1.cell (i - 15)).trans (fw_get 64 _ (i - 15) (by omega))
          have hx2 : wr.cell? ⟨w.heap.size + 1, i - 2, none⟩ = _ := (hi1.cell (i - 2)).trans (fw_get 64 _ (i - 2) (by omega))
          have hx16 : wr.cell? ⟨w.heap.size + 1, i - 16, none⟩ = _ := (hi1.cell (i - 16)).trans (fw_get 64 _ (i - 16) (by omega))
          have hx7 : wr.cell? ⟨w.heap.size + 1, i - 7, none⟩ = _ := (hi1.cell (i - 7)).trans (fw_get 64 _ (i - 7) (by omega))
          have hxi : wr.cell? ⟨w.heap.size + 1, i, none⟩ = _ := (hi1.cell i).trans (fw_get 64 _ i (by omega))
          have hfi := hi1.frozen i
          have hlt : ∀ q, (shaW l (i - 16)).getD q 0 < 4294967296 := shaW_lt l (i - 16)
          have l15 := hlt (i - 15)
          have l2 := hlt (i - 2)
          have l16 := hlt (i - 16)
          have l7 := hlt (i - 7)
          have hnx := shaW_next l i hi16
          rw [show shaNext (shaW l (i - 16)) = ((shaW l (i - 16)).getD (i - 16) 0 + sig0 ((shaW l (i - 16)).getD (i - 15) 0) + (shaW l (i - 16)).getD (i - 7) 0 + sig1 ((shaW l (i - 16)).getD (i - 2) 0)) % 4294967296 by unfold shaNext; rw [shaW_length, show 16 + (i - 16) = i by omega]] at hnx
          have HN := Lib.hid hnx
          clear hnx hlt
          generalize (shaW l (i - 16)).getD (i - 15) 0 = a15 at *
          generalize (shaW l (i - 16)).getD (i - 2) 0 = a2 at *
          generalize (shaW l (i - 16)).getD (i - 16) 0 = a16 at *
          generalize (shaW l (i - 16)).getD (i - 7) 0 = a7 at *
          have t15 : ((i : Int) - 15).toNat = i - 15 := by omega
          have t2 : ((i : Int) - 2).toNat = i - 2 := by omega
          have t16 : ((i : Int) - 16).toNat = i - 16 := by omega
          have t7 : ((i : Int) - 7).toNat = i - 7 := by omega
          go_wp2
          go_quiet (fail)
          go_wp2
          obtain ⟨w1, hw1⟩ : ∃ w1 : World, w1 = (wr.drewN nq).drew := ⟨_, rfl⟩
          have y16 : w1.cell? ⟨w.heap.size + 1, i - 16, none⟩ = some (.int .u32 (a16 : Int)) := by rw [hw1]; exact hx16
          have y7 : w1.cell? ⟨w.heap.size + 1, i - 7, none⟩ = some (.int .u32 (a7 : Int)) := by rw [hw1]; exact hx7
          have yi1 : Blk w1 (w.heap.size + 1) 205 (fw 64 fun q => (shaW l (i - 16)).getD q 0) := by rw [hw1]; exact hi1
          have yi0 : Blk w1 w.heap.size 205 (fw 64 (wfirst l 0)) := by rw [hw1]; exact hi0
          have yiw : Below w.heap.size w w1 := by rw [hw1]; exact (below_drewN hiw nq).drew
          have HW := Lib.hid hw1
          refine wp_region_still_tail 29 (by kernel_rfl) (by kernel_rfl) ?_
          simp only [List.take_succ_cons, List.take_zero, List.drop_succ_cons, List.drop_zero]
          change wpStill _ _ (wr.drewN nq).drew _ _ _
          rw [← hw1]
          clear hw1 hx15 hx2 hx16 hx7 hxi hfi
          have s16 : IntKind.i64.wrap ((i : Int) - 16) = (i : Int) - 16 := IntWalk.i64_in _ (by omega)
          have s7 : IntKind.i64.wrap ((i : Int) - 7) = (i : Int) - 7 := IntWalk.i64_in _ (by omega)
          have b16 : (16 : Int) ≤ (i : Int) := by omega
          have b7 : (7 : Int) ≤ (i : Int) := by omega
          have c16 : (i : Int) - 16 < 64 := by omega
          have c7 : (i : Int) - 7 < 64 := by omega
          have ci : (i : Int) < 64 := by omega
          have ti : ((i : Int)).toNat = i := by omega
          repeat still_step
          still_call ((right_any a15 7 w1 l15 (by omega) (by omega)).mono fun _ _ h => ⟨h.1, h.2.symm⟩)
          repeat still_step
          still_call ((right_any a15 18 w1 l15 (by omega) (by omega)).mono fun _ _ h => ⟨h.1, h.2.symm⟩)
          repeat still_step
          still_call ((right_any a2 17 w1 l2 (by omega) (by omega)).mono fun _ _ h => ⟨h.1, h.2.symm⟩)
          repeat still_step
          still_call ((right_any a2 19 w1 l2 (by omega) (by omega)).mono fun _ _ h => ⟨h.1, h.2.symm⟩)
          repeat still_step
          refine wpStill_nil ?_
          change wpList _ _ _ _ _ (wr.drewN nq).drew
          rw [← HW.out]
          clear s16 s7 b16 b7 c16 c7 ci ti y16 y7
          have zfi : w1.frozen? ⟨w.heap.size + 1, i, none⟩ = false := yi1.frozen i
          have zci : w1.cell? ⟨w.heap.size + 1, i, none⟩ = _ := (yi1.cell i).trans (fw_get 64 _ i (by omega))
          go_wp2
          go_roundw
          case rel =>
            refine ⟨i + 1, by omega, by omega, by go_num, ?_, yi0.far (p := ⟨w.heap.size + 1, i, none⟩) (by simp) _, yiw.setCell (by simp) _⟩
            have h := yi1.set_ i (.int .u32 (((a16 + sig0 a15 + a7 + sig1 a2) % 4294967296 : Nat) : Int))
            rw [HN.out] at h
            rw [sig0_eq a15 l15, sig1_eq a2 l2]
            simpa using h
          case measure => simp [intOf]; omega
        · have e64 : i = 64 := by omega
          rw [e64] at hi1
          have hi1' : Blk wr (w.heap.size + 1) 205 (shaWords l) := by
            rw [show shaWords l = fw 64 (fun q => (shaW l (64 - 16)).getD q 0) from fw_congr (fun q _ => by unfold shaWord; rfl)]
            exact hi1
          clear hi1 e64
          go_wp2_with (first | ((with_reducible refine wpList_load_blk (o := ⟨some 77, _, _, _, _, _⟩) rfl 205 _ rfl (w.heap.size + 1) rfl 205 _ _ hi1' Tryz.underlying205 rfl (by rw [shaWords_size]; kernel_rfl) ?_)) | ((with_reducible refine wpList_store_blk rfl 205 (.tmp 2) (.tmp 77) rfl w.heap.size _ rfl rfl 205 _ hi0 (by rw [shaWords_size]; kernel_rfl) (by rw [shaWords_size, fw_size]) (shaWords_one l) ?b3)))
          case b3 =>
            intro w2 h2 hg2 hs2
            have hw2 := hiw.trans (below_grown (B := w.heap.size) hg2 (Nat.le_refl _) hiw.size)
            go_wp2
            exact ret_cell 2 205 rfl rfl w.heap.size 205 _ _ rfl h2 Tryz.underlying205 rfl (by rw [shaWords_size]; kernel_rfl) ⟨rfl, hw2⟩
end Go.Proofs.YtkhebllmnagkmaaGreatDoor
/- Contracts of the package digest (SHA-256): a state behind 64 bytes. Conditions: the table of the rounds lies in memory as the program's text lays it. -/
namespace Go.Proofs.YtkhebllmnagkmaaGreatDoor
open Go.RowKit
set_option linter.unusedVariables false

structure Sha where
  (a b c d e f g h : Nat)
def Sha.t1 (s : Sha) (k w : Nat) : Nat := (s.h + ((rotl s.e 26 ^^^ rotl s.e 21) ^^^ rotl s.e 7) + ((s.e &&& s.f) ^^^ ((4294967295 ^^^ s.e) &&& s.g)) + k + w) % 4294967296
def Sha.t2 (s : Sha) : Nat := (((rotl s.a 30 ^^^ rotl s.a 19) ^^^ rotl s.a 10) + (((s.a &&& s.b) ^^^ (s.a &&& s.c)) ^^^ (s.b &&& s.c))) % 4294967296
def Sha.step (s : Sha) (k w : Nat) : Sha := ⟨(s.t1 k w + s.t2) % 4294967296, s.a, s.b, s.c, (s.d + s.t1 k w) % 4294967296, s.e, s.f, s.g⟩
def Sha.ok (s : Sha) : Prop := s.a < 4294967296 ∧ s.b < 4294967296 ∧ s.c < 4294967296 ∧ s.d < 4294967296 ∧ s.e < 4294967296 ∧ s.f < 4294967296 ∧ s.g < 4294967296 ∧ s.h < 4294967296
def Sha.list (s : Sha) : List Nat := [s.a, s.b, s.c, s.d, s.e, s.f, s.g, s.h]

theorem ret_v {k : IntKind} {a b : Int} (h : a = b) : Value.int k a = .int k b := by rw [h]
theorem x32 (a b : Nat) (ha : a < 4294967296) (hb : b < 4294967296) : a ^^^ b < 4294967296 := Nat.xor_lt_two_pow (n := 32) ha hb
theorem a32 (a b : Nat) (ha : a < 4294967296) : a &&& b < 4294967296 := Nat.lt_of_le_of_lt Nat.and_le_left ha
theorem sha_t1 (s : Sha) (kt wt : Nat) (hs : s.ok) :
    (((((s.h : Int) + bits .xor .u32 (bits .xor .u32 (rotl s.e 26 : Int) (rotl s.e 21 : Int)) (rotl s.e 7 : Int)) % 4294967296 + bits .xor .u32 (bits .and .u32 (s.e : Int) (s.f : Int)) (bits .and .u32 (bits .xor .u32 (if IntKind.u32.signed = true then -1 else IntKind.u32.max) (s.e : Int)) (s.g : Int))) % 4294967296 + (kt : Int)) % 4294967296 + (wt : Int)) % 4294967296 = (s.t1 kt wt : Int) := by
  obtain ⟨la, lb, lc, ld, le, lf, lg, lh⟩ := hs
  have r1 := rotl_lt s.e 26 le (by omega)
  have r2 := rotl_lt s.e 21 le (by omega)
  have r3 := rotl_lt s.e 7 le (by omega)
  have hm : (if IntKind.u32.signed = true then (-1 : Int) else IntKind.u32.max) = ((4294967295 : Nat) : Int) := by decide
  rw [hm, u32_xor_nat _ _ r1 r2, u32_xor_nat _ _ (x32 _ _ r1 r2) r3, u32_and_nat _ _ le lf, u32_xor_nat _ _ (by omega) le, u32_and_nat _ _ (x32 _ _ (by omega) le) lg, u32_xor_nat _ _ (a32 _ _ le) (a32 _ _ (x32 _ _ (by omega) le))]
  unfold Sha.t1
  generalize (rotl s.e 26 ^^^ rotl s.e 21) ^^^ rotl s.e 7 = X
  generalize (s.e &&& s.f) ^^^ ((4294967295 ^^^ s.e) &&& s.g) = Y
  omega
theorem sha_t2 (s : Sha) (hs : s.ok) :
    (bits .xor .u32 (bits .xor .u32 (rotl s.a 30 : Int) (rotl s.a 19 : Int)) (rotl s.a 10 : Int) + bits .xor .u32 (bits .xor .u32 (bits .and .u32 (s.a : Int) (s.b : Int)) (bits .and .u32 (s.a : Int) (s.c : Int))) (bits .and .u32 (s.b : Int) (s.c : Int))) % 4294967296 = (s.t2 : Int) := by
  obtain ⟨la, lb, lc, ld, le, lf, lg, lh⟩ := hs
  have r1 := rotl_lt s.a 30 la (by omega)
  have r2 := rotl_lt s.a 19 la (by omega)
  have r3 := rotl_lt s.a 10 la (by omega)
  rw [u32_xor_nat _ _ r1 r2, u32_xor_nat _ _ (x32 _ _ r1 r2) r3, u32_and_nat _ _ la lb, u32_and_nat _ _ la lc, u32_and_nat _ _ lb lc, u32_xor_nat _ _ (a32 _ _ la) (a32 _ _ la), u32_xor_nat _ _ (x32 _ _ (a32 _ _ la) (a32 _ _ la)) (a32 _ _ lb)]
  unfold Sha.t2
  generalize (rotl s.a 30 ^^^ rotl s.a 19) ^^^ rotl s.a 10 = X
  generalize ((s.a &&& s.b) ^^^ (s.a &&& s.c)) ^^^ (s.b &&& s.c) = Y
  omega
theorem step_ok (s : Sha) (k w : Nat) (hs : s.ok) : (s.step k w).ok := by
  obtain ⟨la, lb, lc, ld, le, lf, lg, lh⟩ := hs
  exact ⟨Nat.mod_lt _ (by omega), la, lb, lc, Nat.mod_lt _ (by omega), le, lf, lg⟩
def shaRounds (l : List UInt8) (s : Sha) : Nat → Sha
  | 0 => s
  | t + 1 => (shaRounds l s t).step (shaK t) (shaWord l t)
/-- The first i words of s and u added, the others s's. -/
def shaAdd (s u : Sha) (i : Nat) : Nat → Nat := fun q => if q < i then (s.list.getD q 0 + u.list.getD q 0) % 4294967296 else s.list.getD q 0
theorem shaAdd_step (s u : Sha) (i : Nat) : (fw 8 (shaAdd s u i)).setIfInBounds i (.int .u32 ((shaAdd s u i i + u.list.getD i 0) % 4294967296 : Nat)) = fw 8 (shaAdd s u (i + 1)) := by
  rw [fw_set]
  refine fw_congr fun q _ => ?_
  unfold shaAdd
  by_cases h : q = i
  · subst h; rw [if_pos rfl, if_neg (Nat.lt_irrefl _), if_pos (by omega)]
  · rw [if_neg h]
    by_cases h2 : q < i
    · rw [if_pos h2, if_pos (by omega)]
    · rw [if_neg h2, if_neg (by omega)]
/-- A state behind 64 bytes. -/
def shaMix (l : List UInt8) (s : Sha) : Sha :=
  let u := shaRounds l s 64
  ⟨(s.a + u.a) % 4294967296, (s.b + u.b) % 4294967296, (s.c + u.c) % 4294967296, (s.d + u.d) % 4294967296, (s.e + u.e) % 4294967296, (s.f + u.f) % 4294967296, (s.g + u.g) % 4294967296, (s.h + u.h) % 4294967296⟩
theorem ws32_one (l : List Nat) : (ws32 l).toArray.all (·.oneCell') = true := by
  rw [Array.all_eq_true_iff_forall_mem]
  intro x hx
  simp only [ws32, List.mem_toArray, List.mem_map] at hx
  obtain ⟨i, _, rfl⟩ := hx
  rfl
theorem sha_fin (l : List UInt8) (s : Sha) : fw 8 (shaAdd s (shaRounds l s 64) 8) = (ws32 (shaMix l s).list).toArray := by
  unfold shaMix
  generalize shaRounds l s 64 = u
  obtain ⟨a, b, c, d, e, f, g, h⟩ := s
  obtain ⟨ua, ub, uc, ud, ue, uf, ug, uh⟩ := u
  rfl
set_option maxRecDepth 100000 in
set_option maxHeartbeats 1000000 in
theorem mixed_any (s : Sha) (A : Option Addr) (c : Nat) (l : List UInt8) (w : World) (hs : s.ok) (hl : l.length = 64) (hc : 64 ≤ c) (hr : Reads w w.heap.size 1 A 64 (bs l))
    (hT : Tabs w) : Calls Tryz.prog 94 #[.agg (ws32 s.list).toArray, .slice A 64 c] w fun e w' => e = .returned (.agg (ws32 (shaMix l s).list).toArray) ∧ Below w.heap.size w w' := by
  generalize hfin : (ws32 (shaMix l s).list).toArray = fin
  have HF := Lib.hid hfin
  clear hfin
  obtain ⟨a, b, cc, d, e, f, g, h⟩ := s
  simp only [ws32, Sha.list, List.map_cons, List.map_nil]
  go_enter Tryz.func94, Tryz.ntmps94
  go_wp2
  generalize hW : (w.alloc (Obj.cells #[Value.int .u32 (a : Int), .int .u32 (b : Int), .int .u32 (cc : Int), .int .u32 (d : Int), .int .u32 (e : Int), .int .u32 (f : Int), .int .u32 (g : Int), .int .u32 (h : Int)] 181)).alloc (Obj.cells #[Value.int .u32 0, .int .u32 0, .int .u32 0, .int .u32 0, .int .u32 0, .int .u32 0, .int .u32 0, .int .u32 0] 181) = W
  have hB0 : Blk W w.heap.size 181 #[Value.int .u32 (a : Int), .int .u32 (b : Int), .int .u32 (cc : Int), .int .u32 (d : Int), .int .u32 (e : Int), .int .u32 (f : Int), .int .u32 (g : Int), .int .u32 (h : Int)] := by rw [← hW]; exact heap_alloc2_old w _ _
  have hB1 : Blk W (w.heap.size + 1) 181 #[Value.int .u32 0, .int .u32 0, .int .u32 0, .int .u32 0, .int .u32 0, .int .u32 0, .int .u32 0, .int .u32 0] := by rw [← hW]; exact heap_alloc2_new w _ _
  have hbW : Below w.heap.size w W := by rw [← hW]; exact ((Below.refl _ _).alloc (Nat.le_refl _) _).alloc (by simp) _
  have hsW : w.heap.size + 2 ≤ W.heap.size := by rw [← hW]; simp
  clear hW
  have c0 := hB0.cell 0
  have c1 := hB0.cell 1
  have c2 := hB0.cell 2
  have c3 := hB0.cell 3
  have c4 := hB0.cell 4
  have c5 := hB0.cell 5
  have c6 := hB0.cell 6
  have c7 := hB0.cell 7
  go_quiet (fail)
  clear c0 c1 c2 c3 c4 c5 c6 c7
  go_wp2_with (go_at_call 117; refine (words_any A c l _ hl hc ((hr.below (below_drewN hbW _)).more (by simp; omega))).mono ?_; rintro e w1 ⟨rfl, hb1⟩)
  have hb1' := below_of_drewN (B := W.heap.size) (w := W) (by simpa using hb1)
  clear hb1
  have hz0 : Blk w1 w.heap.size 181 _ := hB0.below hb1' (by omega)
  have hz1 : Blk w1 (w.heap.size + 1) 181 _ := hB1.below hb1' (by omega)
  have hw1 : Below w.heap.size w w1 := hbW.trans (hb1'.mono (by omega))
  clear hb1' hsW hbW hB0 hB1
  have hix : ∀ (W : World) (i : Nat), i < 64 → (Instr.index 205 (.agg (shaWords l)) (.int .i64 (i : Int))).run Tryz.prog W = .ok (.int .u32 ((shaWord l i : Nat) : Int)) W := fun W i hi =>
    run_index_arr W 205 59 64 (shaWords l) .i64 i _ Tryz.underlying205 hi (by kernel_rfl) (by kernel_rfl) (fw_get 64 _ i hi)
  generalize shaWords l = sw at *
  go_loopw [5, 6, 7, 8, 9, 10, 11, 12, 37] (fun va vb vc vd ve vf vg vh ix wr => ∃ t : Nat, t ≤ 64 ∧ ix = .int .i64 t ∧ ∃ sa sb sc sd se sf sg sh : Nat, (⟨sa, sb, sc, sd, se, sf, sg, sh⟩ : Sha) = shaRounds l ⟨a, b, cc, d, e, f, g, h⟩ t ∧ (⟨sa, sb, sc, sd, se, sf, sg, sh⟩ : Sha).ok ∧ va = .int .u32 (sa : Int) ∧ vb = .int .u32 (sb : Int) ∧ vc = .int .u32 (sc : Int) ∧ vd = .int .u32 (sd : Int) ∧ ve = .int .u32 (se : Int) ∧ vf = .int .u32 (sf : Int) ∧ vg = .int .u32 (sg : Int) ∧ vh = .int .u32 (sh : Int) ∧
      Blk wr w.heap.size 181 #[Value.int .u32 (a : Int), .int .u32 (b : Int), .int .u32 (cc : Int), .int .u32 (d : Int), .int .u32 (e : Int), .int .u32 (f : Int), .int .u32 (g : Int), .int .u32 (h : Int)] ∧
      Blk wr (w.heap.size + 1) 181 #[Value.int .u32 0, .int .u32 0, .int .u32 0, .int .u32 0, .int .u32 0, .int .u32 0, .int .u32 0, .int .u32 0] ∧ Below w.heap.size w wr) (fun _ _ _ _ _ _ _ _ ix _ => 64 - (intOf ix).toNat)
  case atStart => exact ⟨0, by omega, rfl, a, b, cc, d, e, f, g, h, rfl, hs, rfl, rfl, rfl, rfl, rfl, rfl, rfl, rfl, hz0, hz1, hw1⟩
  case round =>
    obtain ⟨t, ht, rfl, sa, sb, sc, sd, se, sf, sg, sh, hsr, hsok, rfl, rfl, rfl, rfl, rfl, rfl, rfl, rfl, hr0, hr1, hrw⟩ := hrel
    have HSR := Lib.hid hsr
    clear hsr
    obtain ⟨la, lb, lc, ld, le, lf, lg, lh⟩ := hsok
    simp only at la lb lc ld le lf lg lh
    by_cases hlt : t < 64
    · have hi1 : ∀ W : World, (Instr.index 205 (.agg sw) (.int .i64 (t : Int))).run Tryz.prog W = .ok (.int .u32 ((shaWord l t : Nat) : Int)) W := fun W => hix W t hlt
      have HIX := Lib.hid hix
      clear hix
      have hkt : wr.cell? ⟨1, t, none⟩ = some (.int .u32 (shaK t : Int)) := (hrw.cell (p := ⟨1, t, none⟩) (by have := hT.size; show 1 < _; omega)).trans (hT.k t hlt)
      have lk := shaK_lt t
      have lw := shaWord_lt l t
      generalize hwt : shaWord l t = wt at *
      have HWT := Lib.hid hwt
      clear hwt
      generalize hkk : shaK t = kt at *
      have HKT := Lib.hid hkk
      clear hkk
      go_wp2
      obtain ⟨w2, hw2⟩ : ∃ w2 : World, w2 = wr.drew := ⟨_, rfl⟩
      have zk : w2.cell? ⟨1, t, none⟩ = some (.int .u32 (kt : Int)) := by rw [hw2]; exact hkt
      have z0 := hr0.drew
      have z1 := hr1.drew
      have zw := hrw.drew
      rw [← hw2] at z0 z1 zw
      refine wp_region_still_lit (by kernel_rfl) (by kernel_rfl) ?_
      change wpStill _ _ wr.drew _ _ _
      rw [← hw2]
      have HW2 := Lib.hid hw2
      clear hw2 hkt hr0 hr1 hrw hz0 hz1
      have ct : (t : Int) < 64 := by omega
      have tt : ((t : Int)).toNat = t := by omega
      repeat still_step
      still_call ((right_int se 6 w2 le (by omega) (by omega)).mono fun _ _ h => ⟨h.1, h.2.symm⟩)
      repeat still_step
      still_call ((right_int se 11 w2 le (by omega) (by omega)).mono fun _ _ h => ⟨h.1, h.2.symm⟩)
      repeat still_step
      still_call ((right_int se 25 w2 le (by omega) (by omega)).mono fun _ _ h => ⟨h.1, h.2.symm⟩)
      repeat still_step
      refine wpStill_nil ?_
      change Exit.then _ _ _ _ wr.drew
      rw [← HW2.out]
      clear ct tt zk
      go_wp2_with (go_at_call 118; refine (right_int _ _ _ (by assumption) (by omega) (by omega)).mono ?_; rintro e w' ⟨rfl, rfl⟩)
      have e1 := sha_t1 ⟨sa, sb, sc, sd, se, sf, sg, sh⟩ kt wt ⟨la, lb, lc, ld, le, lf, lg, lh⟩
      have e2 := sha_t2 ⟨sa, sb, sc, sd, se, sf, sg, sh⟩ ⟨la, lb, lc, ld, le, lf, lg, lh⟩
      have e3 := step_ok ⟨sa, sb, sc, sd, se, sf, sg, sh⟩ kt wt ⟨la, lb, lc, ld, le, lf, lg, lh⟩
      simp only at e1 e2
      rw [e1, e2]
      go_roundw
      case rel =>
        refine ⟨t + 1, by omega, by go_num, _, _, _, _, _, _, _, _, ?_, e3, ret_v (by simp), rfl, rfl, rfl, ret_v (by simp), rfl, rfl, rfl, z0, z1, zw⟩
        rw [shaRounds, ← HSR.out, ← HWT.out, ← HKT.out]
        rfl
      case measure => simp [intOf]; omega
    · have e64 : t = 64 := by omega
      rw [e64] at HSR
      clear e64
      have hr0' : Blk wr w.heap.size 181 (fw 8 (shaAdd ⟨a, b, cc, d, e, f, g, h⟩ ⟨sa, sb, sc, sd, se, sf, sg, sh⟩ 0)) := hr0
      clear hr0 hz0 hz1
      go_wp2
      have hjx : ∀ (W : World) (i : Nat), i < 8 → (Instr.index 179 (.agg #[Value.int .u32 (sa : Int), .int .u32 (sb : Int), .int .u32 (sc : Int), .int .u32 (sd : Int), .int .u32 (se : Int), .int .u32 (sf : Int), .int .u32 (sg : Int), .int .u32 (sh : Int)]) (.int .i64 (i : Int))).run Tryz.prog W = .ok (.int .u32 ((Sha.list ⟨sa, sb, sc, sd, se, sf, sg, sh⟩).getD i 0 : Nat)) W := fun W i hi =>
        run_index_arr W 179 59 8 _ .i64 i _ Tryz.underlying179 hi (by kernel_rfl) (by kernel_rfl) (fw_get 8 (fun i => (Sha.list ⟨sa, sb, sc, sd, se, sf, sg, sh⟩).getD i 0) i hi)
      go_loopw [108] (fun ix wi => ∃ i : Nat, i ≤ 8 ∧ ix = .int .i64 i ∧ Blk wi w.heap.size 181 (fw 8 (shaAdd ⟨a, b, cc, d, e, f, g, h⟩ ⟨sa, sb, sc, sd, se, sf, sg, sh⟩ i)) ∧
        Blk wi (w.heap.size + 1) 181 #[Value.int .u32 0, .int .u32 0, .int .u32 0, .int .u32 0, .int .u32 0, .int .u32 0, .int .u32 0, .int .u32 0] ∧ Below w.heap.size w wi) (fun ix _ => 8 - (intOf ix).toNat)
      case atStart => exact ⟨0, by omega, rfl, hr0', hr1, hrw⟩
      case round =>
        clear hr0' hr1 hrw
        obtain ⟨i, hi, rfl, hi0, hi1, hiw⟩ := hrel
        by_cases hil : i < 8
        · have hj1 : ∀ W : World, (Instr.index 179 (.agg #[Value.int .u32 (sa : Int), .int .u32 (sb : Int), .int .u32 (sc : Int), .int .u32 (sd : Int), .int .u32 (se : Int), .int .u32 (sf : Int), .int .u32 (sg : Int), .int .u32 (sh : Int)]) (.int .i64 (i : Int))).run Tryz.prog W = .ok (.int .u32 ((Sha.list ⟨sa, sb, sc, sd, se, sf, sg, sh⟩).getD i 0 : Nat)) W := fun W => hjx W i hil
          have HJX := Lib.hid hjx
          clear hjx
          have hc1 := (hi0.cell i).trans (fw_get 8 _ i hil)
          have hf1 := hi0.frozen i
          have hst := shaAdd_step ⟨a, b, cc, d, e, f, g, h⟩ ⟨sa, sb, sc, sd, se, sf, sg, sh⟩ i
          have HST := Lib.hid hst
          clear hst
          generalize (Sha.list ⟨sa, sb, sc, sd, se, sf, sg, sh⟩).getD i 0 = y at *
          generalize shaAdd ⟨a, b, cc, d, e, f, g, h⟩ ⟨sa, sb, sc, sd, se, sf, sg, sh⟩ i i = x at *
          go_wp2
          go_roundw
          case rel =>
            refine ⟨i + 1, by omega, by go_num, ?_, hi1.far (p := ⟨w.heap.size, i, none⟩) (by simp) _, hiw.setCell (Nat.le_refl _) _⟩
            have h := hi0.set_ i (.int .u32 (((x + y) % 4294967296 : Nat) : Int))
            rw [HST.out] at h
            simpa using h
          case measure => simp [intOf]; omega
        · have e8 : i = 8 := by omega
          rw [e8, HSR.out, sha_fin, HF.out] at hi0
          have z1 : fin.size = 8 := by rw [← HF.out]; rfl
          have z2 : fin.all (·.oneCell') = true := by rw [← HF.out]; exact ws32_one _
          have z3 : (#[Value.int .u32 0, .int .u32 0, .int .u32 0, .int .u32 0, .int .u32 0, .int .u32 0, .int .u32 0, .int .u32 0] : Array Value).size = fin.size := by rw [z1]; rfl
          clear hjx e8 HF HSR hix
          go_wp2_with (first | ((with_reducible refine wpList_load_blk (o := ⟨some 119, _, _, _, _, _⟩) rfl 181 _ rfl w.heap.size rfl 181 _ _ hi0 Tryz.underlying181 rfl (by rw [z1]; kernel_rfl) ?_)) | ((with_reducible refine wpList_store_blk rfl 181 (.tmp 4) (.tmp 119) rfl (w.heap.size + 1) _ rfl rfl 181 _ hi1 (by rw [z1]; kernel_rfl) z3 z2 ?b3)))
          case b3 =>
            intro w2 h2 hg2 hs2
            have hw2 := hiw.trans (below_grown (B := w.heap.size) hg2 (by omega) hiw.size)
            go_wp2
            exact ret_cell 4 181 rfl rfl (w.heap.size + 1) 181 _ _ rfl h2 Tryz.underlying181 rfl (by rw [z1]; kernel_rfl) ⟨rfl, hw2⟩
end Go.Proofs.YtkhebllmnagkmaaGreatDoor
