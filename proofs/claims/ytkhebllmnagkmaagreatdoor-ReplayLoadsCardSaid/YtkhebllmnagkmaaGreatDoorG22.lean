/- Contracts and lemmas under the statements of this seat, one behind the other. Conditions: what each names. -/
import Derived.Test.YtkhebllmnagkmaaGreatDoorG6
/- Contracts of the references' Get of a number's bytes, and of the small parts of ChaCha20: left, at, quarter. Conditions: what each names. -/
namespace Go.Proofs.YtkhebllmnagkmaaGreatDoor
open Go.RowKit
set_option linter.unusedVariables false

theorem pow256 (k : Nat) : (256 : Nat) ^ k = 2 ^ (8 * k) := by rw [show (256 : Nat) = 2 ^ 8 from rfl, ← Nat.pow_mul]
theorem part_snoc (l : List UInt8) (i k : Nat) (h : i + k < l.length) : (l.drop i).take (k + 1) = (l.drop i).take k ++ [l[i + k]] := by
  rw [List.take_succ_eq_append_getElem (by rw [List.length_drop]; omega), List.getElem_drop]
theorem getB_part (l : List UInt8) (i k : Nat) (h : i + k < l.length) : getB ((l.drop i).take (k + 1)) = getB ((l.drop i).take k) + (l[i + k]).toNat * 256 ^ k := by
  rw [part_snoc l i k h, getB_snoc, List.length_take, List.length_drop, Nat.min_eq_left (by omega), pow256]
theorem getB_part_lt (l : List UInt8) (i k : Nat) : getB ((l.drop i).take k) < 256 ^ k := by
  have h := getB_lt ((l.drop i).take k)
  have h2 : ((l.drop i).take k).length ≤ k := by rw [List.length_take]; omega
  exact Nat.lt_of_lt_of_le h (Nat.pow_le_pow_right (by omega) h2)
set_option maxRecDepth 100000 in
set_option maxHeartbeats 2000000 in
theorem refGet_any (A : Option Addr) (len c i n : Nat) (l : List UInt8) (w : World) (hr : Reads w w.heap.size 1 A len (bs l)) (h1 : 1 ≤ n) (h8 : n ≤ 8) (hi : i + n ≤ len) (hl : len ≤ 1099511627776) :
    Calls Tryz.prog 82 #[.slice A len c, .int .i64 (i : Int), .int .i64 (n : Int)] w fun e w' => e = .returned (.tuple #[.int .u64 (getB ((l.drop i).take n) : Int), .int .i64 0]) ∧ w = w' := by
  have hll : l.length = len := by have := hr.1; rw [bs_length] at this; omega
  obtain ⟨ad, rfl, hb, hcell⟩ := hr.2 (by omega)
  have sp : ad.spot = none := by
    have h0 := hcell 0 _ (List.getElem?_eq_getElem (by rw [bs_length]; omega))
    simpa [Addr.add] using World.cell?_spot h0
  obtain ⟨g, o, s⟩ := ad
  simp only at sp
  subst sp
  have g1 : ¬ (n : Int) < 1 := by omega
  have g2 : ¬ 8 < (n : Int) := by omega
  have g3 : ¬ (i : Int) < 0 := by omega
  have g4 : ¬ (len : Int) < (i : Int) := by omega
  have g5 : ¬ (len : Int) - (i : Int) < (n : Int) := by omega
  have HL := Lib.hid hll
  clear hll
  go_enter Tryz.func82, Tryz.ntmps82
  go_wp2
  go_loop [8, 9, 10] (fun vx vm ix => ∃ (k x m : Nat), k ≤ n ∧ ix = .int .i64 k ∧ x = getB ((l.drop i).take k) ∧ x < 18446744073709551616 ∧ vx = .int .u64 (x : Int) ∧ vm = .int .u64 (m : Int) ∧ (k < n → m = 256 ^ k) ∧ m < 18446744073709551616) (fun _ _ ix => n - (intOf ix).toNat)
  case atStart => exact ⟨0, 0, 1, by omega, rfl, rfl, by omega, rfl, rfl, fun _ => rfl, by omega⟩
  case round =>
    obtain ⟨k, x, m, hk, rfl, hx, hx64, rfl, rfl, hm, hm64⟩ := hrel
    by_cases hlt : k < n
    · have hll := HL.out
      have hik : i + k < l.length := by omega
      have hst := getB_part l i k hik
      have hlt2 := getB_part_lt l i (k + 1)
      have hxl := getB_part_lt l i k
      have hcx := hcell (i + k) (.int .u8 ((l[i + k]).toNat : Int)) (by rw [bs_get, List.getElem?_eq_getElem hik]; rfl)
      rw [Addr.add_mid] at hcx
      have hbl := (l[i + k]).toNat_lt
      have h256 : (256 : Nat) ^ (k + 1) ≤ 256 ^ 8 := Nat.pow_le_pow_right (by omega) (by omega)
      have h8' : (256 : Nat) ^ 8 = 18446744073709551616 := by decide
      have hmk := hm hlt
      generalize (l[i + k]).toNat = b at *
      have hbm : b * m < 18446744073709551616 := by
        rw [hmk]
        have : b * 256 ^ k ≤ getB ((l.drop i).take k) + b * 256 ^ k := Nat.le_add_left _ _
        omega
      have hsum : x + b * m < 18446744073709551616 := by
        rw [hx, hmk]
        omega
      have hst' : getB ((l.drop i).take (k + 1)) = x + b * m := by rw [hst, hx, hmk]
      have hnm : k + 1 < n → (m * 256) % 18446744073709551616 = 256 ^ (k + 1) := fun h => by
        rw [hmk, ← Nat.pow_succ]
        refine Nat.mod_eq_of_lt ?_
        have : (256 : Nat) ^ (k + 1) ≤ 256 ^ 7 := Nat.pow_le_pow_right (by omega) (by omega)
        have h7 : (256 : Nat) ^ 7 = 72057594037927936 := by decide
        omega
      have i1 : IntKind.u64.wrap ((b : Int) * (m : Int)) = ((b * m : Nat) : Int) := by
        rw [IntKind.wrap_u64, ← Int.natCast_mul]
        omega
      have i2 : IntKind.u64.wrap ((x : Int) + ((b * m : Nat) : Int)) = ((x + b * m : Nat) : Int) := by
        rw [IntKind.wrap_u64]
        omega
      have j1 : IntKind.i64.wrap ((i : Int) + (k : Int)) = (i : Int) + (k : Int) := IntWalk.i64_in _ (by omega)
      have j2 : ((i : Int) + (k : Int)).toNat = i + k := by omega
      have HST := Lib.hid hst'
      have HNM := Lib.hid hnm
      have HSUM := Lib.hid hsum
      have HBM := Lib.hid hbm
      have hbm2 : b * m < 18446744073709551616 := hbm
      clear hst hlt2 hxl h256 h8' hmk hst' hnm hsum hm hx hbm hbm2
      obtain ⟨y, hy⟩ : ∃ y, y = b * m := ⟨_, rfl⟩
      rw [← hy] at i1 i2
      have HY := Lib.hid hy
      clear hy
      go_wp2
      go_round
      case rel =>
        refine ⟨k + 1, x + y, m * 256 % 18446744073709551616, by omega, by go_num, by rw [HST.out, HY.out], by rw [HY.out]; exact HSUM.out, by simp, ?_, fun h => HNM.out h, Nat.mod_lt _ (by omega)⟩
        rw [IntKind.wrap_u64]
        simp
      case measure => simp [intOf]; omega
    · have e : k = n := by omega
      rw [e] at hx
      have HX := Lib.hid hx
      have hge : ¬ (k : Int) < (n : Int) := by omega
      clear hx e hm hm64
      go_wp2
      go_ret2
      exact ⟨by rw [HX.out]; rfl, rfl⟩
set_option maxRecDepth 100000 in
theorem refLeft_any (x n : Nat) (w : World) (hx : x < 4294967296) (h1 : 1 ≤ n) (h31 : n ≤ 31) :
    Calls Tryz.prog 127 #[.int .u32 (x : Int), .int .u64 (n : Int)] w fun e w' => e = .returned (.int .u32 (rotl x n : Int)) ∧ w = w' := by
  have hsb : IntKind.u64.wrap (32 - (n : Int)) = 32 - (n : Int) := by rw [IntKind.wrap_u64]; omega
  have ht : (32 - (n : Int)).toNat = 32 - n := by omega
  have h0 : (0 : Int) ≤ 32 - (n : Int) := by omega
  go_enter Tryz.func127, Tryz.ntmps127
  go_wp2
  go_ret
  refine ⟨ret_int ?_, rfl⟩
  have e1 : (x : Int) * 2 ^ n % 4294967296 = ((x * 2 ^ n % 4294967296 : Nat) : Int) := by simp
  have e2 : (x : Int) / 2 ^ (32 - n) = ((x / 2 ^ (32 - n) : Nat) : Int) := by simp
  rw [e1, e2, u32_or_nat _ _ (by omega) (Nat.lt_of_le_of_lt (Nat.div_le_self _ _) hx)]
  rfl
theorem refLeft_int (x : Nat) (n : Int) (w : World) (hx : x < 4294967296) (h1 : 1 ≤ n) (h31 : n ≤ 31) :
    Calls Tryz.prog 127 #[.int .u32 (x : Int), .int .u64 n] w fun e w' => e = .returned (.int .u32 (rotl x n.toNat : Int)) ∧ w = w' := by
  obtain ⟨m, rfl⟩ : ∃ m : Nat, n = (m : Int) := ⟨n.toNat, by omega⟩
  rw [Int.toNat_natCast]
  exact refLeft_any x m w hx (by omega) (by omega)
set_option maxRecDepth 100000 in
theorem refAt_any (A : Option Addr) (len c i : Nat) (l : List UInt8) (w : World) (hr : Reads w w.heap.size 1 A len (bs l)) (hi : 4 * i + 4 ≤ len) (hl : len ≤ 1099511627776) :
    Calls Tryz.prog 113 #[.slice A len c, .int .i64 (4 * (i : Int))] w fun e w' => e = .returned (.int .u32 (getB (chunk4 l i) : Int)) ∧ w = w' := by
  have hlt := chunk4_lt l i
  have hx : (l.drop (4 * i)).take 4 = chunk4 l i := rfl
  have hget := refGet_any A len c (4 * i) 4 l w hr (by omega) (by omega) (by omega) hl
  rw [hx, show ((4 : Nat) : Int) = 4 from rfl, show ((4 * i : Nat) : Int) = 4 * (i : Int) from by simp] at hget
  generalize getB (chunk4 l i) = x at *
  clear hx hr
  go_enter Tryz.func113, Tryz.ntmps113
  go_wp2_with (go_at_call 82; refine hget.mono ?_; rintro e w' ⟨rfl, rfl⟩)
  go_ret
  exact ⟨rfl, rfl⟩
def qAdd (f : Nat → Nat) (a b : Nat) : Nat → Nat := upd f a ((f a + f b) % 4294967296)
def qXor (f : Nat → Nat) (d a n : Nat) : Nat → Nat := upd f d (rotl (f d ^^^ f a) n)
theorem qAdd_lt {f : Nat → Nat} (hf : ∀ i, f i < 4294967296) (a b : Nat) : ∀ i, qAdd f a b i < 4294967296 := fun i => by
  unfold qAdd upd
  split
  · exact Nat.mod_lt _ (by omega)
  · exact hf i
theorem qXor_lt {f : Nat → Nat} (hf : ∀ i, f i < 4294967296) (d a n : Nat) (hn : n ≤ 32) : ∀ i, qXor f d a n i < 4294967296 := fun i => by
  unfold qXor upd
  split
  · exact rotl_lt _ _ (Nat.xor_lt_two_pow (n := 32) (hf d) (hf a)) hn
  · exact hf i
theorem chaAdd_q (f : Nat → Nat) (a b d n : Nat) (h : a ≠ d) : chaAdd f a b d n = qXor (qAdd f a b) d a n := by
  unfold chaAdd qXor qAdd
  have e1 : upd f a ((f a + f b) % 4294967296) d = f d := by unfold upd; rw [if_neg (Ne.symm h)]
  have e2 : upd f a ((f a + f b) % 4294967296) a = (f a + f b) % 4294967296 := by unfold upd; rw [if_pos rfl]
  rw [e1, e2]
set_option maxRecDepth 100000 in
set_option maxHeartbeats 4000000 in
theorem refQuarter_any (a b c d : Nat) (f : Nat → Nat) (w : World) (hf : ∀ i, f i < 4294967296) (ha : a < 16) (hb : b < 16) (hc : c < 16) (hd : d < 16) (had : a ≠ d) (hcb : c ≠ b) :
    Calls Tryz.prog 114 #[.agg (fw 16 f), .int .i64 (a : Int), .int .i64 (b : Int), .int .i64 (c : Int), .int .i64 (d : Int)] w fun e w' => e = .returned (.agg (fw 16 (chaAdd (chaAdd (chaAdd (chaAdd f a b d 16) c d b 12) a b d 8) c d b 7))) ∧ Below w.heap.size w w' := by
  have z1 : (fw 16 f).size = 16 := fw_size _ _
  have hu := Tryz.underlying197
  obtain ⟨W, hW⟩ : ∃ W : World, W = (w.alloc (.cells (fw 16 f) 197)).alloc (.cells (fw 16 fun _ => 0) 197) := ⟨_, rfl⟩
  have k0 : Blk W w.heap.size 197 (fw 16 f) := by rw [hW]; exact (Blk.new_of rfl rfl).alloc _
  have kz : Blk W (w.heap.size + 1) 197 (fw 16 fun _ => 0) := by rw [hW]; exact Blk.new_of (by simp) rfl
  have hw : Below w.heap.size w W := by rw [hW]; exact ((Below.refl _ _).alloc (Nat.le_refl _) _).alloc (by simp) _
  have ia : (a : Int) < 16 := by omega
  have ib : (b : Int) < 16 := by omega
  have ic : (c : Int) < 16 := by omega
  have id : (d : Int) < 16 := by omega
  have ja : (0 : Int) ≤ (a : Int) := by omega
  have jb : (0 : Int) ≤ (b : Int) := by omega
  have jc : (0 : Int) ≤ (c : Int) := by omega
  have jd : (0 : Int) ≤ (d : Int) := by omega
  have ta : ((a : Int)).toNat = a := by omega
  have tb : ((b : Int)).toNat = b := by omega
  have tc : ((c : Int)).toNat = c := by omega
  have td : ((d : Int)).toNat = d := by omega
  rw [chaAdd_q f a b d 16 had]
  rw [chaAdd_q _ c d b 12 hcb, chaAdd_q _ a b d 8 had, chaAdd_q _ c d b 7 hcb]
  have HF0 := Lib.hid hf
  have hg1 : w.heap.size ≠ w.heap.size + 1 := by omega
  have HG := Lib.hid hg1
  clear hf had hcb hg1
  generalize hfw : fw 16 f = F0 at *
  have HFW := Lib.hid hfw
  have HW0 := Lib.hid hW
  clear hfw hW
  go_enter Tryz.func114, Tryz.ntmps114
  go_wp2
  rw [show ((w.alloc (.cells F0 197)).alloc (.cells #[.int .u32 0, .int .u32 0, .int .u32 0, .int .u32 0, .int .u32 0, .int .u32 0, .int .u32 0, .int .u32 0, .int .u32 0, .int .u32 0, .int .u32 0, .int .u32 0, .int .u32 0, .int .u32 0, .int .u32 0, .int .u32 0] 197)) = W from HW0.out.symm]
  rw [← HFW.out] at k0
  -- step 1: add a b
  obtain ⟨v1, hv1⟩ : ∃ v1 : World, v1 = W.drew := ⟨_, rfl⟩
  have m1 : Blk v1 w.heap.size 197 (fw 16 f) := by rw [hv1]; exact k0
  have mz1 : Blk v1 (w.heap.size + 1) 197 (fw 16 fun _ => 0) := by rw [hv1]; exact kz
  have mw1 : Below w.heap.size w v1 := by rw [hv1]; exact hw.drew
  have cx := (m1.cell a).trans (fw_get 16 _ a ha)
  have cy := (m1.cell b).trans (fw_get 16 _ b hb)
  have lx := HF0.out a
  have ly := HF0.out b
  generalize hgx : f a = X1 at cx lx
  generalize hgy : f b = Y1 at cy ly
  have GX1 := Lib.hid hgx
  have GY1 := Lib.hid hgy
  have hfx := m1.frozen a
  clear hgx hgy k0 kz hw
  have HV1 := Lib.hid hv1
  refine wp_region_still_tail 9 (by kernel_rfl) (by kernel_rfl) ?_
  simp only [List.take_succ_cons, List.take_zero, List.drop_succ_cons, List.drop_zero]
  change wpStill _ _ W.drew _ _ _
  rw [← hv1]
  clear hv1
  repeat still_step
  refine wpStill_nil ?_
  change wpList _ _ _ _ _ W.drew
  rw [← HV1.out]
  go_wp2
  obtain ⟨u1, hu1⟩ : ∃ u1 : World, u1 = v1.setCell ⟨w.heap.size, a, none⟩ (.int .u32 (((X1 : Int) + (Y1 : Int)) % 4294967296)) := ⟨_, rfl⟩
  rw [← hu1]
  have k1 : Blk u1 w.heap.size 197 (fw 16 (qAdd f a b)) := by
    have h := m1.set_ a (.int .u32 (((X1 + Y1) % 4294967296 : Nat) : Int))
    rw [fw_upd, ← GX1.out, ← GY1.out] at h
    rw [hu1, show Value.int .u32 (((X1 : Int) + (Y1 : Int)) % 4294967296) = .int .u32 (((X1 + Y1) % 4294967296 : Nat) : Int) from by simp, ← GX1.out, ← GY1.out]
    exact h
  have kz1 : Blk u1 (w.heap.size + 1) 197 (fw 16 fun _ => 0) := by rw [hu1]; exact mz1.far (p := ⟨w.heap.size, a, none⟩) (Ne.symm HG.out) _
  have hw1 : Below w.heap.size w u1 := by rw [hu1]; exact mw1.setCell (Nat.le_refl _) _
  have HF1 := Lib.hid (qAdd_lt HF0.out a b)
  clear hu1 m1 mz1 mw1 cx cy lx ly hfx GX1 GY1 HV1
  -- step 2: xor d a
  obtain ⟨v2, hv2⟩ : ∃ v2 : World, v2 = u1.drew := ⟨_, rfl⟩
  have m2 : Blk v2 w.heap.size 197 (fw 16 (qAdd f a b)) := by rw [hv2]; exact k1
  have mz2 : Blk v2 (w.heap.size + 1) 197 (fw 16 fun _ => 0) := by rw [hv2]; exact kz1
  have mw2 : Below w.heap.size w v2 := by rw [hv2]; exact hw1.drew
  have cx := (m2.cell d).trans (fw_get 16 _ d hd)
  have cy := (m2.cell a).trans (fw_get 16 _ a ha)
  have lx := HF1.out d
  have ly := HF1.out a
  generalize hgx : (qAdd f a b) d = X2 at cx lx
  generalize hgy : (qAdd f a b) a = Y2 at cy ly
  have GX2 := Lib.hid hgx
  have GY2 := Lib.hid hgy
  have hfx := m2.frozen d
  clear hgx hgy k1 kz1 hw1
  have HV2 := Lib.hid hv2
  refine wp_region_still_tail 10 (by kernel_rfl) (by kernel_rfl) ?_
  simp only [List.take_succ_cons, List.take_zero, List.drop_succ_cons, List.drop_zero]
  change wpStill _ _ u1.drew _ _ _
  rw [← hv2]
  clear hv2
  have hx2 : (X2 ^^^ Y2) < 4294967296 := Nat.xor_lt_two_pow (n := 32) lx ly
  have hbx2 : bits .xor .u32 (X2 : Int) (Y2 : Int) = ((X2 ^^^ Y2 : Nat) : Int) := u32_xor_nat _ _ lx ly
  repeat still_step
  still_call ((refLeft_any (X2 ^^^ Y2) 16 v2 hx2 (by omega) (by omega)).mono fun _ _ h => ⟨h.1, h.2.symm⟩)
  repeat still_step
  refine wpStill_nil ?_
  change wpList _ _ _ _ _ u1.drew
  rw [← HV2.out]
  clear hbx2
  go_wp2
  obtain ⟨u2, hu2⟩ : ∃ u2 : World, u2 = v2.setCell ⟨w.heap.size, d, none⟩ (.int .u32 ((rotl (X2 ^^^ Y2) 16 : Int))) := ⟨_, rfl⟩
  rw [← hu2]
  have k2 : Blk u2 w.heap.size 197 (fw 16 (qXor (qAdd f a b) d a 16)) := by
    have h := m2.set_ d (.int .u32 ((rotl (X2 ^^^ Y2) 16 : Nat) : Int))
    rw [fw_upd, ← GX2.out, ← GY2.out] at h
    rw [hu2, show Value.int .u32 ((rotl (X2 ^^^ Y2) 16 : Int)) = .int .u32 ((rotl (X2 ^^^ Y2) 16 : Nat) : Int) from by rfl, ← GX2.out, ← GY2.out]
    exact h
  have kz2 : Blk u2 (w.heap.size + 1) 197 (fw 16 fun _ => 0) := by rw [hu2]; exact mz2.far (p := ⟨w.heap.size, d, none⟩) (Ne.symm HG.out) _
  have hw2 : Below w.heap.size w u2 := by rw [hu2]; exact mw2.setCell (Nat.le_refl _) _
  have HF2 := Lib.hid (qXor_lt HF1.out d a 16 (by omega))
  clear hu2 m2 mz2 mw2 cx cy lx ly hfx GX2 GY2 HV2
  -- step 3: add c d
  obtain ⟨v3, hv3⟩ : ∃ v3 : World, v3 = u2.drew := ⟨_, rfl⟩
  have m3 : Blk v3 w.heap.size 197 (fw 16 (qXor (qAdd f a b) d a 16)) := by rw [hv3]; exact k2
  have mz3 : Blk v3 (w.heap.size + 1) 197 (fw 16 fun _ => 0) := by rw [hv3]; exact kz2
  have mw3 : Below w.heap.size w v3 := by rw [hv3]; exact hw2.drew
  have cx := (m3.cell c).trans (fw_get 16 _ c hc)
  have cy := (m3.cell d).trans (fw_get 16 _ d hd)
  have lx := HF2.out c
  have ly := HF2.out d
  generalize hgx : (qXor (qAdd f a b) d a 16) c = X3 at cx lx
  generalize hgy : (qXor (qAdd f a b) d a 16) d = Y3 at cy ly
  have GX3 := Lib.hid hgx
  have GY3 := Lib.hid hgy
  have hfx := m3.frozen c
  clear hgx hgy k2 kz2 hw2
  have HV3 := Lib.hid hv3
  refine wp_region_still_tail 9 (by kernel_rfl) (by kernel_rfl) ?_
  simp only [List.take_succ_cons, List.take_zero, List.drop_succ_cons, List.drop_zero]
  change wpStill _ _ u2.drew _ _ _
  rw [← hv3]
  clear hv3
  repeat still_step
  refine wpStill_nil ?_
  change wpList _ _ _ _ _ u2.drew
  rw [← HV3.out]
  go_wp2
  obtain ⟨u3, hu3⟩ : ∃ u3 : World, u3 = v3.setCell ⟨w.heap.size, c, none⟩ (.int .u32 (((X3 : Int) + (Y3 : Int)) % 4294967296)) := ⟨_, rfl⟩
  rw [← hu3]
  have k3 : Blk u3 w.heap.size 197 (fw 16 (qAdd (qXor (qAdd f a b) d a 16) c d)) := by
    have h := m3.set_ c (.int .u32 (((X3 + Y3) % 4294967296 : Nat) : Int))
    rw [fw_upd, ← GX3.out, ← GY3.out] at h
    rw [hu3, show Value.int .u32 (((X3 : Int) + (Y3 : Int)) % 4294967296) = .int .u32 (((X3 + Y3) % 4294967296 : Nat) : Int) from by simp, ← GX3.out, ← GY3.out]
    exact h
  have kz3 : Blk u3 (w.heap.size + 1) 197 (fw 16 fun _ => 0) := by rw [hu3]; exact mz3.far (p := ⟨w.heap.size, c, none⟩) (Ne.symm HG.out) _
  have hw3 : Below w.heap.size w u3 := by rw [hu3]; exact mw3.setCell (Nat.le_refl _) _
  have HF3 := Lib.hid (qAdd_lt HF2.out c d)
  clear hu3 m3 mz3 mw3 cx cy lx ly hfx GX3 GY3 HV3
  -- step 4: xor b c
  obtain ⟨v4, hv4⟩ : ∃ v4 : World, v4 = u3.drew := ⟨_, rfl⟩
  have m4 : Blk v4 w.heap.size 197 (fw 16 (qAdd (qXor (qAdd f a b) d a 16) c d)) := by rw [hv4]; exact k3
  have mz4 : Blk v4 (w.heap.size + 1) 197 (fw 16 fun _ => 0) := by rw [hv4]; exact kz3
  have mw4 : Below w.heap.size w v4 := by rw [hv4]; exact hw3.drew
  have cx := (m4.cell b).trans (fw_get 16 _ b hb)
  have cy := (m4.cell c).trans (fw_get 16 _ c hc)
  have lx := HF3.out b
  have ly := HF3.out c
  generalize hgx : (qAdd (qXor (qAdd f a b) d a 16) c d) b = X4 at cx lx
  generalize hgy : (qAdd (qXor (qAdd f a b) d a 16) c d) c = Y4 at cy ly
  have GX4 := Lib.hid hgx
  have GY4 := Lib.hid hgy
  have hfx := m4.frozen b
  clear hgx hgy k3 kz3 hw3
  have HV4 := Lib.hid hv4
  refine wp_region_still_tail 10 (by kernel_rfl) (by kernel_rfl) ?_
  simp only [List.take_succ_cons, List.take_zero, List.drop_succ_cons, List.drop_zero]
  change wpStill _ _ u3.drew _ _ _
  rw [← hv4]
  clear hv4
  have hx4 : (X4 ^^^ Y4) < 4294967296 := Nat.xor_lt_two_pow (n := 32) lx ly
  have hbx4 : bits .xor .u32 (X4 : Int) (Y4 : Int) = ((X4 ^^^ Y4 : Nat) : Int) := u32_xor_nat _ _ lx ly
  repeat still_step
  still_call ((refLeft_any (X4 ^^^ Y4) 12 v4 hx4 (by omega) (by omega)).mono fun _ _ h => ⟨h.1, h.2.symm⟩)
  repeat still_step
  refine wpStill_nil ?_
  change wpList _ _ _ _ _ u3.drew
  rw [← HV4.out]
  clear hbx4
  go_wp2
  obtain ⟨u4, hu4⟩ : ∃ u4 : World, u4 = v4.setCell ⟨w.heap.size, b, none⟩ (.int .u32 ((rotl (X4 ^^^ Y4) 12 : Int))) := ⟨_, rfl⟩
  rw [← hu4]
  have k4 : Blk u4 w.heap.size 197 (fw 16 (qXor (qAdd (qXor (qAdd f a b) d a 16) c d) b c 12)) := by
    have h := m4.set_ b (.int .u32 ((rotl (X4 ^^^ Y4) 12 : Nat) : Int))
    rw [fw_upd, ← GX4.out, ← GY4.out] at h
    rw [hu4, show Value.int .u32 ((rotl (X4 ^^^ Y4) 12 : Int)) = .int .u32 ((rotl (X4 ^^^ Y4) 12 : Nat) : Int) from by rfl, ← GX4.out, ← GY4.out]
    exact h
  have kz4 : Blk u4 (w.heap.size + 1) 197 (fw 16 fun _ => 0) := by rw [hu4]; exact mz4.far (p := ⟨w.heap.size, b, none⟩) (Ne.symm HG.out) _
  have hw4 : Below w.heap.size w u4 := by rw [hu4]; exact mw4.setCell (Nat.le_refl _) _
  have HF4 := Lib.hid (qXor_lt HF3.out b c 12 (by omega))
  clear hu4 m4 mz4 mw4 cx cy lx ly hfx GX4 GY4 HV4
  -- step 5: add a b
  obtain ⟨v5, hv5⟩ : ∃ v5 : World, v5 = u4.drew := ⟨_, rfl⟩
  have m5 : Blk v5 w.heap.size 197 (fw 16 (qXor (qAdd (qXor (qAdd f a b) d a 16) c d) b c 12)) := by rw [hv5]; exact k4
  have mz5 : Blk v5 (w.heap.size + 1) 197 (fw 16 fun _ => 0) := by rw [hv5]; exact kz4
  have mw5 : Below w.heap.size w v5 := by rw [hv5]; exact hw4.drew
  have cx := (m5.cell a).trans (fw_get 16 _ a ha)
  have cy := (m5.cell b).trans (fw_get 16 _ b hb)
  have lx := HF4.out a
  have ly := HF4.out b
  generalize hgx : (qXor (qAdd (qXor (qAdd f a b) d a 16) c d) b c 12) a = X5 at cx lx
  generalize hgy : (qXor (qAdd (qXor (qAdd f a b) d a 16) c d) b c 12) b = Y5 at cy ly
  have GX5 := Lib.hid hgx
  have GY5 := Lib.hid hgy
  have hfx := m5.frozen a
  clear hgx hgy k4 kz4 hw4
  have HV5 := Lib.hid hv5
  refine wp_region_still_tail 9 (by kernel_rfl) (by kernel_rfl) ?_
  simp only [List.take_succ_cons, List.take_zero, List.drop_succ_cons, List.drop_zero]
  change wpStill _ _ u4.drew _ _ _
  rw [← hv5]
  clear hv5
  repeat still_step
  refine wpStill_nil ?_
  change wpList _ _ _ _ _ u4.drew
  rw [← HV5.out]
  go_wp2
  obtain ⟨u5, hu5⟩ : ∃ u5 : World, u5 = v5.setCell ⟨w.heap.size, a, none⟩ (.int .u32 (((X5 : Int) + (Y5 : Int)) % 4294967296)) := ⟨_, rfl⟩
  rw [← hu5]
  have k5 : Blk u5 w.heap.size 197 (fw 16 (qAdd (qXor (qAdd (qXor (qAdd f a b) d a 16) c d) b c 12) a b)) := by
    have h := m5.set_ a (.int .u32 (((X5 + Y5) % 4294967296 : Nat) : Int))
    rw [fw_upd, ← GX5.out, ← GY5.out] at h
    rw [hu5, show Value.int .u32 (((X5 : Int) + (Y5 : Int)) % 4294967296) = .int .u32 (((X5 + Y5) % 4294967296 : Nat) : Int) from by simp, ← GX5.out, ← GY5.out]
    exact h
  have kz5 : Blk u5 (w.heap.size + 1) 197 (fw 16 fun _ => 0) := by rw [hu5]; exact mz5.far (p := ⟨w.heap.size, a, none⟩) (Ne.symm HG.out) _
  have hw5 : Below w.heap.size w u5 := by rw [hu5]; exact mw5.setCell (Nat.le_refl _) _
  have HF5 := Lib.hid (qAdd_lt HF4.out a b)
  clear hu5 m5 mz5 mw5 cx cy lx ly hfx GX5 GY5 HV5
  -- step 6: xor d a
  obtain ⟨v6, hv6⟩ : ∃ v6 : World, v6 = u5.drew := ⟨_, rfl⟩
  have m6 : Blk v6 w.heap.size 197 (fw 16 (qAdd (qXor (qAdd (qXor (qAdd f a b) d a 16) c d) b c 12) a b)) := by rw [hv6]; exact k5
  have mz6 : Blk v6 (w.heap.size + 1) 197 (fw 16 fun _ => 0) := by rw [hv6]; exact kz5
  have mw6 : Below w.heap.size w v6 := by rw [hv6]; exact hw5.drew
  have cx := (m6.cell d).trans (fw_get 16 _ d hd)
  have cy := (m6.cell a).trans (fw_get 16 _ a ha)
  have lx := HF5.out d
  have ly := HF5.out a
  generalize hgx : (qAdd (qXor (qAdd (qXor (qAdd f a b) d a 16) c d) b c 12) a b) d = X6 at cx lx
  generalize hgy : (qAdd (qXor (qAdd (qXor (qAdd f a b) d a 16) c d) b c 12) a b) a = Y6 at cy ly
  have GX6 := Lib.hid hgx
  have GY6 := Lib.hid hgy
  have hfx := m6.frozen d
  clear hgx hgy k5 kz5 hw5
  have HV6 := Lib.hid hv6
  refine wp_region_still_tail 10 (by kernel_rfl) (by kernel_rfl) ?_
  simp only [List.take_succ_cons, List.take_zero, List.drop_succ_cons, List.drop_zero]
  change wpStill _ _ u5.drew _ _ _
  rw [← hv6]
  clear hv6
  have hx6 : (X6 ^^^ Y6) < 4294967296 := Nat.xor_lt_two_pow (n := 32) lx ly
  have hbx6 : bits .xor .u32 (X6 : Int) (Y6 : Int) = ((X6 ^^^ Y6 : Nat) : Int) := u32_xor_nat _ _ lx ly
  repeat still_step
  still_call ((refLeft_any (X6 ^^^ Y6) 8 v6 hx6 (by omega) (by omega)).mono fun _ _ h => ⟨h.1, h.2.symm⟩)
  repeat still_step
  refine wpStill_nil ?_
  change wpList _ _ _ _ _ u5.drew
  rw [← HV6.out]
  clear hbx6
  go_wp2
  obtain ⟨u6, hu6⟩ : ∃ u6 : World, u6 = v6.setCell ⟨w.heap.size, d, none⟩ (.int .u32 ((rotl (X6 ^^^ Y6) 8 : Int))) := ⟨_, rfl⟩
  rw [← hu6]
  have k6 : Blk u6 w.heap.size 197 (fw 16 (qXor (qAdd (qXor (qAdd (qXor (qAdd f a b) d a 16) c d) b c 12) a b) d a 8)) := by
    have h := m6.set_ d (.int .u32 ((rotl (X6 ^^^ Y6) 8 : Nat) : Int))
    rw [fw_upd, ← GX6.out, ← GY6.out] at h
    rw [hu6, show Value.int .u32 ((rotl (X6 ^^^ Y6) 8 : Int)) = .int .u32 ((rotl (X6 ^^^ Y6) 8 : Nat) : Int) from by rfl, ← GX6.out, ← GY6.out]
    exact h
  have kz6 : Blk u6 (w.heap.size + 1) 197 (fw 16 fun _ => 0) := by rw [hu6]; exact mz6.far (p := ⟨w.heap.size, d, none⟩) (Ne.symm HG.out) _
  have hw6 : Below w.heap.size w u6 := by rw [hu6]; exact mw6.setCell (Nat.le_refl _) _
  have HF6 := Lib.hid (qXor_lt HF5.out d a 8 (by omega))
  clear hu6 m6 mz6 mw6 cx cy lx ly hfx GX6 GY6 HV6
  -- step 7: add c d
  obtain ⟨v7, hv7⟩ : ∃ v7 : World, v7 = u6.drew := ⟨_, rfl⟩
  have m7 : Blk v7 w.heap.size 197 (fw 16 (qXor (qAdd (qXor (qAdd (qXor (qAdd f a b) d a 16) c d) b c 12) a b) d a 8)) := by rw [hv7]; exact k6
  have mz7 : Blk v7 (w.heap.size + 1) 197 (fw 16 fun _ => 0) := by rw [hv7]; exact kz6
  have mw7 : Below w.heap.size w v7 := by rw [hv7]; exact hw6.drew
  have cx := (m7.cell c).trans (fw_get 16 _ c hc)
  have cy := (m7.cell d).trans (fw_get 16 _ d hd)
  have lx := HF6.out c
  have ly := HF6.out d
  generalize hgx : (qXor (qAdd (qXor (qAdd (qXor (qAdd f a b) d a 16) c d) b c 12) a b) d a 8) c = X7 at cx lx
  generalize hgy : (qXor (qAdd (qXor (qAdd (qXor (qAdd f a b) d a 16) c d) b c 12) a b) d a 8) d = Y7 at cy ly
  have GX7 := Lib.hid hgx
  have GY7 := Lib.hid hgy
  have hfx := m7.frozen c
  clear hgx hgy k6 kz6 hw6
  have HV7 := Lib.hid hv7
  refine wp_region_still_tail 9 (by kernel_rfl) (by kernel_rfl) ?_
  simp only [List.take_succ_cons, List.take_zero, List.drop_succ_cons, List.drop_zero]
  change wpStill _ _ u6.drew _ _ _
  rw [← hv7]
  clear hv7
  repeat still_step
  refine wpStill_nil ?_
  change wpList _ _ _ _ _ u6.drew
  rw [← HV7.out]
  go_wp2
  obtain ⟨u7, hu7⟩ : ∃ u7 : World, u7 = v7.setCell ⟨w.heap.size, c, none⟩ (.int .u32 (((X7 : Int) + (Y7 : Int)) % 4294967296)) := ⟨_, rfl⟩
  rw [← hu7]
  have k7 : Blk u7 w.heap.size 197 (fw 16 (qAdd (qXor (qAdd (qXor (qAdd (qXor (qAdd f a b) d a 16) c d) b c 12) a b) d a 8) c d)) := by
    have h := m7.set_ c (.int .u32 (((X7 + Y7) % 4294967296 : Nat) : Int))
    rw [fw_upd, ← GX7.out, ← GY7.out] at h
    rw [hu7, show Value.int .u32 (((X7 : Int) + (Y7 : Int)) % 4294967296) = .int .u32 (((X7 + Y7) % 4294967296 : Nat) : Int) from by simp, ← GX7.out, ← GY7.out]
    exact h
  have kz7 : Blk u7 (w.heap.size + 1) 197 (fw 16 fun _ => 0) := by rw [hu7]; exact mz7.far (p := ⟨w.heap.size, c, none⟩) (Ne.symm HG.out) _
  have hw7 : Below w.heap.size w u7 := by rw [hu7]; exact mw7.setCell (Nat.le_refl _) _
  have HF7 := Lib.hid (qAdd_lt HF6.out c d)
  clear hu7 m7 mz7 mw7 cx cy lx ly hfx GX7 GY7 HV7
  -- step 8: xor b c
  obtain ⟨v8, hv8⟩ : ∃ v8 : World, v8 = u7.drew := ⟨_, rfl⟩
  have m8 : Blk v8 w.heap.size 197 (fw 16 (qAdd (qXor (qAdd (qXor (qAdd (qXor (qAdd f a b) d a 16) c d) b c 12) a b) d a 8) c d)) := by rw [hv8]; exact k7
  have mz8 : Blk v8 (w.heap.size + 1) 197 (fw 16 fun _ => 0) := by rw [hv8]; exact kz7
  have mw8 : Below w.heap.size w v8 := by rw [hv8]; exact hw7.drew
  have cx := (m8.cell b).trans (fw_get 16 _ b hb)
  have cy := (m8.cell c).trans (fw_get 16 _ c hc)
  have lx := HF7.out b
  have ly := HF7.out c
  generalize hgx : (qAdd (qXor (qAdd (qXor (qAdd (qXor (qAdd f a b) d a 16) c d) b c 12) a b) d a 8) c d) b = X8 at cx lx
  generalize hgy : (qAdd (qXor (qAdd (qXor (qAdd (qXor (qAdd f a b) d a 16) c d) b c 12) a b) d a 8) c d) c = Y8 at cy ly
  have GX8 := Lib.hid hgx
  have GY8 := Lib.hid hgy
  have hfx := m8.frozen b
  clear hgx hgy k7 kz7 hw7
  have HV8 := Lib.hid hv8
  refine wp_region_still_tail 10 (by kernel_rfl) (by kernel_rfl) ?_
  simp only [List.take_succ_cons, List.take_zero, List.drop_succ_cons, List.drop_zero]
  change wpStill _ _ u7.drew _ _ _
  rw [← hv8]
  clear hv8
  have hx8 : (X8 ^^^ Y8) < 4294967296 := Nat.xor_lt_two_pow (n := 32) lx ly
  have hbx8 : bits .xor .u32 (X8 : Int) (Y8 : Int) = ((X8 ^^^ Y8 : Nat) : Int) := u32_xor_nat _ _ lx ly
  repeat still_step
  still_call ((refLeft_any (X8 ^^^ Y8) 7 v8 hx8 (by omega) (by omega)).mono fun _ _ h => ⟨h.1, h.2.symm⟩)
  repeat still_step
  refine wpStill_nil ?_
  change wpList _ _ _ _ _ u7.drew
  rw [← HV8.out]
  clear hbx8
  have k8 : Blk (v8.setCell ⟨w.heap.size, b, none⟩ (.int .u32 (rotl (X8 ^^^ Y8) 7 : Int))) w.heap.size 197 (fw 16 (qXor (qAdd (qXor (qAdd (qXor (qAdd (qXor (qAdd f a b) d a 16) c d) b c 12) a b) d a 8) c d) b c 7)) := by
    have h := m8.set_ b (.int .u32 ((rotl (X8 ^^^ Y8) 7 : Nat) : Int))
    rw [fw_upd, ← GX8.out, ← GY8.out] at h
    rw [← GX8.out, ← GY8.out]
    exact h
  have kz8 : Blk (v8.setCell ⟨w.heap.size, b, none⟩ (.int .u32 (rotl (X8 ^^^ Y8) 7 : Int))) (w.heap.size + 1) 197 (fw 16 fun _ => 0) := mz8.far (p := ⟨w.heap.size, b, none⟩) (Ne.symm HG.out) _
  have hw8 : Below w.heap.size w (v8.setCell ⟨w.heap.size, b, none⟩ (.int .u32 (rotl (X8 ^^^ Y8) 7 : Int))) := mw8.setCell (Nat.le_refl _) _
  have s1 := fw_one 16 (qXor (qAdd (qXor (qAdd (qXor (qAdd (qXor (qAdd f a b) d a 16) c d) b c 12) a b) d a 8) c d) b c 7)
  have s2 := fw_size 16 (qXor (qAdd (qXor (qAdd (qXor (qAdd (qXor (qAdd f a b) d a 16) c d) b c 12) a b) d a 8) c d) b c 7)
  have s3 := fw_size 16 (fun _ => 0)
  generalize hfin : fw 16 (qXor (qAdd (qXor (qAdd (qXor (qAdd (qXor (qAdd f a b) d a 16) c d) b c 12) a b) d a 8) c d) b c 7) = fin at *
  have HFIN := Lib.hid hfin
  have Z1 : Hid ((Tryz.prog.info? 197).map (·.size) = some fin.size) := Lib.hid (by rw [s2]; kernel_rfl)
  have Z3 : Hid ((fw 16 fun _ => 0).size = fin.size) := Lib.hid (by rw [s2, s3])
  clear hfin m8 mz8 mw8 GX8 GY8 HV8 s2 s3 z1
  go_wp2_with (first | ((with_reducible refine wpList_load_blk (o := ⟨some 87, _, _, _, _, _⟩) rfl 197 _ rfl w.heap.size rfl 197 _ _ k8 Tryz.underlying197 rfl Z1.out ?_)) | ((with_reducible refine wpList_store_blk (o := ⟨none, .store 197 (.tmp 10) (.tmp 87), _, _, _, _⟩) rfl 197 (.tmp 10) (.tmp 87) rfl (w.heap.size + 1) fin rfl rfl 197 (fw 16 (fun _ => 0)) kz8 Z1.out Z3.out s1 ?_); intro w10 k10 g10 s10; have S10 := Lib.hid s10; clear s10))
  exact ret_cell 10 197 rfl rfl (w.heap.size + 1) 197 _ _ rfl k10 Tryz.underlying197 rfl Z1.out ⟨by rw [HFIN.out], hw8.grown g10 hw8.size (fun k e => by injection e with e; omega)⟩
end Go.Proofs.YtkhebllmnagkmaaGreatDoor
