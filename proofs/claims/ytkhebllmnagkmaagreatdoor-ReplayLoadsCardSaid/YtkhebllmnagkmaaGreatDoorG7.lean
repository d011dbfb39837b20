/- Contracts and lemmas under the statements of this seat, one behind the other. Conditions: what each names. -/
import Derived.Test.YtkhebllmnagkmaaGreatDoorG6
import Derived.Test.YtkhebllmnagkmaaGreatDoorG5
/- Contracts of the package equal: differ, Bytes. Conditions: what each names. -/
namespace Go.Proofs.YtkhebllmnagkmaaGreatDoor
open Go.RowKit
set_option linter.unusedVariables false

def dif (a b : List UInt8) (k : Nat) : Nat := (List.range k).foldl (fun s i => s ||| ((a.getD i 0).toNat ^^^ (b.getD i 0).toNat)) 0
theorem dif_succ (a b : List UInt8) (k : Nat) : dif a b (k + 1) = dif a b k ||| ((a.getD k 0).toNat ^^^ (b.getD k 0).toNat) := by unfold dif; rw [List.range_succ, List.foldl_append]; rfl
theorem dif_lt (a b : List UInt8) (k : Nat) : dif a b k < 256 := by
  induction k with
  | zero => show (0 : Nat) < 256; omega
  | succ k ih => rw [dif_succ]; exact Nat.or_lt_two_pow (n := 8) ih (Nat.xor_lt_two_pow (n := 8) (a.getD k 0).toNat_lt (b.getD k 0).toNat_lt)
theorem xor_zero_iff (x y : Nat) : x ^^^ y = 0 ↔ x = y := by
  constructor
  · intro h
    have h2 : x ^^^ y ^^^ y = y := by rw [h, Nat.zero_xor]
    rwa [Nat.xor_assoc, Nat.xor_self, Nat.xor_zero] at h2
  · rintro rfl; exact Nat.xor_self _
theorem or_zero_iff (x y : Nat) : x ||| y = 0 ↔ x = 0 ∧ y = 0 := Nat.or_eq_zero_iff
theorem dif_zero (a b : List UInt8) (k : Nat) : dif a b k = 0 ↔ ∀ i, i < k → a.getD i 0 = b.getD i 0 := by
  induction k with
  | zero => simp [dif]
  | succ k ih =>
    rw [dif_succ, or_zero_iff, ih, xor_zero_iff]
    constructor
    · rintro ⟨h1, h2⟩ i hi
      rcases Nat.lt_or_ge i k with h | h
      · exact h1 i h
      · have : i = k := by omega
        subst this
        exact UInt8.toNat_inj.1 h2
    · intro h
      exact ⟨fun i hi => h i (by omega), by rw [h k (by omega)]⟩
theorem dif_eq (a b : List UInt8) (h : a.length = b.length) : dif a b a.length = 0 ↔ a = b := by
  rw [dif_zero]
  constructor
  · intro hh
    refine List.ext_getElem h fun i h1 h2 => ?_
    have := hh i h1
    rwa [List.getD_eq_getElem?_getD, List.getD_eq_getElem?_getD, List.getElem?_eq_getElem h1, List.getElem?_eq_getElem h2] at this
  · rintro rfl i _; rfl

set_option maxRecDepth 100000 in
set_option maxHeartbeats 1000000 in
theorem differ_any (A B : Option Addr) (ca cb : Nat) (a b : List UInt8) (n : Nat) (w : World) (hA : Reads w w.heap.size 1 A n (bs a)) (hB : Reads w w.heap.size 1 B n (bs b)) (hn : n ≤ 1099511627776) :
    Calls Tryz.prog 77 #[.slice A n ca, .slice B n cb] w fun e w' => e = .returned (.int .u64 (dif a b n : Int)) ∧ ∃ m, w' = w.drewN m := by
  go_enter Tryz.func77, Tryz.ntmps77
  go_wp2
  go_loopw [5, 9] (fun x ix wr => ∃ k : Nat, k ≤ n ∧ ix = .int .i64 k ∧ x = .int .u64 (dif a b k : Int) ∧ ∃ m, wr = w.drewN m) (fun _ ix _ => n - (intOf ix).toNat)
  case atStart => exact ⟨0, by omega, rfl, rfl, 0, rfl⟩
  case round =>
    obtain ⟨k, hk, rfl, rfl, m, rfl⟩ := hrel
    by_cases hlt : k < n
    · obtain ⟨aa, ua, rfl, _, hua, hca⟩ := hA.at_ hlt
      obtain ⟨ab, ub, rfl, _, hub, hcb⟩ := hB.at_ hlt
      have hla : k < a.length := by have := hA.1; rw [bs_length] at this; omega
      have hlb : k < b.length := by have := hB.1; rw [bs_length] at this; omega
      have hst := dif_succ a b k
      have hdl := dif_lt a b k
      rw [bs_get, List.getElem?_eq_getElem hla, Option.map_some] at hua
      rw [bs_get, List.getElem?_eq_getElem hlb, Option.map_some] at hub
      rw [List.getD_eq_getElem?_getD, List.getD_eq_getElem?_getD, List.getElem?_eq_getElem hla, List.getElem?_eq_getElem hlb, Option.getD_some, Option.getD_some] at hst
      injection hua with hua
      injection hub with hub
      subst hua hub
      have hca' : (w.drewN m).cell? (aa.add k) = some (.int .u8 (a[k].toNat : Int)) := hca
      have hcb' : (w.drewN m).cell? (ab.add k) = some (.int .u8 (b[k].toNat : Int)) := hcb
      have lx := a[k].toNat_lt
      have ly := b[k].toNat_lt
      clear hca hcb
      generalize a[k].toNat = x at *
      generalize b[k].toNat = y at *
      generalize dif a b k = d at *
      have hx := u8_xor_nat x y lx ly
      have hxl : x ^^^ y < 256 := Nat.xor_lt_two_pow (n := 8) lx ly
      have ho := u64_or_nat d (x ^^^ y) (by omega) (by omega)
      have hww : IntKind.u64.wrap ((x ^^^ y : Nat) : Int) = ((x ^^^ y : Nat) : Int) := by rw [IntKind.wrap_u64]; omega
      have HST := Lib.hid hst
      have ik : (k : Int) < n := by omega
      have jk : (0 : Int) ≤ (k : Int) := by omega
      clear hst hla hlb
      go_wp2
      go_region_held3 (fun w' => w'.cell? (aa.add k) = some (.int .u8 (x : Int)) ∧ w'.cell? (ab.add k) = some (.int .u8 (y : Int))) (exact ⟨hca', hcb'⟩) (fail)
      clear hx ho hca' hcb'
      go_wp2
      go_roundw
      case rel => exact ⟨k + 1, by omega, by go_num, by rw [HST.out], m + 1, rfl⟩
      case measure => simp [intOf]; omega
    · have hkk : k = n := by omega
      have hps : n ≤ k := by omega
      have HK := Lib.hid hkk
      clear hkk hlt hk
      go_wp2
      go_ret
      refine ⟨?_, m, rfl⟩
      rw [HK.out]
      rfl
theorem bytes_any (A B : Option Addr) (ca cb : Nat) (a b : List UInt8) (n : Nat) (w : World) (hA : Reads w w.heap.size 1 A n (bs a)) (hB : Reads w w.heap.size 1 B n (bs b)) (hn : n ≤ 1099511627776) :
    Calls Tryz.prog 46 #[.slice A n ca, .slice B n cb] w fun e w' => e = .returned (.bool (decide (a = b))) ∧ ∃ m, w' = w.drewN m := by
  have hla : a.length = n := by have := hA.1; rw [bs_length] at this; omega
  have hlb : b.length = n := by have := hB.1; rw [bs_length] at this; omega
  have hd := dif_eq a b (by omega)
  rw [hla] at hd
  have hcall := differ_any A B ca cb a b n w hA hB hn
  generalize dif a b n = d at *
  by_cases h0 : d = 0
  · have hab : a = b := hd.1 h0
    have e1 : decide (a = b) = true := decide_eq_true hab
    rw [e1]
    rw [h0] at hcall
    clear hA hB hd h0 hab e1 hla hlb
    go_enter Tryz.func46, Tryz.ntmps46
    go_wp2_with (go_at_call 77; refine hcall.mono ?_; rintro e w' ⟨rfl, m, rfl⟩)
    go_ret
    exact ⟨rfl, m, rfl⟩
  · have hab : ¬ a = b := fun h => h0 (hd.2 h)
    have e1 : decide (a = b) = false := decide_eq_false hab
    rw [e1]
    have e2 : ((d : Int) == 0) = false := by rw [beq_eq_false_iff_ne]; omega
    clear hA hB hd h0 hab e1 hla hlb
    go_enter Tryz.func46, Tryz.ntmps46
    go_wp2_with (go_at_call 77; refine hcall.mono ?_; rintro e w' ⟨rfl, m, rfl⟩)
    go_ret
    refine ⟨?_, m, rfl⟩
    first
    | rfl
    | simp [e2]
end Go.Proofs.YtkhebllmnagkmaaGreatDoor
/- Contracts of record.Put, record.Get. Conditions: what each names. -/
namespace Go.Proofs.YtkhebllmnagkmaaGreatDoor
open Go.RowKit
set_option linter.unusedVariables false

/-- A record's bytes. -/
def recB (block : Nat) (bytes : List UInt8) (last : Bool) : List UInt8 := padB [1, if last then 1 else 0] 8 ++ putB block 8 ++ bytes
theorem recB_length (block : Nat) (bytes : List UInt8) (last : Bool) : (recB block bytes last).length = 16 + bytes.length := by unfold recB; rw [List.length_append, List.length_append, padB_length, putB_length]
theorem concat3_new (q8 p8 bytes : List UInt8) (A : Option Addr) (c : Nat) (hq : q8.length = 8) (hp : p8.length = 8) (hb : bytes.length = 160) (w2 : World) (g1 g2 : Nat) (r1 : Reads w2 w2.heap.size 1 (some ⟨g1, 0, none⟩) 8 (bs q8))
    (r2 : Reads w2 w2.heap.size 1 (some ⟨g2, 0, none⟩) 8 (bs p8)) (r3 : Reads w2 w2.heap.size 1 A 160 (bs bytes)) :
    Calls Tryz.prog 65 #[.slice (some ⟨w2.heap.size, 0, none⟩) 3 3] (w2.alloc (.cells #[.slice (some ⟨g1, 0, none⟩) 8 8, .slice (some ⟨g2, 0, none⟩) 8 8, .slice A 160 c] 55)) fun e w' => ∃ v, e = .returned v ∧ Owns w' (w2.heap.size + 1) v (q8 ++ p8 ++ bytes) ∧
      Below (w2.heap.size + 1) (w2.alloc (.cells #[.slice (some ⟨g1, 0, none⟩) 8 8, .slice (some ⟨g2, 0, none⟩) 8 8, .slice A 160 c] 55)) w' := by
  have h := concat_new [(some ⟨g1, 0, none⟩, 8, q8), (some ⟨g2, 0, none⟩, 8, p8), (A, c, bytes)] [_, _, _] 3 w2 rfl rfl (by
    intro p hpm
    simp only [List.mem_cons, List.not_mem_nil, or_false] at hpm
    rcases hpm with rfl | rfl | rfl
    · simpa only [hq] using r1
    · simpa only [hp] using r2
    · simpa only [hb] using r3) (by simp [cat, hq, hp, hb]) (by simp)
  rw [show cat [((some ⟨g1, 0, none⟩ : Option Addr), 8, q8), (some ⟨g2, 0, none⟩, 8, p8), (A, c, bytes)] = q8 ++ p8 ++ bytes from by simp [cat]] at h
  simp only [partV, hq, hp, hb] at h
  exact h
set_option maxRecDepth 100000 in
set_option maxHeartbeats 2000000 in
theorem rput_any (block : Nat) (bytes : List UInt8) (last : Bool) (A : Option Addr) (c : Nat) (w : World) (hr : Reads w w.heap.size 1 A 160 (bs bytes)) (hb : block < 18446744073709551616) :
    Calls Tryz.prog 36 #[.agg #[.int .u64 (block : Int), .slice A 160 c, .bool last]] w fun e w' => ∃ v, e = .returned (.tuple #[v, .int .i64 0]) ∧ Owns w' w.heap.size v (recB block bytes last) ∧ Below w.heap.size w w' := by
  have hl : bytes.length = 160 := by have := hr.1; rw [bs_length] at this; omega
  have put8 := fun W => wput_bs block 8 W (by omega) (by omega) (by omega)
  simp only [show ((8 : Nat) : Int) = 8 from rfl] at put8
  have put8r : ∀ W, Calls Tryz.prog 45 #[.int .u64 (block : Int), .int .i64 8] W fun e w' => e = .returned (.slice (some ⟨W.heap.size, 0, none⟩) 8 8) ∧ Reads w' w'.heap.size 1 (some ⟨W.heap.size, 0, none⟩) 8 (bs (putB block 8)) ∧ Below W.heap.size W w' := fun W => (put8 W).mono fun e w' h => ⟨h.1, by have h2 := h.2.1.reads; rw [putB_length] at h2; exact h2, h.2.2.2⟩
  clear put8
  have hl8 := putB_length block 8
  have hlp := padB_length [1, if last then (1 : UInt8) else 0] 8
  have hS : recB block bytes last = padB [1, if last then 1 else 0] 8 ++ putB block 8 ++ bytes := rfl
  have hr1 : Reads (w.alloc (.cells #[.int .u64 (block : Int), .slice A 160 c, .bool last] 95)) w.heap.size 1 A 160 (bs bytes) := hr.alloc (Nat.le_refl _) _
  generalize hp8 : putB block 8 = p8 at *
  have y0 : Below w.heap.size w (w.alloc (.cells #[.int .u64 (block : Int), .slice A 160 c, .bool last] 95)) := (Below.refl _ _).alloc (Nat.le_refl _) _
  have hblk : Blk (w.alloc (.cells #[.int .u64 (block : Int), .slice A 160 c, .bool last] 95)) w.heap.size 95 #[.int .u64 (block : Int), .slice A 160 c, .bool last] := Blk.new_of rfl rfl
  have hlt : w.heap.size < (w.alloc (.cells #[.int .u64 (block : Int), .slice A 160 c, .bool last] 95)).heap.size := by simp
  have HB := Lib.hid hl
  have HP8 := Lib.hid hl8
  clear hl hl8 hp8
  cases last with
  | true =>
    simp only [if_true] at hS hlp
    have hpad := fun W h => wpad (some ⟨w.heap.size + 1, 0, none⟩) 2 2 8 [1, 1] W h (by omega) (by omega) (by omega)
    simp only [show ((8 : Nat) : Int) = 8 from rfl] at hpad
    have hpadr : ∀ W, Reads W W.heap.size 1 (some ⟨w.heap.size + 1, 0, none⟩) 2 (bs [1, 1]) → Calls Tryz.prog 66 #[.slice (some ⟨w.heap.size + 1, 0, none⟩) 2 2, .int .i64 8] W fun e w' => e = .returned (.slice (some ⟨W.heap.size, 0, none⟩) 8 8) ∧ Reads w' w'.heap.size 1 (some ⟨W.heap.size, 0, none⟩) 8 (bs (padB [1, 1] 8)) ∧ Below W.heap.size W w' := fun W h => (hpad W h).mono fun e w' h => ⟨h.1, by have h2 := h.2.1.reads; rw [padB_length] at h2; exact h2, h.2.2⟩
    clear hpad
    have hcat := fun w2 g1 g2 => concat3_new (padB [1, 1] 8) p8 bytes A c hlp HP8.out HB.out w2 g1 g2
    rw [← hS] at hcat
    generalize padB [1, 1] 8 = q8 at *
    obtain ⟨W0, hW0⟩ : ∃ W0 : World, W0 = ((w.alloc (.cells #[.int .u64 (block : Int), .slice A 160 c, .bool true] 95)).alloc (.cells #[.int .u8 1, .int .u8 1] 5)) := ⟨_, rfl⟩
    have kb : Blk W0.drew (w.heap.size + 1) 5 (bs [1, 1]).toArray := by rw [hW0]; exact Blk.new_of (by simp) rfl
    have kr : Blk W0.drew w.heap.size 95 #[.int .u64 (block : Int), .slice A 160 c, .bool true] := by rw [hW0]; exact hblk.alloc _
    have ky : Below w.heap.size w W0.drew := by rw [hW0]; exact (y0.alloc (by simp) _).drew
    have hr2 : Reads W0.drew W0.drew.heap.size 1 A 160 (bs bytes) := (hr.below ky).more ky.size
    have c0 : W0.drew.cell? ⟨w.heap.size, 0, none⟩ = some (.int .u64 (block : Int)) := kr.cell 0
    have c1 : W0.drew.cell? ⟨w.heap.size, 1, none⟩ = some (.slice A 160 c) := kr.cell 1
    have krd := kb.reads
    have lt0 := kr.lt
    have HS := Lib.hid hS
    have HP := Lib.hid hlp
    have HW0 := Lib.hid hW0
    clear hS hlp hW0 kr hr hr1 y0 hblk hlt
    go_enter Tryz.func36, Tryz.ntmps36
    go_wp2
    rw [← HW0.out]
    go_region_held3 (fun w' => w'.cell? ⟨w.heap.size, 0, none⟩ = some (.int .u64 (block : Int)) ∧ w'.cell? ⟨w.heap.size, 1, none⟩ = some (.slice A 160 c)) (first | (exact ⟨c40, c41⟩) | (exact ⟨c30, c31⟩) | (exact ⟨c0, c1⟩) | (exact ⟨c10, c11⟩) | (exact ⟨c20, c21⟩) | go_keep) (first | (go_at_call 66; refine (hpadr _ krd).mono ?_; rintro e w1 ⟨rfl, k1, b1⟩; have r31 := (hr2.below b1).more b1.size; have lt1 := Nat.lt_of_lt_of_le lt0 b1.size; have c10 := (b1.cell (p := ⟨w.heap.size, 0, none⟩) lt0).trans c0; have c11 := (b1.cell (p := ⟨w.heap.size, 1, none⟩) lt0).trans c1) | (go_at_call 45; with_reducible refine (put8r _).mono ?_; rintro e w2 ⟨rfl, k2, b2⟩; have r32 := (r31.below b2).more b2.size; have r12 := (k1.below b2).more b2.size; have lt2 := Nat.lt_of_lt_of_le lt1 b2.size; have c20 := (b2.cell (p := ⟨w.heap.size, 0, none⟩) lt1).trans c10; have c21 := (b2.cell (p := ⟨w.heap.size, 1, none⟩) lt1).trans c11) | (go_at_call 65; refine (hcat w2 _ _ r12 k2 r32).mono ?_; rintro e w3 ⟨v3, rfl, hv3, b3⟩; have lt3 := Nat.lt_succ_of_lt lt2; have c30 := (b3.cell (p := ⟨w.heap.size, 0, none⟩) lt3).trans ((World.cell?_alloc_lt w2 _ _ lt2).trans c20); have c31 := (b3.cell (p := ⟨w.heap.size, 1, none⟩) lt3).trans ((World.cell?_alloc_lt w2 _ _ lt2).trans c21)))
    clear hpadr hcat put8r
    go_wp2
    go_ret2
    have y1 : Below w.heap.size w w1 := ky.trans (b1.mono ky.size)
    have y2 : Below w.heap.size w w2 := y1.trans (b2.mono y1.size)
    have y3 : Below w.heap.size w w3 := (y2.alloc y2.size _).trans (b3.mono (by have := y2.size; omega))
    exact ⟨v3, rfl, hv3.lower (by have := y2.size; omega), y3⟩
  | false =>
    simp only [Bool.false_eq_true, if_false] at hS hlp
    have hpad := fun W h => wpad (some ⟨w.heap.size + 1, 0, none⟩) 2 2 8 [1, 0] W h (by omega) (by omega) (by omega)
    simp only [show ((8 : Nat) : Int) = 8 from rfl] at hpad
    have hpadr : ∀ W, Reads W W.heap.size 1 (some ⟨w.heap.size + 1, 0, none⟩) 2 (bs [1, 0]) → Calls Tryz.prog 66 #[.slice (some ⟨w.heap.size + 1, 0, none⟩) 2 2, .int .i64 8] W fun e w' => e = .returned (.slice (some ⟨W.heap.size, 0, none⟩) 8 8) ∧ Reads w' w'.heap.size 1 (some ⟨W.heap.size, 0, none⟩) 8 (bs (padB [1, 0] 8)) ∧ Below W.heap.size W w' := fun W h => (hpad W h).mono fun e w' h => ⟨h.1, by have h2 := h.2.1.reads; rw [padB_length] at h2; exact h2, h.2.2⟩
    clear hpad
    have hcat := fun w2 g1 g2 => concat3_new (padB [1, 0] 8) p8 bytes A c hlp HP8.out HB.out w2 g1 g2
    rw [← hS] at hcat
    generalize padB [1, 0] 8 = q8 at *
    obtain ⟨W0, hW0⟩ : ∃ W0 : World, W0 = ((w.alloc (.cells #[.int .u64 (block : Int), .slice A 160 c, .bool false] 95)).alloc (.cells #[.int .u8 1, .int .u8 0] 5)) := ⟨_, rfl⟩
    have kb : Blk W0.drew (w.heap.size + 1) 5 (bs [1, 0]).toArray := by rw [hW0]; exact Blk.new_of (by simp) rfl
    have kr : Blk W0.drew w.heap.size 95 #[.int .u64 (block : Int), .slice A 160 c, .bool false] := by rw [hW0]; exact hblk.alloc _
    have ky : Below w.heap.size w W0.drew := by rw [hW0]; exact (y0.alloc (by simp) _).drew
    have hr2 : Reads W0.drew W0.drew.heap.size 1 A 160 (bs bytes) := (hr.below ky).more ky.size
    have c0 : W0.drew.cell? ⟨w.heap.size, 0, none⟩ = some (.int .u64 (block : Int)) := kr.cell 0
    have c1 : W0.drew.cell? ⟨w.heap.size, 1, none⟩ = some (.slice A 160 c) := kr.cell 1
    have krd := kb.reads
    have lt0 := kr.lt
    have HS := Lib.hid hS
    have HP := Lib.hid hlp
    have HW0 := Lib.hid hW0
    clear hS hlp hW0 kr hr hr1 y0 hblk hlt
    go_enter Tryz.func36, Tryz.ntmps36
    go_wp2
    rw [← HW0.out]
    go_region_held3 (fun w' => w'.cell? ⟨w.heap.size, 0, none⟩ = some (.int .u64 (block : Int)) ∧ w'.cell? ⟨w.heap.size, 1, none⟩ = some (.slice A 160 c)) (first | (exact ⟨c40, c41⟩) | (exact ⟨c30, c31⟩) | (exact ⟨c0, c1⟩) | (exact ⟨c10, c11⟩) | (exact ⟨c20, c21⟩) | go_keep) (first | (go_at_call 66; refine (hpadr _ krd).mono ?_; rintro e w1 ⟨rfl, k1, b1⟩; have r31 := (hr2.below b1).more b1.size; have lt1 := Nat.lt_of_lt_of_le lt0 b1.size; have c10 := (b1.cell (p := ⟨w.heap.size, 0, none⟩) lt0).trans c0; have c11 := (b1.cell (p := ⟨w.heap.size, 1, none⟩) lt0).trans c1) | (go_at_call 45; with_reducible refine (put8r _).mono ?_; rintro e w2 ⟨rfl, k2, b2⟩; have r32 := (r31.below b2).more b2.size; have r12 := (k1.below b2).more b2.size; have lt2 := Nat.lt_of_lt_of_le lt1 b2.size; have c20 := (b2.cell (p := ⟨w.heap.size, 0, none⟩) lt1).trans c10; have c21 := (b2.cell (p := ⟨w.heap.size, 1, none⟩) lt1).trans c11) | (go_at_call 65; refine (hcat w2 _ _ r12 k2 r32).mono ?_; rintro e w3 ⟨v3, rfl, hv3, b3⟩; have lt3 := Nat.lt_succ_of_lt lt2; have c30 := (b3.cell (p := ⟨w.heap.size, 0, none⟩) lt3).trans ((World.cell?_alloc_lt w2 _ _ lt2).trans c20); have c31 := (b3.cell (p := ⟨w.heap.size, 1, none⟩) lt3).trans ((World.cell?_alloc_lt w2 _ _ lt2).trans c21)))
    clear hpadr hcat put8r
    go_wp2
    go_ret2
    have y1 : Below w.heap.size w w1 := ky.trans (b1.mono ky.size)
    have y2 : Below w.heap.size w w2 := y1.trans (b2.mono y1.size)
    have y3 : Below w.heap.size w w3 := (y2.alloc y2.size _).trans (b3.mono (by have := y2.size; omega))
    exact ⟨v3, rfl, hv3.lower (by have := y2.size; omega), y3⟩

/-! ### Get, of a record's own bytes -/
theorem padB_first (x : UInt8) : padB [1, x] 8 = [1, x, 0, 0, 0, 0, 0, 0] := rfl
theorem getB_putB (x n : Nat) (h : x < 256 ^ n) : getB (putB x n) = x := by
  induction n generalizing x with
  | zero => simp [putB, getB]; omega
  | succ n ih =>
    have e : putB x (n + 1) = UInt8.ofNat x :: putB (x / 256) n := by
      unfold putB
      rw [List.range_succ_eq_map, List.map_cons, List.map_map]
      congr 1
      · simp
      · refine List.map_congr_left fun i _ => ?_
        simp only [Function.comp]
        congr 1
        rw [Nat.div_div_eq_div_mul, show 8 * (i + 1) = 8 + 8 * i by omega, Nat.pow_add, show (2 : Nat) ^ 8 = 256 from rfl]
    rw [e]
    simp only [getB]
    rw [ih (x / 256) (by rw [Nat.pow_succ] at h; exact Nat.div_lt_of_lt_mul (by omega))]
    simp
    omega
end Go.Proofs.YtkhebllmnagkmaaGreatDoor
/- Contract of record.Get, of a record's own bytes. Conditions: what each names. -/
namespace Go.Proofs.YtkhebllmnagkmaaGreatDoor
open Go.RowKit
set_option linter.unusedVariables false

theorem Owns.far {w : World} {base : Nat} {v : Value} {l : List UInt8} (h : Owns w base v l) {p : Addr} (hp : p.block < base) (u : Value) : Owns (w.setCell p u) base v l := ownsRow_setCell_below h hp u
theorem results_row_tmp {P : Program} {fn : Func} {p u : Tmp} {ty : TypeId} (h : fn.results = #[.cell p ty, .tmp u]) (tmps : Array Value) (w : World) (g : Nat) (t : TypeId) (cs : Array Value) (fr : Nat × Nat) (d : TypeDesc)
    (hp : tmps.getD p undef = .pointer (some ⟨g, 0, none⟩)) (hg : w.heap[g]? = some (.cells cs t fr))
    (hu : P.underlying ty = some d) (hd : (match d with | .struct _ | .array _ _ => true | _ => false) = true) (hi : (P.info? ty).map (·.size) = some cs.size) :
    (results fn tmps).run P w = .ok (.tuple #[.agg cs, tmps.getD u undef]) w := by
  have hp' : tmps[p]?.getD undef = .pointer (some ⟨g, 0, none⟩) := by simpa using hp
  simp [results, h, hp', asAddr, run_loadVar_row w g t ty cs fr d hg hu hd hi]
set_option maxRecDepth 100000 in
set_option maxHeartbeats 2000000 in
theorem rget_true (block : Nat) (bytes : List UInt8) (ad : Addr) (c : Nat) (w : World) (hr : Reads w w.heap.size 1 (some ad) 176 (bs (recB block bytes true))) (hc : 176 ≤ c) (hb : block < 18446744073709551616) :
    Calls Tryz.prog 79 #[.slice (some ad) 176 c] w fun e w' => ∃ v, e = .returned (.tuple #[.agg #[.int .u64 (block : Int), v, .bool true], .int .i64 0]) ∧ Owns w' w.heap.size v bytes ∧ Below w.heap.size w w' := by
  have hl : bytes.length = 160 := by have h := hr.1; rw [bs_length, recB_length] at h; omega
  have hR : recB block bytes true = [1, 1, 0, 0, 0, 0, 0, 0] ++ (putB block 8 ++ bytes) := by unfold recB; rw [List.append_assoc]; rfl
  have hl8 := putB_length block 8
  have hgb : getB (((recB block bytes true).drop 8).take 8) = block := by
    rw [hR]
    show getB (List.take 8 (putB block 8 ++ bytes)) = block
    rw [List.take_left' hl8]
    exact getB_putB block 8 (by have : (256 : Nat) ^ 8 = 18446744073709551616 := by decide
                                omega)
  have hd16 : (recB block bytes true).drop 16 = bytes := by unfold recB; exact List.drop_left' (by rw [List.length_append, padB_length, putB_length])
  have ht6 : ((recB block bytes true).drop 2).take 6 = List.replicate 6 0 := by rw [hR]; rfl
  have a0 : ad.add 0 = ad := by simp [Addr.add]
  have a1 : ad.add 1 = ⟨ad.block, ad.off + 1, none⟩ := by simp [Addr.add]
  have a2 : ad.add 2 = ⟨ad.block, ad.off + 2, none⟩ := by simp [Addr.add]
  have a16 : ad.add 16 = ⟨ad.block, ad.off + 16, none⟩ := by simp [Addr.add]
  have y0 : Below w.heap.size w (w.alloc (.cells #[.int .u64 0, .slice none 0 0, .bool false] 95)) := (Below.refl _ _).alloc (Nat.le_refl _) _
  have k0 : Blk (w.alloc (.cells #[.int .u64 0, .slice none 0 0, .bool false] 95)) w.heap.size 95 #[.int .u64 0, .slice none 0 0, .bool false] := Blk.new_of rfl rfl
  have hr0 : Reads (w.alloc (.cells #[.int .u64 0, .slice none 0 0, .bool false] 95)) (w.alloc (.cells #[.int .u64 0, .slice none 0 0, .bool false] 95)).heap.size 1 (some ad) 176 (bs (recB block bytes true)) := (hr.below y0).more y0.size
  have hcell := hr0.2 (by omega)
  obtain ⟨ad', e', _, hcl⟩ := hcell
  obtain ⟨ad2, e2, hadlt, _⟩ := hr.2 (by omega)
  injection e2 with e2
  subst e2
  injection e' with e'
  subst e'
  have c0 : (w.alloc (.cells #[.int .u64 0, .slice none 0 0, .bool false] 95)).cell? ad = some (.int .u8 1) := by have h := hcl 0 (.int .u8 1) (by rw [hR]; rfl); rwa [a0] at h
  have c1 : (w.alloc (.cells #[.int .u64 0, .slice none 0 0, .bool false] 95)).cell? ⟨ad.block, ad.off + 1, none⟩ = some (.int .u8 1) := by have h := hcl 1 (.int .u8 1) (by rw [hR]; rfl); rwa [a1] at h
  have r2 : Reads (w.alloc (.cells #[.int .u64 0, .slice none 0 0, .bool false] 95)) (w.alloc (.cells #[.int .u64 0, .slice none 0 0, .bool false] 95)).heap.size 1 (some ⟨ad.block, ad.off + 2, none⟩) 6 (bs (List.replicate 6 0)) := by
    have h := hr0.part 2 6 (by omega)
    rw [bs_part, ht6, a2] at h
    exact h
  have r16 : Reads (w.alloc (.cells #[.int .u64 0, .slice none 0 0, .bool false] 95)) (w.alloc (.cells #[.int .u64 0, .slice none 0 0, .bool false] 95)).heap.size 1 (some ⟨ad.block, ad.off + 16, none⟩) 160 (bs bytes) := by
    have h := hr0.part 16 160 (by omega)
    rw [bs_part, hd16, List.take_of_length_le (by omega), a16] at h
    exact h
  have hget := fun W h => wget_ok (some ad) 176 c 8 8 (recB block bytes true) W h hc (by omega) (by omega) (by omega) (by omega)
  rw [hgb] at hget
  simp only [show ((8 : Nat) : Int) = 8 from rfl] at hget
  have hcz := fun W h => contains_nz 98 (enters_of Tryz.func98 (by kernel_rfl) rfl) nz_get (some ⟨ad.block, ad.off + 2, none⟩) (c - 2) (List.replicate 6 0) W h (by rw [List.length_replicate]; omega)
  rw [List.length_replicate, show (List.replicate 6 (0 : UInt8)).any (· != 0) = false from rfl] at hcz
  have hclo := fun W h => clone_any (some ⟨ad.block, ad.off + 16, none⟩) 160 (c - 16) bytes W h (by omega)
  have lt0 := k0.lt
  have i1 : ¬ c = 2 := by omega
  have i2 : ¬ c = 16 := by omega
  have i3 : (8 : Int) ≤ (c : Int) := by omega
  have i4 : (16 : Int) ≤ (c : Int) := by omega
  have HG := Lib.hid hgb
  have HL := Lib.hid hl
  clear hR hl8 hgb hd16 ht6 a0 a1 a2 a16 hcl hl hr
  go_enter Tryz.func79, Tryz.ntmps79
  go_wp2_with (first | (go_at_call 96; refine (hcz _ r2).mono ?_; rintro e w1 ⟨rfl, m, rfl⟩) | (go_at_call 95; refine (hget _ (hr0.drewN m)).mono ?_; rintro e w1 ⟨rfl, rfl⟩))
  obtain ⟨W0, hW0⟩ : ∃ W0 : World, W0 = (w.alloc (.cells #[.int .u64 0, .slice none 0 0, .bool false] 95)).drewN m := ⟨_, rfl⟩
  have y1 : Below w.heap.size w W0.drew := by rw [hW0]; exact (below_drewN y0 m).drew
  have k1 : Blk W0.drew w.heap.size 95 #[.int .u64 0, .slice none 0 0, .bool false] := by rw [hW0]; exact k0
  have d1 : W0.drew.cell? ⟨ad.block, ad.off + 1, none⟩ = some (.int .u8 1) := by rw [hW0]; exact c1
  have r1 : Reads W0.drew W0.drew.heap.size 1 (some ⟨ad.block, ad.off + 16, none⟩) 160 (bs bytes) := by rw [hW0]; exact r16
  have lt1 := k1.lt
  have hne : w.heap.size ≠ ad.block := by omega
  have hadlt1 : ad.block < W0.drew.heap.size := by omega
  rw [← hW0]
  clear hget hcz c0 c1 r2 r16 hr0 y0 k0 lt0 hW0
  go_region_held3 (fun w' => w'.cell? ⟨ad.block, ad.off + 1, none⟩ = some (.int .u8 1)) (first | (exact d1) | (exact d3) | go_keep) (first | (go_at_call 43; refine (hclo _ r1).mono ?_; rintro e w3 ⟨v3, rfl, hv3, b3⟩; obtain ⟨A3, c3, rfl⟩ := hv3.shape; have d3 := (b3.cell (p := ⟨ad.block, ad.off + 1, none⟩) hadlt1).trans d1; have k3 := k1.below b3 lt1; have s0 : w3.cell? ⟨w.heap.size, 0, none⟩ = some (.int .u64 0) := k3.cell 0; have s1 : w3.cell? ⟨w.heap.size, 1, none⟩ = some (.slice none 0 0) := k3.cell 1; have s2 : w3.cell? ⟨w.heap.size, 2, none⟩ = some (.bool false) := k3.cell 2; have f0 := k3.frozen 0; have f1 := k3.frozen 1; have f2 := k3.frozen 2))
  have kF : Blk (((w3.setCell ⟨w.heap.size, 0, none⟩ (.int .u64 (block : Int))).setCell ⟨w.heap.size, 1, none⟩ (.slice A3 bytes.length c3)).setCell ⟨w.heap.size, 2, none⟩ (.bool true)) w.heap.size 95 #[.int .u64 (block : Int), .slice A3 bytes.length c3, .bool true] := ((k3.set_ 0 _).set_ 1 _).set_ 2 _
  have y3 : Below w.heap.size w w3 := y1.trans (b3.mono y1.size)
  have yF : Below w.heap.size w (((w3.setCell ⟨w.heap.size, 0, none⟩ (.int .u64 (block : Int))).setCell ⟨w.heap.size, 1, none⟩ (.slice A3 bytes.length c3)).setCell ⟨w.heap.size, 2, none⟩ (.bool true)) := ((y3.setCell (Nat.le_refl _) _).setCell (Nat.le_refl _) _).setCell (Nat.le_refl _) _
  have oF : Owns (((w3.setCell ⟨w.heap.size, 0, none⟩ (.int .u64 (block : Int))).setCell ⟨w.heap.size, 1, none⟩ (.slice A3 bytes.length c3)).setCell ⟨w.heap.size, 2, none⟩ (.bool true)) w.heap.size (.slice A3 bytes.length c3) bytes :=
    (((hv3.far (p := ⟨w.heap.size, 0, none⟩) lt1 _).far (p := ⟨w.heap.size, 1, none⟩) lt1 _).far (p := ⟨w.heap.size, 2, none⟩) lt1 _).lower (Nat.le_of_lt lt1)
  clear k3 s0 s1 s2 f0 f1 f2 d3 hclo b3 hv3 y3
  go_wp2
  refine bodyPost_ret (results_row_tmp (fr := (0, 0)) rfl _ _ w.heap.size 95 _ _ rfl kF Tryz.underlying95 rfl (by kernel_rfl)) rfl ?_
  exact ⟨_, rfl, oF, yF⟩
set_option maxRecDepth 100000 in
set_option maxHeartbeats 2000000 in
theorem rget_false (block : Nat) (bytes : List UInt8) (ad : Addr) (c : Nat) (w : World) (hr : Reads w w.heap.size 1 (some ad) 176 (bs (recB block bytes false))) (hc : 176 ≤ c) (hb : block < 18446744073709551616) :
    Calls Tryz.prog 79 #[.slice (some ad) 176 c] w fun e w' => ∃ v, e = .returned (.tuple #[.agg #[.int .u64 (block : Int), v, .bool false], .int .i64 0]) ∧ Owns w' w.heap.size v bytes ∧ Below w.heap.size w w' := by
  have hl : bytes.length = 160 := by have h := hr.1; rw [bs_length, recB_length] at h; omega
  have hR : recB block bytes false = [1, 0, 0, 0, 0, 0, 0, 0] ++ (putB block 8 ++ bytes) := by unfold recB; rw [List.append_assoc]; rfl
  have hl8 := putB_length block 8
  have hgb : getB (((recB block bytes false).drop 8).take 8) = block := by
    rw [hR]
    show getB (List.take 8 (putB block 8 ++ bytes)) = block
    rw [List.take_left' hl8]
    exact getB_putB block 8 (by have : (256 : Nat) ^ 8 = 18446744073709551616 := by decide
                                omega)
  have hd16 : (recB block bytes false).drop 16 = bytes := by unfold recB; exact List.drop_left' (by rw [List.length_append, padB_length, putB_length])
  have ht6 : ((recB block bytes false).drop 2).take 6 = List.replicate 6 0 := by rw [hR]; rfl
  have a0 : ad.add 0 = ad := by simp [Addr.add]
  have a1 : ad.add 1 = ⟨ad.block, ad.off + 1, none⟩ := by simp [Addr.add]
  have a2 : ad.add 2 = ⟨ad.block, ad.off + 2, none⟩ := by simp [Addr.add]
  have a16 : ad.add 16 = ⟨ad.block, ad.off + 16, none⟩ := by simp [Addr.add]
  have y0 : Below w.heap.size w (w.alloc (.cells #[.int .u64 0, .slice none 0 0, .bool false] 95)) := (Below.refl _ _).alloc (Nat.le_refl _) _
  have k0 : Blk (w.alloc (.cells #[.int .u64 0, .slice none 0 0, .bool false] 95)) w.heap.size 95 #[.int .u64 0, .slice none 0 0, .bool false] := Blk.new_of rfl rfl
  have hr0 : Reads (w.alloc (.cells #[.int .u64 0, .slice none 0 0, .bool false] 95)) (w.alloc (.cells #[.int .u64 0, .slice none 0 0, .bool false] 95)).heap.size 1 (some ad) 176 (bs (recB block bytes false)) := (hr.below y0).more y0.size
  have hcell := hr0.2 (by omega)
  obtain ⟨ad', e', _, hcl⟩ := hcell
  obtain ⟨ad2, e2, hadlt, _⟩ := hr.2 (by omega)
  injection e2 with e2
  subst e2
  injection e' with e'
  subst e'
  have c0 : (w.alloc (.cells #[.int .u64 0, .slice none 0 0, .bool false] 95)).cell? ad = some (.int .u8 1) := by have h := hcl 0 (.int .u8 1) (by rw [hR]; rfl); rwa [a0] at h
  have c1 : (w.alloc (.cells #[.int .u64 0, .slice none 0 0, .bool false] 95)).cell? ⟨ad.block, ad.off + 1, none⟩ = some (.int .u8 0) := by have h := hcl 1 (.int .u8 0) (by rw [hR]; rfl); rwa [a1] at h
  have r2 : Reads (w.alloc (.cells #[.int .u64 0, .slice none 0 0, .bool false] 95)) (w.alloc (.cells #[.int .u64 0, .slice none 0 0, .bool false] 95)).heap.size 1 (some ⟨ad.block, ad.off + 2, none⟩) 6 (bs (List.replicate 6 0)) := by
    have h := hr0.part 2 6 (by omega)
    rw [bs_part, ht6, a2] at h
    exact h
  have r16 : Reads (w.alloc (.cells #[.int .u64 0, .slice none 0 0, .bool false] 95)) (w.alloc (.cells #[.int .u64 0, .slice none 0 0, .bool false] 95)).heap.size 1 (some ⟨ad.block, ad.off + 16, none⟩) 160 (bs bytes) := by
    have h := hr0.part 16 160 (by omega)
    rw [bs_part, hd16, List.take_of_length_le (by omega), a16] at h
    exact h
  have hget := fun W h => wget_ok (some ad) 176 c 8 8 (recB block bytes false) W h hc (by omega) (by omega) (by omega) (by omega)
  rw [hgb] at hget
  simp only [show ((8 : Nat) : Int) = 8 from rfl] at hget
  have hcz := fun W h => contains_nz 98 (enters_of Tryz.func98 (by kernel_rfl) rfl) nz_get (some ⟨ad.block, ad.off + 2, none⟩) (c - 2) (List.replicate 6 0) W h (by rw [List.length_replicate]; omega)
  rw [List.length_replicate, show (List.replicate 6 (0 : UInt8)).any (· != 0) = false from rfl] at hcz
  have hclo := fun W h => clone_any (some ⟨ad.block, ad.off + 16, none⟩) 160 (c - 16) bytes W h (by omega)
  have lt0 := k0.lt
  have i1 : ¬ c = 2 := by omega
  have i2 : ¬ c = 16 := by omega
  have i3 : (8 : Int) ≤ (c : Int) := by omega
  have i4 : (16 : Int) ≤ (c : Int) := by omega
  have HG := Lib.hid hgb
  have HL := Lib.hid hl
  clear hR hl8 hgb hd16 ht6 a0 a1 a2 a16 hcl hl hr
  go_enter Tryz.func79, Tryz.ntmps79
  go_wp2_with (first | (go_at_call 96; refine (hcz _ r2).mono ?_; rintro e w1 ⟨rfl, m, rfl⟩) | (go_at_call 95; refine (hget _ (hr0.drewN m)).mono ?_; rintro e w1 ⟨rfl, rfl⟩))
  obtain ⟨W0, hW0⟩ : ∃ W0 : World, W0 = (w.alloc (.cells #[.int .u64 0, .slice none 0 0, .bool false] 95)).drewN m := ⟨_, rfl⟩
  have y1 : Below w.heap.size w W0.drew := by rw [hW0]; exact (below_drewN y0 m).drew
  have k1 : Blk W0.drew w.heap.size 95 #[.int .u64 0, .slice none 0 0, .bool false] := by rw [hW0]; exact k0
  have d1 : W0.drew.cell? ⟨ad.block, ad.off + 1, none⟩ = some (.int .u8 0) := by rw [hW0]; exact c1
  have r1 : Reads W0.drew W0.drew.heap.size 1 (some ⟨ad.block, ad.off + 16, none⟩) 160 (bs bytes) := by rw [hW0]; exact r16
  have lt1 := k1.lt
  have hne : w.heap.size ≠ ad.block := by omega
  have hadlt1 : ad.block < W0.drew.heap.size := by omega
  rw [← hW0]
  clear hget hcz c0 c1 r2 r16 hr0 y0 k0 lt0 hW0
  go_region_held3 (fun w' => w'.cell? ⟨ad.block, ad.off + 1, none⟩ = some (.int .u8 0)) (first | (exact d1) | (exact d3) | go_keep) (first | (go_at_call 43; refine (hclo _ r1).mono ?_; rintro e w3 ⟨v3, rfl, hv3, b3⟩; obtain ⟨A3, c3, rfl⟩ := hv3.shape; have d3 := (b3.cell (p := ⟨ad.block, ad.off + 1, none⟩) hadlt1).trans d1; have k3 := k1.below b3 lt1; have s0 : w3.cell? ⟨w.heap.size, 0, none⟩ = some (.int .u64 0) := k3.cell 0; have s1 : w3.cell? ⟨w.heap.size, 1, none⟩ = some (.slice none 0 0) := k3.cell 1; have s2 : w3.cell? ⟨w.heap.size, 2, none⟩ = some (.bool false) := k3.cell 2; have f0 := k3.frozen 0; have f1 := k3.frozen 1; have f2 := k3.frozen 2))
  have kF : Blk (((w3.setCell ⟨w.heap.size, 0, none⟩ (.int .u64 (block : Int))).setCell ⟨w.heap.size, 1, none⟩ (.slice A3 bytes.length c3)).setCell ⟨w.heap.size, 2, none⟩ (.bool false)) w.heap.size 95 #[.int .u64 (block : Int), .slice A3 bytes.length c3, .bool false] := ((k3.set_ 0 _).set_ 1 _).set_ 2 _
  have y3 : Below w.heap.size w w3 := y1.trans (b3.mono y1.size)
  have yF : Below w.heap.size w (((w3.setCell ⟨w.heap.size, 0, none⟩ (.int .u64 (block : Int))).setCell ⟨w.heap.size, 1, none⟩ (.slice A3 bytes.length c3)).setCell ⟨w.heap.size, 2, none⟩ (.bool false)) := ((y3.setCell (Nat.le_refl _) _).setCell (Nat.le_refl _) _).setCell (Nat.le_refl _) _
  have oF : Owns (((w3.setCell ⟨w.heap.size, 0, none⟩ (.int .u64 (block : Int))).setCell ⟨w.heap.size, 1, none⟩ (.slice A3 bytes.length c3)).setCell ⟨w.heap.size, 2, none⟩ (.bool false)) w.heap.size (.slice A3 bytes.length c3) bytes :=
    (((hv3.far (p := ⟨w.heap.size, 0, none⟩) lt1 _).far (p := ⟨w.heap.size, 1, none⟩) lt1 _).far (p := ⟨w.heap.size, 2, none⟩) lt1 _).lower (Nat.le_of_lt lt1)
  clear k3 s0 s1 s2 f0 f1 f2 d3 hclo b3 hv3 y3
  go_wp2
  refine bodyPost_ret (results_row_tmp (fr := (0, 0)) rfl _ _ w.heap.size 95 _ _ rfl kF Tryz.underlying95 rfl (by kernel_rfl)) rfl ?_
  exact ⟨_, rfl, oF, yF⟩
theorem rget_any (block : Nat) (bytes : List UInt8) (last : Bool) (ad : Addr) (c : Nat) (w : World) (hr : Reads w w.heap.size 1 (some ad) 176 (bs (recB block bytes last))) (hc : 176 ≤ c) (hb : block < 18446744073709551616) :
    Calls Tryz.prog 79 #[.slice (some ad) 176 c] w fun e w' => ∃ v, e = .returned (.tuple #[.agg #[.int .u64 (block : Int), v, .bool last], .int .i64 0]) ∧ Owns w' w.heap.size v bytes ∧ Below w.heap.size w w' := by
  cases last with
  | true => exact rget_true block bytes ad c w hr hc hb
  | false => exact rget_false block bytes ad c w hr hc hb
end Go.Proofs.YtkhebllmnagkmaaGreatDoor
/- Contract of replay's piece.open, of a slot that was sealed. Conditions: what each names. -/
namespace Go.Proofs.YtkhebllmnagkmaaGreatDoor
open Go.RowKit
set_option linter.unusedVariables false

theorem sealB_eq (key : List UInt8) (place v : Nat) (plain : List UInt8) (h : plain.length = 176) : sealB key place v plain = putB v 8 ++ (crypt key (nonceB place v) plain ++ List.replicate 8 0) := by
  unfold sealB padB
  have h1 : (putB v 8 ++ crypt key (nonceB place v) plain).length = 184 := by rw [List.length_append, putB_length, crypt_length, h]
  rw [List.take_append, List.take_of_length_le (by omega), h1, List.take_replicate, List.append_assoc]
  rfl
theorem sealB_ver (key : List UInt8) (place v : Nat) (plain : List UInt8) (h : plain.length = 176) (hv : v < 18446744073709551616) : getB ((sealB key place v plain).take 8) = v := by
  rw [sealB_eq key place v plain h, List.take_left' (putB_length _ _)]
  exact getB_putB v 8 (by
    have : (256 : Nat) ^ 8 = 18446744073709551616 := by decide
    omega)
theorem sealB_zero (key : List UInt8) (place v : Nat) (plain : List UInt8) (h : plain.length = 176) : ((sealB key place v plain).drop 184).any (· != 0) = false := by
  rw [sealB_eq key place v plain h, ← List.append_assoc, List.drop_left' (by rw [List.length_append, putB_length, crypt_length, h])]
  rfl
theorem sealB_open (key : List UInt8) (place v : Nat) (plain : List UInt8) (h : plain.length = 176) : crypt key (nonceB place v) (((sealB key place v plain).drop 8).take 176) = plain := by
  rw [sealB_eq key place v plain h, List.drop_left' (putB_length _ _), List.take_left' (by rw [crypt_length, h]), crypt_crypt]
set_option maxRecDepth 100000 in
set_option maxHeartbeats 2000000 in
theorem popen_any (key bytes : List UInt8) (place v block : Nat) (last : Bool) (ad : Addr) (c : Nat) (w : World) (hr : Reads w w.heap.size 1 (some ad) 192 (bs (sealB key place v (recB block bytes last)))) (hc : 192 ≤ c) (hk : key.length = 32) (hby : bytes.length = 160)
    (hp : place < 4294967296) (hv0 : v ≠ 0) (hv1 : v < 18446744073709551615) (hb : block < 18446744073709551616) (hT : Tabs w) :
    Calls Tryz.prog 47 #[.agg #[.int .u32 (place : Int), .slice (some ad) 192 c], .agg (bs key).toArray] w fun e w' => ∃ vb, e = .returned (.tuple #[.agg #[.int .u64 (block : Int), vb, .bool last], .int .i64 0]) ∧ Owns w' w.heap.size vb bytes ∧ Below w.heap.size w w' := by
  have hrl : (recB block bytes last).length = 176 := by rw [recB_length, hby]
  have z1 : (bs key).toArray.size = 32 := by simp [bs_length, hk]
  have hop := fun W h hT => open_ok key (sealB key place v (recB block bytes last)) place v ad c W h hc hk hp (sealB_ver key place v _ hrl (by omega)) hv0 (by omega) (sealB_zero key place v _ hrl) hT
  rw [sealB_open key place v _ hrl] at hop
  have hget := fun W a c h => rget_any block bytes last a c W h
  have y0 : Below w.heap.size w (((w.alloc (.cells #[.int .u32 (place : Int), .slice (some ad) 192 c] 122)).alloc (.cells (bs key).toArray 23)).alloc (.cells #[.int .u64 0, .slice none 0 0, .bool false] 95)) := (((Below.refl _ w).alloc (Nat.le_refl _) _).alloc (by simp) _).alloc (by simp; omega) _
  have r0 := (hr.below y0).more y0.size
  have hT0 : Tabs (((w.alloc (.cells #[.int .u32 (place : Int), .slice (some ad) 192 c] 122)).alloc (.cells (bs key).toArray 23)).alloc (.cells #[.int .u64 0, .slice none 0 0, .bool false] 95)) := ((hT.alloc _).alloc _).alloc _
  have k0 : Blk (((w.alloc (.cells #[.int .u32 (place : Int), .slice (some ad) 192 c] 122)).alloc (.cells (bs key).toArray 23)).alloc (.cells #[.int .u64 0, .slice none 0 0, .bool false] 95)) (w.heap.size + 2) 95 #[.int .u64 0, .slice none 0 0, .bool false] := Blk.new_of (by simp) rfl
  generalize sealB key place v (recB block bytes last) = slot at *
  generalize recB block bytes last = rb at *
  have Z1 := Lib.hid z1
  have HRL := Lib.hid hrl
  have HBY := Lib.hid hby
  clear z1 hrl hby hr hT
  go_enter Tryz.func47, Tryz.ntmps47
  go_wp2_with (first | ((with_reducible refine wpList_load_blk (o := ⟨some 10, _, _, _, _, _⟩) rfl 23 _ rfl (w.heap.size + 1) rfl 23 _ _ ((Blk.new_of (by simp) rfl).alloc _) Tryz.underlying23 rfl (by rw [Z1.out]; kernel_rfl) ?_)) | (go_at_call 78; refine (hop _ r0 hT0).mono ?_; rintro e w1 ⟨v1, rfl, hv1o, b1⟩; obtain ⟨g1, c1, hg, _, _, hc1⟩ := hv1o.form (by rw [HRL.out]; omega); rw [HRL.out] at hg hc1; subst hg; have r1 := hv1o.reads; rw [HRL.out] at r1; have k1 := k0.below b1 k0.lt) | (go_at_call 79; refine (hget _ _ _ r1 hc1 hb).mono ?_; rintro e w2 ⟨v2, rfl, hv2, b2⟩; obtain ⟨A2, c2, rfl⟩ := hv2.shape; have k2 := k1.below b2 k1.lt) | ((with_reducible refine wpList_store_blk (o := ⟨none, .store 95 (.tmp 4) (.tmp 25), _, _, _, _⟩) rfl 95 (.tmp 4) (.tmp 25) rfl (w.heap.size + 2) #[.int .u64 (block : Int), .slice A2 bytes.length c2, .bool last] rfl rfl 95 _ k2 (by kernel_rfl) (by simp) (by simp [Value.oneCell']) ?_); intro w3 k3 g3 s3))
  have y1 : Below w.heap.size w w1 := y0.trans (b1.mono y0.size)
  have y2 : Below w.heap.size w w2 := y1.trans (b2.mono y1.size)
  have hlt1 : w.heap.size + 2 < w1.heap.size := k1.lt
  refine bodyPost_ret (results_row_tmp (fr := (0, 0)) rfl _ _ (w.heap.size + 2) 95 _ _ rfl k3 Tryz.underlying95 rfl (by kernel_rfl)) rfl ?_
  refine ⟨_, rfl, ?_, y2.grown g3 y2.size (fun k e => by injection e with e; omega)⟩
  have h3 : Owns w3 w1.heap.size (.slice A2 bytes.length c2) bytes := World.ownsRow.kept hv2 g3 (.inr fun e => by have h := (World.ownsRow.lt hv2 _ e).1; omega)
  exact h3.lower y1.size
end Go.Proofs.YtkhebllmnagkmaaGreatDoor
