/- Contracts and lemmas under the statements of this seat, one behind the other. Conditions: what each names. -/
import Derived.Test.YtkhebllmnagkmaaGreatDoorG24
/- Bytes of a record (plain): which are one, and that they are those of what they tell. -/
namespace Go.Proofs.YtkhebllmnagkmaaGreatDoor
open Go.RowKit
set_option linter.unusedVariables false

theorem putB_cons (x n : Nat) : putB x (n + 1) = UInt8.ofNat x :: putB (x / 256) n := by
  unfold putB
  rw [List.range_succ_eq_map, List.map_cons, List.map_map]
  refine congr (congrArg List.cons (by simp)) (List.map_congr_left fun i _ => ?_)
  show UInt8.ofNat (x / 2 ^ (8 * (i + 1))) = UInt8.ofNat (x / 256 / 2 ^ (8 * i))
  rw [Nat.div_div_eq_div_mul, show 8 * (i + 1) = 8 + 8 * i by omega, Nat.pow_add]
theorem putB_getB : ∀ (l : List UInt8), putB (getB l) l.length = l
  | [] => rfl
  | b :: l => by
    have ih := putB_getB l
    have hb := b.toNat_lt
    rw [List.length_cons, putB_cons]
    show UInt8.ofNat (b.toNat + 256 * getB l) :: putB ((b.toNat + 256 * getB l) / 256) l.length = b :: l
    rw [show (b.toNat + 256 * getB l) / 256 = getB l by omega, ih]
    congr 1
    apply UInt8.toNat_inj.1
    rw [UInt8.toNat_ofNat']
    omega
theorem recOk_parts {p : List UInt8} (h : recOk p = true) : p.getD 0 0 = 1 ∧ (p.getD 1 0).toNat ≤ 1 ∧ ((p.take 8).drop 2).any (· != 0) = false := by
  unfold recOk at h
  rw [Bool.and_eq_true, Bool.and_eq_true] at h
  exact ⟨by simpa using h.1.1, by simpa using h.1.2, by simpa using h.2⟩
theorem recB_recOf (p : List UInt8) (hl : p.length = 176) (h : recOk p = true) : recB (recOf p).1.1 (recOf p).1.2 (recOf p).2 = p := by
  obtain ⟨h0, h1, h2⟩ := recOk_parts h
  have hq : (p.take 8).length = 8 := by rw [List.length_take]; omega
  have hm : ((p.drop 8).take 8).length = 8 := by rw [List.length_take, List.length_drop]; omega
  have e1 : p = p.take 8 ++ ((p.drop 8).take 8 ++ p.drop 16) := by
    rw [show p.drop 16 = (p.drop 8).drop 8 by rw [List.drop_drop], List.take_append_drop, List.take_append_drop]
  have e2 : putB (recOf p).1.1 8 = (p.drop 8).take 8 := by
    have := putB_getB ((p.drop 8).take 8)
    rw [hm] at this
    exact this
  have e3 : padB [1, if (recOf p).2 then 1 else 0] 8 = p.take 8 := by
    have a0 : (p.take 8).getD 0 0 = 1 := by rw [List.getD_eq_getElem?_getD, List.getElem?_take_of_lt (by omega), ← List.getD_eq_getElem?_getD]; exact h0
    have a1 : (p.take 8).getD 1 0 = p.getD 1 0 := by rw [List.getD_eq_getElem?_getD, List.getElem?_take_of_lt (by omega), ← List.getD_eq_getElem?_getD]
    show padB [1, if (p.getD 1 0 == 1) then 1 else 0] 8 = p.take 8
    rw [← a1] at h1 ⊢
    generalize p.take 8 = q at *
    match q, hq with
    | [b0, b1, b2, b3, b4, b5, b6, b7], _ =>
      simp only [List.getD_cons_zero] at a0
      simp only [List.getD_cons_succ, List.getD_cons_zero] at h1
      simp at h2
      obtain ⟨r2, r3, r4, r5, r6, r7⟩ := h2
      subst a0 r2 r3 r4 r5 r6 r7
      have hc : b1 = 0 ∨ b1 = 1 := by
        rcases (show b1.toNat = 0 ∨ b1.toNat = 1 by omega) with h | h
        · exact .inl (UInt8.toNat_inj.1 h)
        · exact .inr (UInt8.toNat_inj.1 h)
      rcases hc with rfl | rfl <;> rfl
  unfold recB
  rw [e2, e3, List.append_assoc]
  exact e1.symm
theorem recOf_recB (block : Nat) (bytes : List UInt8) (last : Bool) (hb : block < 18446744073709551616) : recOf (recB block bytes last) = ((block, bytes), last) ∧ recOk (recB block bytes last) = true := by
  have hR : recB block bytes last = [1, if last then 1 else 0, 0, 0, 0, 0, 0, 0] ++ (putB block 8 ++ bytes) := by unfold recB; rw [List.append_assoc]; rfl
  have hl8 := putB_length block 8
  have h3 : (recB block bytes last).drop 8 = putB block 8 ++ bytes := by rw [hR]; rfl
  have h4 : (recB block bytes last).drop 16 = bytes := by rw [show (recB block bytes last).drop 16 = ((recB block bytes last).drop 8).drop 8 by rw [List.drop_drop], h3, List.drop_left' hl8]
  have hgb : getB (((recB block bytes last).drop 8).take 8) = block := by
    rw [h3, List.take_left' hl8]
    exact getB_putB block 8 (by have : (256 : Nat) ^ 8 = 18446744073709551616 := by decide
                                omega)
  have h1 : (recB block bytes last).getD 1 0 = if last then 1 else 0 := by rw [hR]; rfl
  have h0 : (recB block bytes last).getD 0 0 = 1 := by rw [hR]; rfl
  have h5 : (((recB block bytes last).take 8).drop 2).any (· != 0) = false := by rw [hR]; rfl
  refine ⟨?_, ?_⟩
  · unfold recOf
    rw [hgb, h4, h1]
    cases last <;> rfl
  · unfold recOk
    rw [h0, h1, h5]
    cases last <;> rfl
end Go.Proofs.YtkhebllmnagkmaaGreatDoor
/- Contract of seal.Open at a slot that isn't one, and record.Get at bytes that are none. Conditions: what each names. -/
namespace Go.Proofs.YtkhebllmnagkmaaGreatDoor
open Go.RowKit
set_option linter.unusedVariables false

set_option maxRecDepth 100000 in
set_option maxHeartbeats 2000000 in
theorem open_bad (key s : List UInt8) (place : Nat) (ad : Addr) (c : Nat) (w : World) (hr : Reads w w.heap.size 1 (some ad) 192 (bs s)) (hc : 192 ≤ c) (hbad : openOk 176 s = false) :
    Calls Tryz.prog 78 #[.agg (bs key).toArray, .int .u32 (place : Int), .slice (some ad) 192 c, .int .i64 176] w fun e w' => e = .returned (.tuple #[.int .u64 0, .slice none 0 0, .int .i64 11]) ∧ Below w.heap.size w w' := by
  have hs : s.length = 192 := by have h := hr.1; rw [bs_length] at h; omega
  have hvlt := verB_lt s
  have hsz := fun W => ssize_yes 176 W (.inr rfl)
  simp only [show ((176 : Nat) : Int) = 176 from rfl] at hsz
  have hr1 : Reads (w.alloc (.cells (bs key).toArray 23)) (w.alloc (.cells (bs key).toArray 23)).heap.size 1 (some ad) 192 (bs s) := (hr.alloc (Nat.le_refl _) _).more (by simp)
  have hget := fun W h => wget_ok (some ad) 192 c 0 8 s W h hc (by omega) (by omega) (by omega) (by omega)
  rw [List.drop_zero, show getB (s.take 8) = verB s from rfl] at hget
  simp only [show ((8 : Nat) : Int) = 8 from rfl, show ((0 : Nat) : Int) = 0 from rfl] at hget
  have l8 : (s.drop 184).length = 8 := by rw [List.length_drop]; omega
  have hcz := fun W h => contains_nz 97 (enters_of Tryz.func97 (by kernel_rfl) rfl) nz_open (some ⟨ad.block, ad.off + 184, none⟩) (c - 184) (s.drop 184) W h (by omega)
  rw [l8] at hcz
  have e184 : ad.add 184 = ⟨ad.block, ad.off + 184, none⟩ := by simp [Addr.add]
  have ra : Reads (w.alloc (.cells (bs key).toArray 23)) (w.alloc (.cells (bs key).toArray 23)).heap.size 1 (some ⟨ad.block, ad.off + 184, none⟩) 8 (bs (s.drop 184)) := by
    have h := hr1.part 184 8 (by omega)
    rw [bs_part, List.take_of_length_le (by omega), e184] at h
    exact h
  have y0 : Below w.heap.size w (w.alloc (.cells (bs key).toArray 23)) := (Below.refl _ _).alloc (Nat.le_refl _) _
  have hok : openOk 176 s = (verB s != 0 && verB s != 18446744073709551615 && !((s.drop 184).any (· != 0))) := rfl
  rw [hbad] at hok
  have c184 : ¬ c = 184 := by omega
  have c8 : ¬ c = 8 := by omega
  generalize verB s = v at *
  generalize hs1 : s.drop 184 = s1 at *
  have hcI : (184 : Int) ≤ (c : Int) := by omega
  have hcJ : (8 : Int) ≤ (c : Int) := by omega
  have HA := Lib.hid l8
  have HC := Lib.hid e184
  have HS := Lib.hid hs
  have H1 := Lib.hid hs1
  have HOK := Lib.hid hok
  clear l8 e184 hs hs1 hbad hok
  by_cases hv0 : v = 0
  · have g0 : (v : Int) = 0 := by omega
    have e0 : ((v : Int) == 0) = true := by rw [g0]; rfl
    clear hcz hv0
    go_enter Tryz.func78, Tryz.ntmps78
    go_wp2_with (first | (go_at_call 67; refine (hsz _).mono ?_; rintro e w1 ⟨rfl, rfl⟩) | (go_at_call 95; refine (hget _ hr1).mono ?_; rintro e w1 ⟨rfl, rfl⟩))
    go_ret3
    exact ⟨rfl, y0⟩
  · have g0 : ¬ (v : Int) = 0 := by omega
    have e0 : ((v : Int) == 0) = false := beq_eq_false_iff_ne.2 g0
    by_cases hv1 : v = 18446744073709551615
    · have g1 : (v : Int) = 18446744073709551615 := by omega
      have e1 : ((v : Int) == 18446744073709551615) = true := by rw [g1]; rfl
      clear hcz hv0 hv1
      go_enter Tryz.func78, Tryz.ntmps78
      go_wp2_with (first | (go_at_call 67; refine (hsz _).mono ?_; rintro e w1 ⟨rfl, rfl⟩) | (go_at_call 95; refine (hget _ hr1).mono ?_; rintro e w1 ⟨rfl, rfl⟩))
      go_ret3
      exact ⟨rfl, y0⟩
    · have g1 : ¬ (v : Int) = 18446744073709551615 := by omega
      have e1 : ((v : Int) == 18446744073709551615) = false := beq_eq_false_iff_ne.2 g1
      have hz : s1.any (· != 0) = true := by
        have h := HOK.out
        have e0 : (v != 0) = true := by simp [hv0]
        have e1 : (v != 18446744073709551615) = true := by simp [hv1]
        rw [e0, e1, Bool.true_and, Bool.true_and] at h
        simpa using h.symm
      rw [hz] at hcz
      clear hv0 hv1 hz
      go_enter Tryz.func78, Tryz.ntmps78
      go_wp2_with (first | (go_at_call 67; refine (hsz _).mono ?_; rintro e w1 ⟨rfl, rfl⟩) | (go_at_call 95; refine (hget _ hr1).mono ?_; rintro e w1 ⟨rfl, rfl⟩) | (go_at_call 96; refine (hcz _ ra).mono ?_; rintro e w1 ⟨rfl, m, rfl⟩))
      go_ret3
      exact ⟨rfl, below_drewN y0 m⟩
end Go.Proofs.YtkhebllmnagkmaaGreatDoor
/- Contracts of record.Get, piece.open and record.Changes at whatever bytes. Conditions: what each names. -/
namespace Go.Proofs.YtkhebllmnagkmaaGreatDoor
open Go.RowKit
set_option linter.unusedVariables false

set_option maxRecDepth 100000 in
set_option maxHeartbeats 2000000 in
theorem rget_bad (p : List UInt8) (ad : Addr) (c : Nat) (w : World) (hr : Reads w w.heap.size 1 (some ad) 176 (bs p)) (hc : 176 ≤ c) (hbad : recOk p = false) :
    Calls Tryz.prog 79 #[.slice (some ad) 176 c] w fun e w' => e = .returned (.tuple #[.agg #[.int .u64 0, .slice none 0 0, .bool false], .int .i64 11]) ∧ Below w.heap.size w w' := by
  have hl : p.length = 176 := by have h := hr.1; rw [bs_length] at h; omega
  obtain ⟨a, ha⟩ : ∃ a, p[0]? = some a := ⟨_, List.getElem?_eq_getElem (by omega)⟩
  obtain ⟨b, hb⟩ : ∃ b, p[1]? = some b := ⟨_, List.getElem?_eq_getElem (by omega)⟩
  have hd : recOk p = (a == 1 && decide (b.toNat ≤ 1) && !(((p.take 8).drop 2).any (· != 0))) := by unfold recOk; rw [List.getD_eq_getElem?_getD, List.getD_eq_getElem?_getD, ha, hb]; rfl
  rw [hbad] at hd
  have e6 : (p.drop 2).take 6 = (p.take 8).drop 2 := by rw [List.drop_take]
  have l6 : ((p.take 8).drop 2).length = 6 := by rw [List.length_drop, List.length_take]; omega
  have a0 : ad.add 0 = ad := by simp [Addr.add]
  have a1 : ad.add 1 = ⟨ad.block, ad.off + 1, none⟩ := by simp [Addr.add]
  have a2 : ad.add 2 = ⟨ad.block, ad.off + 2, none⟩ := by simp [Addr.add]
  have y0 : Below w.heap.size w (w.alloc (.cells #[.int .u64 0, .slice none 0 0, .bool false] 95)) := (Below.refl _ _).alloc (Nat.le_refl _) _
  have k0 : Blk (w.alloc (.cells #[.int .u64 0, .slice none 0 0, .bool false] 95)) w.heap.size 95 #[.int .u64 0, .slice none 0 0, .bool false] := Blk.new_of rfl rfl
  have hr0 : Reads (w.alloc (.cells #[.int .u64 0, .slice none 0 0, .bool false] 95)) (w.alloc (.cells #[.int .u64 0, .slice none 0 0, .bool false] 95)).heap.size 1 (some ad) 176 (bs p) := (hr.below y0).more y0.size
  obtain ⟨ad', e', hadlt, hcl⟩ := hr0.2 (by omega)
  injection e' with e'
  subst e'
  have c0 : (w.alloc (.cells #[.int .u64 0, .slice none 0 0, .bool false] 95)).cell? ad = some (.int .u8 (a.toNat : Int)) := by have h := hcl 0 (.int .u8 (a.toNat : Int)) (by rw [bs_get, ha]; rfl); rwa [a0] at h
  have c1 : (w.alloc (.cells #[.int .u64 0, .slice none 0 0, .bool false] 95)).cell? ⟨ad.block, ad.off + 1, none⟩ = some (.int .u8 (b.toNat : Int)) := by have h := hcl 1 (.int .u8 (b.toNat : Int)) (by rw [bs_get, hb]; rfl); rwa [a1] at h
  have r2 : Reads (w.alloc (.cells #[.int .u64 0, .slice none 0 0, .bool false] 95)) (w.alloc (.cells #[.int .u64 0, .slice none 0 0, .bool false] 95)).heap.size 1 (some ⟨ad.block, ad.off + 2, none⟩) 6 (bs ((p.take 8).drop 2)) := by
    have h := hr0.part 2 6 (by omega)
    rw [bs_part, e6, a2] at h
    exact h
  have hcz := fun W h => contains_nz 98 (enters_of Tryz.func98 (by kernel_rfl) rfl) nz_get (some ⟨ad.block, ad.off + 2, none⟩) (c - 2) ((p.take 8).drop 2) W h (by omega)
  rw [l6] at hcz
  have i1 : ¬ c = 2 := by omega
  have HL := Lib.hid hl
  have HD := Lib.hid hd
  clear hd hbad e6 a0 a1 a2 hcl hl hr ha hb l6
  generalize (p.take 8).drop 2 = z at *
  by_cases ha : a = 1
  · subst ha
    have c0 : (w.alloc (.cells #[.int .u64 0, .slice none 0 0, .bool false] 95)).cell? ad = some (.int .u8 1) := c0
    by_cases hb : b.toNat ≤ 1
    · have hz : z.any (· != 0) = true := by
        have h := HD.out
        rw [decide_eq_true hb] at h
        simpa using h.symm
      have hbi : ¬ 1 < (b.toNat : Int) := by omega
      rw [hz] at hcz
      clear hz
      go_enter Tryz.func79, Tryz.ntmps79
      go_wp2_with (first | (go_at_call 96; refine (hcz _ r2).mono ?_; rintro e w1 ⟨rfl, m, rfl⟩))
      have kF := (((k0.drewN m).set_ 0 (.int .u64 0)).set_ 1 (.slice none 0 0)).set_ 2 (.bool false)
      refine bodyPost_ret (results_row_tmp (fr := (0, 0)) rfl _ _ w.heap.size 95 _ _ rfl kF Tryz.underlying95 rfl (by kernel_rfl)) rfl ?_
      exact ⟨rfl, (((below_drewN y0 m).setCell (Nat.le_refl _) _).setCell (Nat.le_refl _) _).setCell (Nat.le_refl _) _⟩
    · have hbi : 1 < (b.toNat : Int) := by omega
      go_enter Tryz.func79, Tryz.ntmps79
      go_wp2
      refine bodyPost_ret (results_row_tmp (fr := (0, 0)) rfl _ _ w.heap.size 95 _ _ rfl k0 Tryz.underlying95 rfl (by kernel_rfl)) rfl ?_
      exact ⟨rfl, y0⟩
  · have hai : ¬ (a.toNat : Int) = 1 := by intro h; apply ha; apply UInt8.toNat_inj.1; show a.toNat = 1; omega
    go_enter Tryz.func79, Tryz.ntmps79
    go_wp2
    refine bodyPost_ret (results_row_tmp (fr := (0, 0)) rfl _ _ w.heap.size 95 _ _ rfl k0 Tryz.underlying95 rfl (by kernel_rfl)) rfl ?_
    exact ⟨rfl, y0⟩
theorem openOk_parts {n : Nat} {s : List UInt8} (h : openOk n s = true) : verB s ≠ 0 ∧ verB s ≠ 18446744073709551615 ∧ (s.drop (8 + n)).any (· != 0) = false := by
  unfold openOk at h
  rw [Bool.and_eq_true, Bool.and_eq_true] at h
  exact ⟨by simpa using h.1.1, by simpa using h.1.2, by simpa using h.2⟩
theorem popV_parts {key : List UInt8} {place : Nat} {s : List UInt8} {r : Rec} (h : popV key place s = some r) : openOk 176 s = true ∧ recOk (plainB key place 176 s) = true ∧ r = recOf (plainB key place 176 s) := by
  unfold popV at h
  split at h
  · rename_i hc
    rw [Bool.and_eq_true] at hc
    injection h with h
    exact ⟨hc.1, hc.2, h.symm⟩
  · cases h
theorem popV_no {key : List UInt8} {place : Nat} {s : List UInt8} (h : popV key place s = none) (h2 : openOk 176 s = true) : recOk (plainB key place 176 s) = false := by
  unfold popV at h
  split at h
  · cases h
  · rename_i hc
    rw [h2, Bool.true_and] at hc
    simpa using hc
set_option maxRecDepth 100000 in
set_option maxHeartbeats 2000000 in
theorem popen_ok (key s : List UInt8) (place : Nat) (r : Rec) (ad : Addr) (c : Nat) (w : World) (hr : Reads w w.heap.size 1 (some ad) 192 (bs s)) (hc : 192 ≤ c) (hk : key.length = 32) (hp : place < 4294967296) (hpv : popV key place s = some r) (hT : Tabs w) :
    Calls Tryz.prog 47 #[.agg #[.int .u32 (place : Int), .slice (some ad) 192 c], .agg (bs key).toArray] w fun e w' => ∃ vb, e = .returned (.tuple #[.agg #[.int .u64 (r.1.1 : Int), vb, .bool r.2], .int .i64 0]) ∧ Owns w' w.heap.size vb r.1.2 ∧ Below w.heap.size w w' := by
  have hs : s.length = 192 := by have h := hr.1; rw [bs_length] at h; omega
  obtain ⟨hok, hrk, hrr⟩ := popV_parts hpv
  obtain ⟨hv0, hv1, hz⟩ := openOk_parts hok
  have hpl := plainB_length key place 176 s (by omega)
  have hrB := recB_recOf _ hpl hrk
  rw [← hrr] at hrB
  have hby : r.1.2.length = 160 := (popV_len hs hpv).1
  have hb : r.1.1 < 18446744073709551616 := (popV_len hs hpv).2
  obtain ⟨⟨block, bytes⟩, last⟩ := r
  simp only at hrB hby hb
  have hrl : (recB block bytes last).length = 176 := by rw [recB_length, hby]
  have z1 : (bs key).toArray.size = 32 := by simp [bs_length, hk]
  have hop := fun W h hT => open_ok key s place (verB s) ad c W h hc hk hp rfl hv0 hv1 hz hT
  rw [show crypt key (nonceB place (verB s)) ((s.drop 8).take 176) = recB block bytes last from hrB.symm] at hop
  generalize verB s = v at *
  have hget := fun W a c h => rget_any block bytes last a c W h
  have y0 : Below w.heap.size w (((w.alloc (.cells #[.int .u32 (place : Int), .slice (some ad) 192 c] 122)).alloc (.cells (bs key).toArray 23)).alloc (.cells #[.int .u64 0, .slice none 0 0, .bool false] 95)) := (((Below.refl _ w).alloc (Nat.le_refl _) _).alloc (by simp) _).alloc (by simp; omega) _
  have r0 := (hr.below y0).more y0.size
  have hT0 : Tabs (((w.alloc (.cells #[.int .u32 (place : Int), .slice (some ad) 192 c] 122)).alloc (.cells (bs key).toArray 23)).alloc (.cells #[.int .u64 0, .slice none 0 0, .bool false] 95)) := ((hT.alloc _).alloc _).alloc _
  have k0 : Blk (((w.alloc (.cells #[.int .u32 (place : Int), .slice (some ad) 192 c] 122)).alloc (.cells (bs key).toArray 23)).alloc (.cells #[.int .u64 0, .slice none 0 0, .bool false] 95)) (w.heap.size + 2) 95 #[.int .u64 0, .slice none 0 0, .bool false] := Blk.new_of (by simp) rfl
  clear hrB hpl hrk hrr hok hz hpv
  generalize recB block bytes last = rb at *
  have Z1 := Lib.hid z1
  have HRL := Lib.hid hrl
  have HBY := Lib.hid hby
  clear z1 hrl hby hr hT
  go_enter Tryz.func47, Tryz.ntmps47
  go_wp2_with (first | ((with_reducible refine wpList_load_blk (o := ⟨some 10, _, _, _, _, _⟩) rfl 23 _ rfl (w.heap.size + 1) rfl 23 _ _ ((Blk.new_of (by simp) rfl).alloc _) Tryz.underlying23 rfl (by rw [Z1.out]; kernel_rfl) ?_)) | (go_at_call 78; refine (hop _ r0 hT0).mono ?_; rintro e w1 ⟨v1, rfl, hv1o, b1⟩; obtain ⟨g1, c1, hg, _, _, hc1⟩ := hv1o.form (by rw [HRL.out]; omega); rw [HRL.out] at hg hc1; subst hg; have r1 := hv1o.reads; rw [HRL.out] at r1; have k1 := k0.below b1 k0.lt) | (go_at_call 79; refine (hget _ _ _ r1 hc1 hb).mono ?_; rintro e w2 ⟨v2, rfl, hv2, b2⟩; obtain ⟨A2, c2, rfl⟩ := hv2.shape; have k2 := k1.below b2 k1.lt) | ((with_reducible refine wpList_store_blk (o := ⟨none, .store 95 (.tmp 4) (.tmp 25), _, _, _, _⟩) rfl 95 (.tmp 4) (.tmp 25) rfl (w.heap.size + 2) #[.int .u64 (block : Int), .slice A2 bytes.length c2, .bool last] rfl rfl 95 _ k2 (by kernel_rfl) (by simp) (by simp [Value.oneCell']) ?_); intro w3 k3 g3 s3))
  have y1 : Below w.heap.size w w1 := y0.trans (b1.mono y0.size)
  have y2 : Below w.heap.size w w2 := y1.trans (b2.mono y1.size)
  have hlt1 : w.heap.size + 2 < w1.heap.size := k1.lt
  refine bodyPost_ret (results_row_tmp (fr := (0, 0)) rfl _ _ (w.heap.size + 2) 95 _ _ rfl k3 Tryz.underlying95 rfl (by kernel_rfl)) rfl ?_
  refine ⟨_, rfl, ?_, y2.grown g3 y2.size (fun k e => by injection e with e; omega)⟩
  have h3 : Owns w3 w1.heap.size (.slice A2 bytes.length c2) bytes := World.ownsRow.kept hv2 g3 (.inr fun e => by have h := (World.ownsRow.lt hv2 _ e).1; omega)
  exact h3.lower y1.size
set_option maxRecDepth 100000 in
set_option maxHeartbeats 2000000 in
theorem popen_bad (key s : List UInt8) (place : Nat) (ad : Addr) (c : Nat) (w : World) (hr : Reads w w.heap.size 1 (some ad) 192 (bs s)) (hc : 192 ≤ c) (hk : key.length = 32) (hp : place < 4294967296) (hpv : popV key place s = none) (hT : Tabs w) :
    Calls Tryz.prog 47 #[.agg #[.int .u32 (place : Int), .slice (some ad) 192 c], .agg (bs key).toArray] w fun e w' => e = .returned (.tuple #[.agg #[.int .u64 0, .slice none 0 0, .bool false], .int .i64 11]) ∧ Below w.heap.size w w' := by
  have hs : s.length = 192 := by have h := hr.1; rw [bs_length] at h; omega
  have z1 : (bs key).toArray.size = 32 := by simp [bs_length, hk]
  have hpl := plainB_length key place 176 s (by omega)
  have y0 : Below w.heap.size w (((w.alloc (.cells #[.int .u32 (place : Int), .slice (some ad) 192 c] 122)).alloc (.cells (bs key).toArray 23)).alloc (.cells #[.int .u64 0, .slice none 0 0, .bool false] 95)) := (((Below.refl _ w).alloc (Nat.le_refl _) _).alloc (by simp) _).alloc (by simp; omega) _
  have r0 := (hr.below y0).more y0.size
  have hT0 : Tabs (((w.alloc (.cells #[.int .u32 (place : Int), .slice (some ad) 192 c] 122)).alloc (.cells (bs key).toArray 23)).alloc (.cells #[.int .u64 0, .slice none 0 0, .bool false] 95)) := ((hT.alloc _).alloc _).alloc _
  have k0 : Blk (((w.alloc (.cells #[.int .u32 (place : Int), .slice (some ad) 192 c] 122)).alloc (.cells (bs key).toArray 23)).alloc (.cells #[.int .u64 0, .slice none 0 0, .bool false] 95)) (w.heap.size + 2) 95 #[.int .u64 0, .slice none 0 0, .bool false] := Blk.new_of (by simp) rfl
  have Z1 := Lib.hid z1
  cases hok : openOk 176 s with
  | false =>
    have hop := fun W h => open_bad key s place ad c W h hc hok
    clear z1 hr hT hpl hpv hok
    go_enter Tryz.func47, Tryz.ntmps47
    go_wp2_with (first | ((with_reducible refine wpList_load_blk (o := ⟨some 10, _, _, _, _, _⟩) rfl 23 _ rfl (w.heap.size + 1) rfl 23 _ _ ((Blk.new_of (by simp) rfl).alloc _) Tryz.underlying23 rfl (by rw [Z1.out]; kernel_rfl) ?_)) | (go_at_call 78; refine (hop _ r0).mono ?_; rintro e w1 ⟨rfl, b1⟩; have k1 := k0.below b1 k0.lt; have j0 : w1.cell? ⟨w.heap.size + 2, 0, none⟩ = some (.int .u64 0) := k1.cell 0; have j1 : w1.cell? ⟨w.heap.size + 2, 1, none⟩ = some (.slice none 0 0) := k1.cell 1; have j2 : w1.cell? ⟨w.heap.size + 2, 2, none⟩ = some (.bool false) := k1.cell 2; have f0 := k1.frozen 0; have f1 := k1.frozen 1; have f2 := k1.frozen 2))
    have kF := ((k1.set_ 0 (.int .u64 0)).set_ 1 (.slice none 0 0)).set_ 2 (.bool false)
    have y1 : Below w.heap.size w w1 := y0.trans (b1.mono y0.size)
    refine bodyPost_ret (results_row_tmp (fr := (0, 0)) rfl _ _ (w.heap.size + 2) 95 _ _ rfl kF Tryz.underlying95 rfl (by kernel_rfl)) rfl ?_
    exact ⟨rfl, ((y1.setCell (p := ⟨w.heap.size + 2, 0, none⟩) (Nat.le_add_right _ _) _).setCell (p := ⟨w.heap.size + 2, 1, none⟩) (Nat.le_add_right _ _) _).setCell (p := ⟨w.heap.size + 2, 2, none⟩) (Nat.le_add_right _ _) _⟩
  | true =>
    obtain ⟨hv0, hv1, hz⟩ := openOk_parts hok
    have hrb := popV_no hpv hok
    have hop := fun W h hT => open_ok key s place (verB s) ad c W h hc hk hp rfl hv0 hv1 hz hT
    rw [show crypt key (nonceB place (verB s)) ((s.drop 8).take 176) = plainB key place 176 s from rfl] at hop
    generalize verB s = v at *
    generalize plainB key place 176 s = rb at *
    have hget := fun W a c h hc => rget_bad rb a c W h hc hrb
    have HRL := Lib.hid hpl
    clear z1 hr hT hpl hpv hok hz hrb
    go_enter Tryz.func47, Tryz.ntmps47
    go_wp2_with (first | ((with_reducible refine wpList_load_blk (o := ⟨some 10, _, _, _, _, _⟩) rfl 23 _ rfl (w.heap.size + 1) rfl 23 _ _ ((Blk.new_of (by simp) rfl).alloc _) Tryz.underlying23 rfl (by rw [Z1.out]; kernel_rfl) ?_)) | (go_at_call 78; refine (hop _ r0 hT0).mono ?_; rintro e w1 ⟨v1, rfl, hv1o, b1⟩; obtain ⟨g1, c1, hg, _, _, hc1⟩ := hv1o.form (by rw [HRL.out]; omega); rw [HRL.out] at hg hc1; subst hg; have r1 := hv1o.reads; rw [HRL.out] at r1; have k1 := k0.below b1 k0.lt) | (go_at_call 79; refine (hget _ _ _ r1 hc1).mono ?_; rintro e w2 ⟨rfl, b2⟩; have k2 := k1.below b2 k1.lt) | ((with_reducible refine wpList_store_blk (o := ⟨none, .store 95 (.tmp 4) (.tmp 25), _, _, _, _⟩) rfl 95 (.tmp 4) (.tmp 25) rfl (w.heap.size + 2) #[.int .u64 0, .slice none 0 0, .bool false] rfl rfl 95 _ k2 (by kernel_rfl) (by simp) (by simp [Value.oneCell']) ?_); intro w3 k3 g3 s3))
    have y1 : Below w.heap.size w w1 := y0.trans (b1.mono y0.size)
    have y2 : Below w.heap.size w w2 := y1.trans (b2.mono y1.size)
    refine bodyPost_ret (results_row_tmp (fr := (0, 0)) rfl _ _ (w.heap.size + 2) 95 _ _ rfl k3 Tryz.underlying95 rfl (by kernel_rfl)) rfl ?_
    exact ⟨rfl, y2.grown g3 y2.size (fun k e => by injection e with e; omega)⟩
set_option maxRecDepth 100000 in
set_option maxHeartbeats 4000000 in
theorem changes_bad (g o n c : Nat) (xs : List Value) (l : List Rec) (w : World) (hr : Reads w w.heap.size 3 (some ⟨g, o, none⟩) n xs) (hl : l.length = n) (hi : RowG w xs l) (h1 : 1 ≤ n) (hn : n ≤ 1048576) (hla : ∀ r, l[n - 1]? = some r → r.2 = false) :
    Calls Tryz.prog 48 #[.slice (some ⟨g, o, none⟩) n c] w fun e w' => e = .returned (.tuple #[.slice none 0 0, .int .i64 11]) ∧ w = w' := by
  obtain ⟨ad, e, hb, hc⟩ := hr.2 (by omega)
  injection e with e
  subst e
  have hlast : w.cell? ⟨g, o + (n - 1) * 3 + 2, none⟩ = some (.bool false) := by
    have hp : l[n - 1]? = some (l[n - 1]'(by omega)) := List.getElem?_eq_getElem (by omega)
    have h := hc _ _ (hi _ _ hp).2.2
    rw [Addr.add_mid, hla _ hp] at h
    rw [Nat.add_assoc, Nat.mul_comm]
    exact h
  have e1 : ((n : Int) - 1).toNat = n - 1 := by omega
  have e2 : (n : Int) - 1 < n := by omega
  have e3 : (0 : Int) ≤ (n : Int) - 1 := by omega
  have e4 : (0 : Int) < n := by omega
  have e5 : wrap64 ((n : Int) - 1) = (n : Int) - 1 := by unfold wrap64; omega
  have e6 : 0 < n := by omega
  go_enter Tryz.func48, Tryz.ntmps48
  go_wp2
  go_ret2
  exact ⟨rfl, rfl⟩
end Go.Proofs.YtkhebllmnagkmaaGreatDoor
