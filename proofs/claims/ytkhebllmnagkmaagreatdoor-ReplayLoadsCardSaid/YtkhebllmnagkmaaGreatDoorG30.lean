/- Contracts and lemmas under the statements of this seat, one behind the other. Conditions: what each names. -/
import Derived.Test.YtkhebllmnagkmaaGreatDoorG29
import Derived.Test.YtkhebllmnagkmaaGreatDoorG25
/- Contract of the reference's Get of a record. Conditions: what it names. -/
namespace Go.Proofs.YtkhebllmnagkmaaGreatDoor
open Go.RowKit
set_option linter.unusedVariables false

theorem run_from (W : World) (l : List UInt8) (a : Nat) (h1 : a ≤ l.length) : (Instr.slice 9 (.string ⟨l.toArray⟩) (some (.int .i64 (a : Int))) none none).run Tryz.prog W = .ok (.string ⟨(l.drop a).toArray⟩) W := by
  have hsz : (ByteArray.mk l.toArray).size = l.length := by simp [ByteArray.size]
  rw [run_slice_string_from_if W 9 _ _ _ Tryz.underlying9, if_pos ⟨by omega, by rw [hsz]; omega⟩, ByteArray.extract_mk, hsz]
  have e : ((a : Int)).toNat = a := by omega
  rw [e, List.take_of_length_le (by rw [List.length_drop]; exact Nat.le_refl _)]
def getV (p : List UInt8) : Array Value := if recOk p then #[.agg #[.int .u64 ((recOf p).1.1 : Int), .string ⟨(recOf p).1.2.toArray⟩, .bool (recOf p).2], .int .i64 0] else #[.agg #[.int .u64 0, .string ⟨#[]⟩, .bool false], .int .i64 11]
theorem getV_no {p : List UInt8} (h : recOk p = false) : getV p = #[.agg #[.int .u64 0, .string ⟨#[]⟩, .bool false], .int .i64 11] := by unfold getV; rw [if_neg (by rw [h]; exact Bool.false_ne_true)]
theorem getV_yes {p : List UInt8} (h : recOk p = true) : getV p = #[.agg #[.int .u64 ((recOf p).1.1 : Int), .string ⟨(recOf p).1.2.toArray⟩, .bool (recOf p).2], .int .i64 0] := by unfold getV; rw [if_pos h]
theorem recOk_at {p : List UInt8} {a b : UInt8} (ha : p[0]? = some a) (hb : p[1]? = some b) : recOk p = (a == 1 && decide (b.toNat ≤ 1) && !(((p.take 8).drop 2).any (· != 0))) := by unfold recOk; rw [List.getD_eq_getElem?_getD, List.getD_eq_getElem?_getD, ha, hb]; rfl
set_option maxRecDepth 100000 in
set_option maxHeartbeats 4000000 in
theorem rget_a (p : List UInt8) (a b : UInt8) (w : World) (hl : p.length = 176) (ha : p[0]? = some a) (hb : p[1]? = some b) (hab : a ≠ 1 ∨ 1 < b.toNat) :
    Calls Tryz.prog 51 #[.string ⟨p.toArray⟩] w fun e w' => e = .returned (.tuple (getV p)) ∧ Below w.heap.size w w' := by
  have hlen : (ByteArray.mk p.toArray).size = 176 := by simp [ByteArray.size, hl]
  have y0 : Below w.heap.size w ((w.alloc (.cells #[.int .u64 0, .string ⟨#[]⟩, .bool false] 107)).alloc (.cells #[.int .u64 0, .string ⟨#[]⟩, .bool false] 107)) := ((Below.refl _ _).alloc (Nat.le_refl _) _).alloc (by simp) _
  have k0 : Blk ((w.alloc (.cells #[.int .u64 0, .string ⟨#[]⟩, .bool false] 107)).alloc (.cells #[.int .u64 0, .string ⟨#[]⟩, .bool false] 107)) w.heap.size 107 #[.int .u64 0, .string ⟨#[]⟩, .bool false] := (Blk.new_of rfl rfl).alloc _
  have hno : recOk p = false := by
    rw [recOk_at ha hb]
    rcases hab with h | h
    · rw [show (a == 1) = false from beq_eq_false_iff_ne.2 h]; rfl
    · rw [decide_eq_false (by omega), Bool.and_false]; rfl
  have HB := Lib.hid (getV_no hno)
  have hx0 : ∀ W, (Instr.index 9 (.string ⟨p.toArray⟩) (.int .i64 0)).run Tryz.prog W = .ok (.int .u8 (a.toNat : Int)) W := fun W => run_at W p 0 a ha
  have hx1 : ∀ W, (Instr.index 9 (.string ⟨p.toArray⟩) (.int .i64 1)).run Tryz.prog W = .ok (.int .u8 (b.toNat : Int)) W := fun W => run_at W p 1 b hb
  clear hno hl
  by_cases ha1 : a = 1
  · subst ha1
    have hb1 : 1 < b.toNat := by rcases hab with h | h; exact absurd rfl h; exact h
    have hbi : (1 : Int) < (b.toNat : Int) := by omega
    have hx0 : ∀ W, (Instr.index 9 (.string ⟨p.toArray⟩) (.int .i64 0)).run Tryz.prog W = .ok (.int .u8 1) W := hx0
    clear hab
    go_enter Tryz.func51, Tryz.ntmps51
    go_wp2
    refine bodyPost_ret (results_row_tmp (fr := (0, 0)) rfl _ _ w.heap.size 107 _ _ rfl k0 Tryz.underlying107 rfl (by kernel_rfl)) rfl ?_
    exact ⟨by rw [HB.out]; rfl, y0⟩
  · have hai : ¬ (a.toNat : Int) = 1 := by intro h; apply ha1; apply UInt8.toNat_inj.1; show a.toNat = 1; omega
    clear hab
    go_enter Tryz.func51, Tryz.ntmps51
    go_wp2
    refine bodyPost_ret (results_row_tmp (fr := (0, 0)) rfl _ _ w.heap.size 107 _ _ rfl k0 Tryz.underlying107 rfl (by kernel_rfl)) rfl ?_
    exact ⟨by rw [HB.out]; rfl, y0⟩
set_option maxRecDepth 100000 in
set_option maxHeartbeats 4000000 in
theorem rget_b0 (p : List UInt8) (w : World) (hl : p.length = 176) (ha : p[0]? = some 1) (hb : p[1]? = some 0) :
    Calls Tryz.prog 51 #[.string ⟨p.toArray⟩] w fun e w' => e = .returned (.tuple (getV p)) ∧ Below w.heap.size w w' := by
  have hlen : (ByteArray.mk p.toArray).size = 176 := by simp [ByteArray.size, hl]
  have y0 : Below w.heap.size w ((w.alloc (.cells #[.int .u64 0, .string ⟨#[]⟩, .bool false] 107)).alloc (.cells #[.int .u64 0, .string ⟨#[]⟩, .bool false] 107)) := ((Below.refl _ _).alloc (Nat.le_refl _) _).alloc (by simp) _
  have k0 : Blk ((w.alloc (.cells #[.int .u64 0, .string ⟨#[]⟩, .bool false] 107)).alloc (.cells #[.int .u64 0, .string ⟨#[]⟩, .bool false] 107)) w.heap.size 107 #[.int .u64 0, .string ⟨#[]⟩, .bool false] := (Blk.new_of rfl rfl).alloc _
  have hok := recOk_at ha hb
  rw [show ((1 : UInt8) == 1) = true from rfl, show decide ((0 : UInt8).toNat ≤ 1) = true from rfl, Bool.true_and, Bool.true_and] at hok
  have hx0 : ∀ W, (Instr.index 9 (.string ⟨p.toArray⟩) (.int .i64 0)).run Tryz.prog W = .ok (.int .u8 1) W := fun W => run_at W p 0 1 ha
  have hx1 : ∀ W, (Instr.index 9 (.string ⟨p.toArray⟩) (.int .i64 1)).run Tryz.prog W = .ok (.int .u8 0) W := fun W => run_at W p 1 0 hb
  have hl8 : (p.take 8).length = 8 := by rw [List.length_take]; omega
  have hrec : recOf p = ((getB ((p.drop 8).take 8), p.drop 16), false) := by
    unfold recOf
    rw [List.getD_eq_getElem?_getD, hb]
    rfl
  have HOK := Lib.hid hok
  have HL := Lib.hid hl
  have HL8 := Lib.hid hl8
  have HR := Lib.hid hrec
  obtain ⟨WL, hWL⟩ : ∃ WL : World, WL = (w.alloc (.cells #[.int .u64 0, .string ⟨#[]⟩, .bool false] 107)).alloc (.cells #[.int .u64 0, .string ⟨#[]⟩, .bool false] 107) := ⟨_, rfl⟩
  have yL : Below w.heap.size w WL := by rw [hWL]; exact ((Below.refl _ _).alloc (Nat.le_refl _) _).alloc (by simp) _
  have sL : WL.heap.size = w.heap.size + 2 := by rw [hWL]; simp
  have kL0 : Blk WL w.heap.size 107 #[.int .u64 0, .string ⟨#[]⟩, .bool false] := by rw [hWL]; exact (Blk.new_of rfl rfl).alloc _
  have kL1 : Blk WL (w.heap.size + 1) 107 #[.int .u64 0, .string ⟨#[]⟩, .bool false] := by rw [hWL]; exact Blk.new_of (by simp) rfl
  have hget := refGet_any (some ⟨WL.heap.size, 0, none⟩) p.length (strC p WL) 8 8 p (strW p WL) (strW_reads p WL) (by omega) (by omega) (by omega) (by omega)
  simp only [show ((8 : Nat) : Int) = 8 from rfl] at hget
  rw [sL] at hget
  have hcvt := fun W => run_str p W
  have hsub : ∀ W, (Instr.slice 9 (.string ⟨p.toArray⟩) (some (.int .i64 16)) none none).run Tryz.prog W = .ok (.string ⟨(p.drop 16).toArray⟩) W := fun W => run_from W p 16 (by omega)
  have yS := yL.trans ((strW_below p WL).mono yL.size)
  have kS0 := kL0.below (strW_below p WL) (by omega)
  have kS1 := kL1.below (strW_below p WL) (by omega)
  have HWL := Lib.hid hWL
  clear hok hl hl8 hrec hWL ha hb kL0 kL1 yL
  go_enter Tryz.func51, Tryz.ntmps51
  go_wp2
  go_loopw [5] (fun v wr => ∃ k : Nat, 2 + k ≤ 8 ∧ v = .int .i64 (2 + k : Nat) ∧ zeroTo (p.take 8) 2 (2 + k) ∧ wr = (w.alloc (.cells #[.int .u64 0, .string ⟨#[]⟩, .bool false] 107)).alloc (.cells #[.int .u64 0, .string ⟨#[]⟩, .bool false] 107)) (fun v _ => 8 - (match v with | .int _ n => n.toNat | _ => 0))
  case atStart => exact ⟨0, by omega, by rfl, fun j h1 h2 => absurd h2 (by omega), rfl⟩
  case round =>
    obtain ⟨k, hk8, rfl, hz, rfl⟩ := hrel
    by_cases hlt : 2 + k < 8
    · have hlti : (2 : Int) + (k : Int) < 8 := by omega
      obtain ⟨b, hb⟩ : ∃ b, p[2 + k]? = some b := ⟨_, List.getElem?_eq_getElem (by have := HL.out; omega)⟩
      have hbt : (p.take 8)[2 + k]? = some b := by rw [List.getElem?_take_of_lt hlt]; exact hb
      have hx : ∀ W, (Instr.index 9 (.string ⟨p.toArray⟩) (.int .i64 ((2 : Int) + (k : Int)))).run Tryz.prog W = .ok (.int .u8 (b.toNat : Int)) W := fun W => by
        have h := run_at W p (2 + k) b hb
        rw [show ((2 + k : Nat) : Int) = (2 : Int) + (k : Int) by omega] at h
        exact h
      by_cases hb0 : b = 0
      · subst hb0
        have hx : ∀ W, (Instr.index 9 (.string ⟨p.toArray⟩) (.int .i64 ((2 : Int) + (k : Int)))).run Tryz.prog W = .ok (.int .u8 0) W := hx
        go_wp2
        go_roundw
        case rel =>
          refine ⟨k + 1, by omega, by go_num, fun j h1 h2 => ?_, trivial⟩
          rcases Nat.lt_or_ge j (2 + k) with h | h
          · exact hz j h1 h
          · rw [show j = 2 + k by omega]
            exact hbt
        case measure => simp only; omega
      · have hbi : ¬ (b.toNat : Int) = 0 := by intro h; apply hb0; apply UInt8.toNat_inj.1; have h0 : (0 : UInt8).toNat = 0 := rfl; omega
        have hfl : recOk p = false := by
          obtain ⟨hlt2, hbe⟩ := List.getElem?_eq_some_iff.1 hbt
          rw [HOK.out, any_of (p.take 8) 2 (2 + k) (by omega) hlt2 (by rw [hbe]; exact hb0)]
          rfl
        have HB := Lib.hid (getV_no hfl)
        clear hfl hb hb0 hz hbt
        go_wp2
        refine bodyPost_ret (results_row_tmp (fr := (0, 0)) rfl _ _ w.heap.size 107 _ _ rfl k0 Tryz.underlying107 rfl (by kernel_rfl)) rfl ?_
        exact ⟨by rw [HB.out]; rfl, y0⟩
    · have hk6 : k = 6 := by omega
      have htr : recOk p = true := by
        rw [HOK.out, zeroTo_any (p.take 8) 2 (by rw [HL8.out]; exact fun j h1 h2 => hz j h1 (by omega))]
        rfl
      have HB := Lib.hid (getV_yes htr)
      have hlti : ¬ (2 : Int) + (k : Int) < 8 := by omega
      clear htr hz hk6 hlt hk8
      go_wp2_with (first | (go_at_call 82; rw [← HWL.out]; (with_reducible refine hget.mono ?_); rintro e w1 ⟨rfl, rfl⟩; have j0 : (strW p WL).cell? ⟨w.heap.size + 1, 0, none⟩ = some (.int .u64 0) := kS1.cell 0; have j1 : (strW p WL).cell? ⟨w.heap.size + 1, 1, none⟩ = some (.string ⟨#[]⟩) := kS1.cell 1; have f0 := kS1.frozen 0; have f1 := kS1.frozen 1; have kF := (kS1.set_ 0 (.int .u64 (getB ((p.drop 8).take 8) : Int))).set_ 1 (.string ⟨(p.drop 16).toArray⟩); have kG := (kS0.far (p := ⟨w.heap.size + 1, 0, none⟩) (by show w.heap.size ≠ w.heap.size + 1; omega) (.int .u64 (getB ((p.drop 8).take 8) : Int))).far (p := ⟨w.heap.size + 1, 1, none⟩) (by show w.heap.size ≠ w.heap.size + 1; omega) (.string ⟨(p.drop 16).toArray⟩); have yG := (yS.setCell (p := ⟨w.heap.size + 1, 0, none⟩) (Nat.le_add_right _ _) (.int .u64 (getB ((p.drop 8).take 8) : Int))).setCell (p := ⟨w.heap.size + 1, 1, none⟩) (Nat.le_add_right _ _) (.string ⟨(p.drop 16).toArray⟩)) | ((with_reducible refine wpList_load_blk (o := ⟨some 45, _, _, _, _, _⟩) rfl 107 _ rfl (w.heap.size + 1) rfl 107 _ _ kF Tryz.underlying107 rfl (by kernel_rfl) ?_)) | ((with_reducible refine wpList_store_blk (o := ⟨none, .store 107 (.tmp 2) (.tmp 45), _, _, _, _⟩) rfl 107 (.tmp 2) (.tmp 45) rfl w.heap.size #[.int .u64 (getB ((p.drop 8).take 8) : Int), .string ⟨(p.drop 16).toArray⟩, .bool false] rfl rfl 107 _ kG (by kernel_rfl) (by simp) (by simp [Value.oneCell']) ?_); intro w6 k6 g6 s6))
      refine bodyPost_ret (results_row_tmp (fr := (0, 0)) rfl _ _ w.heap.size 107 _ _ rfl k6 Tryz.underlying107 rfl (by kernel_rfl)) rfl ?_
      exact ⟨by rw [HB.out, HR.out]; rfl, yG.grown g6 yG.size (fun k e => by injection e with e; omega)⟩
set_option maxRecDepth 100000 in
set_option maxHeartbeats 4000000 in
theorem rget_b1 (p : List UInt8) (w : World) (hl : p.length = 176) (ha : p[0]? = some 1) (hb : p[1]? = some 1) :
    Calls Tryz.prog 51 #[.string ⟨p.toArray⟩] w fun e w' => e = .returned (.tuple (getV p)) ∧ Below w.heap.size w w' := by
  have hlen : (ByteArray.mk p.toArray).size = 176 := by simp [ByteArray.size, hl]
  have y0 : Below w.heap.size w ((w.alloc (.cells #[.int .u64 0, .string ⟨#[]⟩, .bool false] 107)).alloc (.cells #[.int .u64 0, .string ⟨#[]⟩, .bool false] 107)) := ((Below.refl _ _).alloc (Nat.le_refl _) _).alloc (by simp) _
  have k0 : Blk ((w.alloc (.cells #[.int .u64 0, .string ⟨#[]⟩, .bool false] 107)).alloc (.cells #[.int .u64 0, .string ⟨#[]⟩, .bool false] 107)) w.heap.size 107 #[.int .u64 0, .string ⟨#[]⟩, .bool false] := (Blk.new_of rfl rfl).alloc _
  have hok := recOk_at ha hb
  rw [show ((1 : UInt8) == 1) = true from rfl, show decide ((1 : UInt8).toNat ≤ 1) = true from rfl, Bool.true_and, Bool.true_and] at hok
  have hx0 : ∀ W, (Instr.index 9 (.string ⟨p.toArray⟩) (.int .i64 0)).run Tryz.prog W = .ok (.int .u8 1) W := fun W => run_at W p 0 1 ha
  have hx1 : ∀ W, (Instr.index 9 (.string ⟨p.toArray⟩) (.int .i64 1)).run Tryz.prog W = .ok (.int .u8 1) W := fun W => run_at W p 1 1 hb
  have hl8 : (p.take 8).length = 8 := by rw [List.length_take]; omega
  have hrec : recOf p = ((getB ((p.drop 8).take 8), p.drop 16), true) := by
    unfold recOf
    rw [List.getD_eq_getElem?_getD, hb]
    rfl
  have HOK := Lib.hid hok
  have HL := Lib.hid hl
  have HL8 := Lib.hid hl8
  have HR := Lib.hid hrec
  obtain ⟨WL, hWL⟩ : ∃ WL : World, WL = (w.alloc (.cells #[.int .u64 0, .string ⟨#[]⟩, .bool false] 107)).alloc (.cells #[.int .u64 0, .string ⟨#[]⟩, .bool true] 107) := ⟨_, rfl⟩
  have yL : Below w.heap.size w WL := by rw [hWL]; exact ((Below.refl _ _).alloc (Nat.le_refl _) _).alloc (by simp) _
  have sL : WL.heap.size = w.heap.size + 2 := by rw [hWL]; simp
  have kL0 : Blk WL w.heap.size 107 #[.int .u64 0, .string ⟨#[]⟩, .bool false] := by rw [hWL]; exact (Blk.new_of rfl rfl).alloc _
  have kL1 : Blk WL (w.heap.size + 1) 107 #[.int .u64 0, .string ⟨#[]⟩, .bool true] := by rw [hWL]; exact Blk.new_of (by simp) rfl
  have hget := refGet_any (some ⟨WL.heap.size, 0, none⟩) p.length (strC p WL) 8 8 p (strW p WL) (strW_reads p WL) (by omega) (by omega) (by omega) (by omega)
  simp only [show ((8 : Nat) : Int) = 8 from rfl] at hget
  rw [sL] at hget
  have hcvt := fun W => run_str p W
  have hsub : ∀ W, (Instr.slice 9 (.string ⟨p.toArray⟩) (some (.int .i64 16)) none none).run Tryz.prog W = .ok (.string ⟨(p.drop 16).toArray⟩) W := fun W => run_from W p 16 (by omega)
  have yS := yL.trans ((strW_below p WL).mono yL.size)
  have kS0 := kL0.below (strW_below p WL) (by omega)
  have kS1 := kL1.below (strW_below p WL) (by omega)
  have HWL := Lib.hid hWL
  clear hok hl hl8 hrec hWL ha hb kL0 kL1 yL
  go_enter Tryz.func51, Tryz.ntmps51
  go_wp2
  go_loopw [5] (fun v wr => ∃ k : Nat, 2 + k ≤ 8 ∧ v = .int .i64 (2 + k : Nat) ∧ zeroTo (p.take 8) 2 (2 + k) ∧ wr = (w.alloc (.cells #[.int .u64 0, .string ⟨#[]⟩, .bool false] 107)).alloc (.cells #[.int .u64 0, .string ⟨#[]⟩, .bool false] 107)) (fun v _ => 8 - (match v with | .int _ n => n.toNat | _ => 0))
  case atStart => exact ⟨0, by omega, by rfl, fun j h1 h2 => absurd h2 (by omega), rfl⟩
  case round =>
    obtain ⟨k, hk8, rfl, hz, rfl⟩ := hrel
    by_cases hlt : 2 + k < 8
    · have hlti : (2 : Int) + (k : Int) < 8 := by omega
      obtain ⟨b, hb⟩ : ∃ b, p[2 + k]? = some b := ⟨_, List.getElem?_eq_getElem (by have := HL.out; omega)⟩
      have hbt : (p.take 8)[2 + k]? = some b := by rw [List.getElem?_take_of_lt hlt]; exact hb
      have hx : ∀ W, (Instr.index 9 (.string ⟨p.toArray⟩) (.int .i64 ((2 : Int) + (k : Int)))).run Tryz.prog W = .ok (.int .u8 (b.toNat : Int)) W := fun W => by
        have h := run_at W p (2 + k) b hb
        rw [show ((2 + k : Nat) : Int) = (2 : Int) + (k : Int) by omega] at h
        exact h
      by_cases hb0 : b = 0
      · subst hb0
        have hx : ∀ W, (Instr.index 9 (.string ⟨p.toArray⟩) (.int .i64 ((2 : Int) + (k : Int)))).run Tryz.prog W = .ok (.int .u8 0) W := hx
        go_wp2
        go_roundw
        case rel =>
          refine ⟨k + 1, by omega, by go_num, fun j h1 h2 => ?_, trivial⟩
          rcases Nat.lt_or_ge j (2 + k) with h | h
          · exact hz j h1 h
          · rw [show j = 2 + k by omega]
            exact hbt
        case measure => simp only; omega
      · have hbi : ¬ (b.toNat : Int) = 0 := by intro h; apply hb0; apply UInt8.toNat_inj.1; have h0 : (0 : UInt8).toNat = 0 := rfl; omega
        have hfl : recOk p = false := by
          obtain ⟨hlt2, hbe⟩ := List.getElem?_eq_some_iff.1 hbt
          rw [HOK.out, any_of (p.take 8) 2 (2 + k) (by omega) hlt2 (by rw [hbe]; exact hb0)]
          rfl
        have HB := Lib.hid (getV_no hfl)
        clear hfl hb hb0 hz hbt
        go_wp2
        refine bodyPost_ret (results_row_tmp (fr := (0, 0)) rfl _ _ w.heap.size 107 _ _ rfl k0 Tryz.underlying107 rfl (by kernel_rfl)) rfl ?_
        exact ⟨by rw [HB.out]; rfl, y0⟩
    · have hk6 : k = 6 := by omega
      have htr : recOk p = true := by
        rw [HOK.out, zeroTo_any (p.take 8) 2 (by rw [HL8.out]; exact fun j h1 h2 => hz j h1 (by omega))]
        rfl
      have HB := Lib.hid (getV_yes htr)
      have hlti : ¬ (2 : Int) + (k : Int) < 8 := by omega
      clear htr hz hk6 hlt hk8
      go_wp2_with (first | (go_at_call 82; rw [← HWL.out]; (with_reducible refine hget.mono ?_); rintro e w1 ⟨rfl, rfl⟩; have j0 : (strW p WL).cell? ⟨w.heap.size + 1, 0, none⟩ = some (.int .u64 0) := kS1.cell 0; have j1 : (strW p WL).cell? ⟨w.heap.size + 1, 1, none⟩ = some (.string ⟨#[]⟩) := kS1.cell 1; have f0 := kS1.frozen 0; have f1 := kS1.frozen 1; have kF := (kS1.set_ 0 (.int .u64 (getB ((p.drop 8).take 8) : Int))).set_ 1 (.string ⟨(p.drop 16).toArray⟩); have kG := (kS0.far (p := ⟨w.heap.size + 1, 0, none⟩) (by show w.heap.size ≠ w.heap.size + 1; omega) (.int .u64 (getB ((p.drop 8).take 8) : Int))).far (p := ⟨w.heap.size + 1, 1, none⟩) (by show w.heap.size ≠ w.heap.size + 1; omega) (.string ⟨(p.drop 16).toArray⟩); have yG := (yS.setCell (p := ⟨w.heap.size + 1, 0, none⟩) (Nat.le_add_right _ _) (.int .u64 (getB ((p.drop 8).take 8) : Int))).setCell (p := ⟨w.heap.size + 1, 1, none⟩) (Nat.le_add_right _ _) (.string ⟨(p.drop 16).toArray⟩)) | ((with_reducible refine wpList_load_blk (o := ⟨some 45, _, _, _, _, _⟩) rfl 107 _ rfl (w.heap.size + 1) rfl 107 _ _ kF Tryz.underlying107 rfl (by kernel_rfl) ?_)) | ((with_reducible refine wpList_store_blk (o := ⟨none, .store 107 (.tmp 2) (.tmp 45), _, _, _, _⟩) rfl 107 (.tmp 2) (.tmp 45) rfl w.heap.size #[.int .u64 (getB ((p.drop 8).take 8) : Int), .string ⟨(p.drop 16).toArray⟩, .bool true] rfl rfl 107 _ kG (by kernel_rfl) (by simp) (by simp [Value.oneCell']) ?_); intro w6 k6 g6 s6))
      refine bodyPost_ret (results_row_tmp (fr := (0, 0)) rfl _ _ w.heap.size 107 _ _ rfl k6 Tryz.underlying107 rfl (by kernel_rfl)) rfl ?_
      exact ⟨by rw [HB.out, HR.out]; rfl, yG.grown g6 yG.size (fun k e => by injection e with e; omega)⟩
theorem rrget_any (p : List UInt8) (w : World) (hl : p.length = 176) :
    Calls Tryz.prog 51 #[.string ⟨p.toArray⟩] w fun e w' => e = .returned (.tuple (getV p)) ∧ Below w.heap.size w w' := by
  obtain ⟨a, ha⟩ : ∃ a, p[0]? = some a := ⟨_, List.getElem?_eq_getElem (by omega)⟩
  obtain ⟨b, hb⟩ : ∃ b, p[1]? = some b := ⟨_, List.getElem?_eq_getElem (by omega)⟩
  by_cases ha1 : a = 1
  · subst ha1
    by_cases hb1 : 1 < b.toNat
    · exact rget_a p 1 b w hl ha hb (.inr hb1)
    · rcases (show b.toNat = 0 ∨ b.toNat = 1 by omega) with h | h
      · have hb0 : b = 0 := UInt8.toNat_inj.1 h
        subst hb0
        exact rget_b0 p w hl ha hb
      · have hb0 : b = 1 := UInt8.toNat_inj.1 h
        subst hb0
        exact rget_b1 p w hl ha hb
  · exact rget_a p a b w hl ha hb (.inl ha1)
end Go.Proofs.YtkhebllmnagkmaaGreatDoor
/- Contract of the reference's Changes of records. Conditions: what it names. -/
namespace Go.Proofs.YtkhebllmnagkmaaGreatDoor
open Go.RowKit
set_option linter.unusedVariables false

/-- Rows of images, none of which is the block that grows. -/
def RowMx (w : World) (base : Nat) (ys : List Value) (ll : List (List Img)) (row : Option Nat) : Prop := ∀ (i : Nat) (l : List Img), ll[i]? = some l → ∃ A c, ys[i]? = some (.slice A l.length c) ∧ w.ownsRow base 105 2 (.slice A l.length c) l.length (encM l) ∧ ∀ b, (Value.slice A l.length c).ownBlock = some b → row ≠ some b
section
variable {w w' : World} {base : Nat} {ys : List Value} {ll : List (List Img)} {row row' : Option Nat}
theorem RowMx.rowMs (h : RowMx w base ys ll row) : RowMs w base ys ll := fun i l hl => by
  obtain ⟨A, c, h1, h2, _⟩ := h i l hl
  exact ⟨A, c, h1, h2⟩
theorem RowMx.grown (h : RowMx w base ys ll row) (hg : w.grownBy w' row) (hr : ∀ b, row' = some b → row = some b ∨ w.heap.size ≤ b) : RowMx w' base ys ll row' := fun i l hl => by
  obtain ⟨A, c, h1, h2, h3⟩ := h i l hl
  refine ⟨A, c, h1, own_keep h2 (fun k e => hg.block k (World.ownsRow.lt h2 k e).2 (fun e2 => h3 k e e2.symm)), fun b e e2 => ?_⟩
  rcases hr b e2 with h | h
  · exact h3 b e h
  · have := (World.ownsRow.lt h2 b e).2
    omega
theorem RowMx.beside (h : RowMx w base ys ll row) (hk : ∀ k, Kind w k 105 → w'.heap[k]? = w.heap[k]?) : RowMx w' base ys ll row := fun i l hl => by
  obtain ⟨A, c, h1, h2, h3⟩ := h i l hl
  exact ⟨A, c, h1, own_keep h2 (fun k e => hk k (own_kind h2 e)), h3⟩
theorem RowMx.snoc {l : List Img} {A : Option Addr} {c : Nat} (h : RowMx w base ys ll row) (hl : ys.length = ll.length) (hv : w.ownsRow base 105 2 (.slice A l.length c) l.length (encM l)) : RowMx w base (ys ++ [.slice A l.length c]) (ll ++ [l]) none := by
  have h2 := RowMs.snoc h.rowMs hl hv
  intro i p hp
  obtain ⟨A', c', e1, e2⟩ := h2 i p hp
  exact ⟨A', c', e1, e2, fun b _ e => by cases e⟩
end
/-- The images behind the last change. -/
def nowV (l : List Rec) : List Img := (l.map (·.1)).drop (chg l).from'
theorem nowV_no (l : List Rec) (k : Nat) (r : Rec) (h : l[k]? = some r) (hr : r.2 = false) : nowV (l.take (k + 1)) = nowV (l.take k) ++ [r.1] ∧ (chg (l.take (k + 1))).out = (chg (l.take k)).out := by
  have hs := chg_snoc l k r h
  have hf := chg_from (l.take k)
  unfold nowV
  rw [hs]
  unfold chgStep
  rw [hr]
  refine ⟨?_, rfl⟩
  show List.drop (chg (l.take k)).from' (List.map _ (l.take (k + 1))) = _
  rw [take_snoc l k r h, List.map_append, List.drop_append_of_le_length (by rw [List.length_map]; exact hf)]
  rfl
theorem nowV_yes (l : List Rec) (k : Nat) (r : Rec) (h : l[k]? = some r) (hr : r.2 = true) : nowV (l.take (k + 1)) = [] ∧ (chg (l.take (k + 1))).out = (chg (l.take k)).out ++ [nowV (l.take k) ++ [r.1]] := by
  have hs := chg_snoc l k r h
  have hf := chg_from (l.take k)
  have ha := chg_all (l.take k)
  unfold nowV
  rw [hs]
  unfold chgStep
  rw [hr]
  refine ⟨?_, ?_⟩
  · show List.drop ((chg (l.take k)).all ++ [r.1]).length (List.map _ (l.take (k + 1))) = _
    rw [take_snoc l k r h, List.map_append, ha]
    exact List.drop_of_length_le (Nat.le_refl _)
  · show (chg (l.take k)).out ++ [((chg (l.take k)).all ++ [r.1]).drop (chg (l.take k)).from'] = _
    rw [ha, List.drop_append_of_le_length (by rw [List.length_map]; exact hf)]
theorem nowV_end (l : List Rec) : (nowV l = [] → chgV l = some (chg l).out) ∧ (nowV l ≠ [] → chgV l = none) := by
  rcases Nat.eq_zero_or_pos l.length with h0 | h0
  · have := List.eq_nil_of_length_eq_zero h0
    subst this
    exact ⟨fun _ => rfl, fun h => absurd rfl h⟩
  · have hk : l[l.length - 1]? = some (l[l.length - 1]'(by omega)) := List.getElem?_eq_getElem (by omega)
    have hgl : l.getLast? = some (l[l.length - 1]'(by omega)) := by rw [List.getLast?_eq_getElem?]; exact hk
    have ht : l.take (l.length - 1 + 1) = l := List.take_of_length_le (by omega)
    cases hr : (l[l.length - 1]'(by omega)).2 with
    | true =>
      have h := (nowV_yes l _ _ hk hr).1
      rw [ht] at h
      exact ⟨fun _ => chgV_yes fun r hr' => by rw [hgl] at hr'; injection hr' with hr'; rw [← hr']; exact hr, fun h2 => absurd h h2⟩
    | false =>
      have h := (nowV_no l _ _ hk hr).1
      rw [ht] at h
      exact ⟨fun h2 => by rw [h] at h2; simp at h2, fun _ => chgV_no hgl hr⟩
theorem nowV_le (l : List Rec) : (nowV l).length ≤ l.length := by unfold nowV; rw [List.length_drop, List.length_map]; omega
theorem ownR_at {w : World} {base : Nat} {A : Option Addr} {n c : Nat} {l : List Rec} (h : w.ownsRow base 107 3 (.slice A n c) n (encR l)) {k : Nat} (hk : k < n) (p : Rec) (hp : l[k]? = some p) : ∃ g, A = some ⟨g, 0, none⟩ ∧ g < w.heap.size ∧ w.cell? ⟨g, k * 3, none⟩ = some (.int .u64 (p.1.1 : Int)) ∧ w.cell? ⟨g, k * 3 + 1, none⟩ = some (.string ⟨p.1.2.toArray⟩) ∧ w.cell? ⟨g, k * 3 + 2, none⟩ = some (.bool p.2) := by
  obtain ⟨g, cap, hv, _, hlt⟩ := h.form (by omega)
  injection hv with hA
  obtain ⟨h1, h2, h3⟩ := encR_get l k p hp
  have hc := World.ownsRow.cells h (g := g) (by rw [hA]; rfl)
  refine ⟨g, hA, hlt, ?_, ?_, ?_⟩
  · have h := hc _ _ h1; rw [add_head, Nat.mul_comm] at h; exact h
  · have h := hc _ _ h2; rw [add_head, Nat.mul_comm 3] at h; exact h
  · have h := hc _ _ h3; rw [add_head, Nat.mul_comm 3] at h; exact h
set_option maxRecDepth 100000 in
set_option maxHeartbeats 4000000 in
theorem rchg_any (A : Option Addr) (n c : Nat) (l : List Rec) (w : World) (ho : w.ownsRow 0 107 3 (.slice A n c) n (encR l)) (hl : l.length = n) (hn : n ≤ 1048576) :
    Calls Tryz.prog 52 #[.slice A n c] w fun e w' => ((chgV l = none ∧ e = .returned (.tuple #[.slice none 0 0, .int .i64 11])) ∨ ∃ A' c' ys, chgV l = some (chg l).out ∧ e = .returned (.tuple #[.slice A' (chg l).out.length c', .int .i64 0]) ∧
      w'.ownsRow w.heap.size 52 1 (.slice A' (chg l).out.length c') (chg l).out.length ys ∧ RowMs w' w.heap.size ys (chg l).out) ∧ Below w.heap.size w w' := by
  obtain ⟨i0, ii0, hz0, hz1, hz2⟩ := info_parts info60
  obtain ⟨i1, ii1, hy0, hy1, hy2⟩ := info_parts info26
  have HL := Lib.hid hl
  clear hl
  go_enter Tryz.func52, Tryz.ntmps52
  go_wp2
  go_loopw [4, 5, 6] (fun vo vn ix wr => ∃ (k : Nat) (Ao : Option Addr) (co : Nat) (xo : List Value) (An : Option Addr) (cn : Nat), k ≤ n ∧ ix = .int .i64 k ∧ vo = .slice Ao (chg (l.take k)).out.length co ∧ wr.ownsRow w.heap.size 52 1 (.slice Ao (chg (l.take k)).out.length co) (chg (l.take k)).out.length xo ∧
      vn = .slice An (nowV (l.take k)).length cn ∧ wr.ownsRow w.heap.size 105 2 (.slice An (nowV (l.take k)).length cn) (nowV (l.take k)).length (encM (nowV (l.take k))) ∧ RowMx wr w.heap.size xo (chg (l.take k)).out (Value.slice An (nowV (l.take k)).length cn).ownBlock ∧ Below w.heap.size w wr) (fun _ _ ix _ => n - (intOf ix).toNat)
  case atStart => exact ⟨0, none, 0, [], none, 0, by omega, rfl, rfl, World.ownsRow_nil _ _ _ _, rfl, World.ownsRow_nil _ _ _ _, fun i l hl => by simp [chg] at hl, Below.refl _ _⟩
  case round =>
    obtain ⟨k, Ao, co, xo, An, cn, hk, rfl, rfl, hoo, rfl, hon, hRx, hw⟩ := hrel
    by_cases hlt : k < n
    · obtain ⟨⟨p, last⟩, hp⟩ : ∃ p, l[k]? = some p := ⟨_, List.getElem?_eq_getElem (by have := HL.out; omega)⟩
      obtain ⟨g, rfl, hg, q0, q1, q2⟩ := ownR_at ho hlt _ hp
      have hno := nowV_no l k _ hp
      have hyes := nowV_yes l k _ hp
      have hnl := nowV_le (l.take k)
      have hol := chg_len (l.take k)
      have htl : (l.take k).length ≤ k := by rw [List.length_take]; omega
      simp only at q0 q1 q2 hno hyes
      have q0w : wr.cell? ⟨g, k * 3, none⟩ = some (.int .u64 (p.1 : Int)) := (hw.cell (p := ⟨g, k * 3, none⟩) hg).trans q0
      have q1w : wr.cell? ⟨g, k * 3 + 1, none⟩ = some (.string ⟨p.2.toArray⟩) := (hw.cell (p := ⟨g, k * 3 + 1, none⟩) hg).trans q1
      generalize nowV (l.take k) = nw at *
      generalize (chg (l.take k)).out = ou at *
      obtain ⟨N, hN⟩ : ∃ N, N = nw.length := ⟨_, rfl⟩
      obtain ⟨O, hO⟩ : ∃ O, O = ou.length := ⟨_, rfl⟩
      rw [← hN] at hon hRx ⊢
      rw [← hO] at hoo ⊢
      have hN1 : N ≤ 1048576 := by omega
      have hO1 : O ≤ 1048576 := by omega
      have HN := Lib.hid hN
      have HO := Lib.hid hO
      have HNO := Lib.hid hno
      have HYES := Lib.hid hyes
      have HM : Hid ((N + 1 ≤ maxLen ∧ (N + 1) * 24 ≤ 140737488355328) ∧ (O + 1 ≤ maxLen ∧ (O + 1) * 24 ≤ 140737488355328)) := Lib.hid ⟨⟨by unfold maxLen; omega, by omega⟩, by unfold maxLen; omega, by omega⟩
      have hone : ∀ u ∈ [Value.int .u64 (p.1 : Int), .string ⟨p.2.toArray⟩], u.oneCell' = true := by intro u hu; simp only [List.mem_cons, List.not_mem_nil, or_false] at hu; rcases hu with rfl | rfl <;> rfl
      have hone2 : ∀ (A : Option Addr) (m c : Nat), ∀ u ∈ [Value.slice A m c], u.oneCell' = true := by intro A m c u hu; simp only [List.mem_cons, List.not_mem_nil, or_false] at hu; rcases hu with rfl; rfl
      have hnews := Blk.rows (xs := [Value.int .u64 (p.1 : Int), .string ⟨p.2.toArray⟩]) 1 2 (Blk.new wr 105 #[Value.int .u64 (p.1 : Int), .string ⟨p.2.toArray⟩]) rfl
      have i1' : (0 : Int) ≤ (k : Int) := by omega
      have i2' : (k : Int) < (n : Int) := by omega
      have lo := World.ownsRow.lt hon
      have loo := World.ownsRow.lt hoo
      have hws := hw.size
      have hap := encM_append nw [p]
      have HAP := Lib.hid hap
      clear hN hO hno hyes hnl hol htl hp q0 q1 hap
      have hoo' : ∀ w7 : World, (wr.alloc (.cells #[Value.int .u64 (p.1 : Int), .string ⟨p.2.toArray⟩] 105)).grownBy w7 (Value.slice An N cn).ownBlock → w7.ownsRow w.heap.size 52 1 (.slice Ao O co) O xo := fun w7 hg7 =>
        own_keep hoo fun b e => (hg7.block b (by rw [size_alloc']; have := (loo b e).2; omega) (fun e2 => absurd ((own_kind hoo e).uniq (own_kind hon e2.symm)) (by decide))).trans (Below.heap_alloc _ _ b (loo b e).2)
      have hRx' : ∀ (w7 : World) (v7 : Value), (wr.alloc (.cells #[Value.int .u64 (p.1 : Int), .string ⟨p.2.toArray⟩] 105)).grownBy w7 (Value.slice An N cn).ownBlock → (v7.ownBlock = (Value.slice An N cn).ownBlock ∨ v7.ownBlock = some (wr.alloc (.cells #[Value.int .u64 (p.1 : Int), .string ⟨p.2.toArray⟩] 105)).heap.size) → RowMx w7 w.heap.size xo ou v7.ownBlock := fun w7 v7 hg7 hat7 =>
        (hRx.beside (w' := wr.alloc (.cells #[Value.int .u64 (p.1 : Int), .string ⟨p.2.toArray⟩] 105)) (fun b hK => Below.heap_alloc _ _ b hK.lt)).grown hg7 fun b e => by
          rcases hat7 with h | h
          · exact .inl (h.symm.trans e)
          · rw [h] at e
            injection e with e
            exact .inr (by omega)
      have HOO := Lib.hid hoo'
      have HRX := Lib.hid hRx'
      clear hoo' hRx' hRx
      cases last with
      | false =>
        obtain ⟨r2, r1⟩ := HNO.out rfl
        go_wp2_with (first | (at_builtin; refine wpList_append_any _ rfl (.tmp 13) (.tmp 19) 52 rfl w.heap.size 105 i0 _ 2 24 Tryz.underlying52 ii0 hz0 hz1 hz2 rfl (by omega) (.slice An N cn) N (encM nw) rfl (World.ownsRow.alloc hon _) _ (some ⟨wr.heap.size, 0, none⟩) 1 1 [_, _] rfl hnews hone HM.out.1.1 HM.out.1.2 (by rw [size_alloc']; omega) ?_; intro v7 w7 hown7 hg7 hat7; have y7 := (hw.alloc hw.size (.cells #[Value.int .u64 (p.1 : Int), .string ⟨p.2.toArray⟩] 105)).grown hg7 (by rw [size_alloc']; omega) (fun b e => (lo b e).1); obtain ⟨A7, c7, rfl⟩ := own_shape hown7; have q27 : w7.cell? ⟨g, k * 3 + 2, none⟩ = some (.bool false) := (y7.cell (p := ⟨g, k * 3 + 2, none⟩) hg).trans q2; have hoo7 := HOO.out w7 hg7; have hRx7 := HRX.out w7 (Value.slice A7 (N + 1) c7) hg7 hat7; have s7 := y7.size; clear hg7 hat7))
        refine ⟨⟨k + 1, Ao, co, xo, A7, c7, by omega, by go_num, by rw [r1, ← HO.out], by rw [r1, ← HO.out]; exact hoo7, by rw [r2, List.length_append, ← HN.out]; rfl, by rw [r2, HAP.out, List.length_append, ← HN.out]; exact hown7, by rw [r1, r2, List.length_append, ← HN.out]; exact hRx7, y7⟩, by simp [intOf]; omega⟩
      | true =>
        obtain ⟨r2, r1⟩ := HYES.out rfl
        go_wp2_with (first | (at_builtin; refine wpList_append_any _ rfl (.tmp 13) (.tmp 19) 52 rfl w.heap.size 105 i0 _ 2 24 Tryz.underlying52 ii0 hz0 hz1 hz2 rfl (by omega) (.slice An N cn) N (encM nw) rfl (World.ownsRow.alloc hon _) _ (some ⟨wr.heap.size, 0, none⟩) 1 1 [_, _] rfl hnews hone HM.out.1.1 HM.out.1.2 (by rw [size_alloc']; omega) ?_; intro v7 w7 hown7 hg7 hat7; have y7 := (hw.alloc hw.size (.cells #[Value.int .u64 (p.1 : Int), .string ⟨p.2.toArray⟩] 105)).grown hg7 (by rw [size_alloc']; omega) (fun b e => (lo b e).1); obtain ⟨A7, c7, rfl⟩ := own_shape hown7; have q27 : w7.cell? ⟨g, k * 3 + 2, none⟩ = some (.bool true) := (y7.cell (p := ⟨g, k * 3 + 2, none⟩) hg).trans q2; have hoo7 := HOO.out w7 hg7; have hRx7 := HRX.out w7 (Value.slice A7 (N + 1) c7) hg7 hat7; have s7 := y7.size; clear hg7 hat7) | (at_builtin; refine wpList_append_any _ rfl (.tmp 26) (.tmp 28) 63 rfl w.heap.size 52 i1 _ 1 24 Tryz.underlying63 ii1 hy0 hy1 hy2 rfl (by omega) (.slice Ao O co) O xo rfl (World.ownsRow.alloc hoo7 _) _ (some ⟨w7.heap.size, 0, none⟩) 1 1 [.slice A7 (N + 1) c7] rfl (Blk.rows 1 1 (Blk.new w7 52 #[.slice A7 (N + 1) c7]) rfl) (hone2 _ _ _) HM.out.2.1 HM.out.2.2 (by rw [size_alloc']; omega) ?_; intro v9 w9 hown9 hg9 hat9; have loo7 := World.ownsRow.lt hoo7; have y9 := (y7.alloc y7.size (.cells #[.slice A7 (N + 1) c7] 52)).grown hg9 (by rw [size_alloc']; omega) (fun b e => (loo7 b e).1); obtain ⟨A9, c9, rfl⟩ := own_shape hown9; have kk : ∀ b, Kind w7 b 105 → w9.heap[b]? = w7.heap[b]? := fun b hK => (hg9.block b (by rw [size_alloc']; have := hK.lt; omega) (fun e2 => absurd (hK.uniq (own_kind hoo7 e2.symm)) (by decide))).trans (Below.heap_alloc _ _ b hK.lt); have hown79 := own_keep hown7 (fun b e => kk b (own_kind hown7 e)); have hRx9 := hRx7.beside kk; clear hg9 hat9))
        have hv : w9.ownsRow w.heap.size 105 2 (.slice A7 (nw ++ [p]).length c7) (nw ++ [p]).length (encM (nw ++ [p])) := by rw [HAP.out, List.length_append, ← HN.out]; exact hown79
        have hsn := hRx9.snoc (by have h := hoo7.1; rw [h, ← HO.out]; omega) hv
        rw [List.length_append, ← HN.out] at hsn
        refine ⟨⟨k + 1, A9, c9, _, none, 0, by omega, by go_num, by rw [r1, List.length_append, ← HO.out]; rfl, by rw [r1, List.length_append, ← HO.out]; exact hown9, by rw [r2]; rfl, by rw [r2]; exact World.ownsRow_nil _ _ _ _, by rw [r1, r2]; exact hsn, y9⟩, by simp [intOf]; omega⟩
    · have hkn : k = n := by omega
      have hki : ¬ (k : Int) < (n : Int) := by omega
      have ht : l.take k = l := List.take_of_length_le (by rw [HL.out]; omega)
      rw [ht] at hon hoo hRx ⊢
      obtain ⟨he1, he2⟩ := nowV_end l
      have HE1 := Lib.hid he1
      have HE2 := Lib.hid he2
      clear he1 he2 ht hlt hkn
      by_cases hnn : nowV l = []
      · have HC := Lib.hid (HE1.out hnn)
        rw [hnn] at hRx hon ⊢
        clear hnn
        go_wp2
        go_ret2
        exact ⟨.inr ⟨HC.out, Ao, co, rfl, xo, hoo, hRx.rowMs⟩, hw⟩
      · have HC := Lib.hid (HE2.out hnn)
        have hpos : 0 < (nowV l).length := List.length_pos_iff.2 hnn
        have hposi : (0 : Int) < ((nowV l).length : Int) := by omega
        clear hnn
        generalize nowV l = nw at *
        go_wp2
        go_ret2
        exact ⟨.inl ⟨HC.out, rfl⟩, hw⟩
end Go.Proofs.YtkhebllmnagkmaaGreatDoor
