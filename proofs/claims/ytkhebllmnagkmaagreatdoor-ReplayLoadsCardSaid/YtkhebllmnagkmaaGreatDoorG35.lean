/- Contracts and lemmas under the statements of this seat, one behind the other. Conditions: what each names. -/
import Derived.Test.YtkhebllmnagkmaaGreatDoorG34
/- The law ReplayLoads, walked: it returns true. Conditions: the arguments read as keys, numbers, changes and a state, the tables lie in memory. -/
namespace Go.Proofs.YtkhebllmnagkmaaGreatDoor
open Go.RowKit
set_option linter.unusedVariables false
attribute [local irreducible] sealB linkB recB

abbrev z32c : List UInt8 := List.replicate 32 0
def Stop (p : Prop) : Prop := p
theorem stop_at {P : Program} {ops : Array Oper} {Q : Exit → Act → World → Prop} {rest : List Oper} {o : Oper} {a : Act} {w : World} (h : Stop (wpList P ops Q (o :: rest) a w)) : wpList P ops Q (o :: rest) a w := h
theorem stop_note {P : Program} {ops : Array Oper} {Q : Exit → Act → World → Prop} {rest : List Oper} {l : List Value} {d : List Deferred} {w : World} (h : ∀ l0, l0 = l → wpList P ops Q rest ⟨l.toArray, d⟩ w) : Stop (wpList P ops Q rest ⟨l.toArray, d⟩ w) := h l rfl
theorem i64_and65535 (n : Int) : bits .and .i64 n 65535 = n % 65536 := by
  have h1 : (BitVec.ofInt 64 65535).toNat = 2 ^ 16 - 1 := by decide
  have key : (BitVec.ofInt 64 n &&& BitVec.ofInt 64 65535).toNat = (n % ((2 ^ 64 : Nat) : Int)).toNat % 2 ^ 16 := by
    rw [BitVec.toNat_and, BitVec.toNat_ofInt, h1, Nat.and_two_pow_sub_one_eq_mod]
  show IntKind.i64.wrap ((BitVec.ofInt 64 n &&& BitVec.ofInt 64 65535).toNat : Nat) = n % 65536
  rw [key, IntKind.wrap_i64]
  omega
theorem step_mk192 {ops : Array Oper} {o : Oper} {a : Act} {w : World} {K : Act → World → Prop} {Q : Exit → Act → World → Prop} {E : Prop} (hgd : o.guard = none) (ho : o.op = .makeSlice 55 (.const (.int .i64 192)) (.const (.int .i64 192)))
    (h : K (a.put o.dst (.slice (some ⟨w.heap.size, 0, none⟩) 192 192)) (w.alloc (.cells (bs zeros192).toArray 5))) : if Region.wanted o (yielded ops a.tmps) = true then Oper.wp Tryz.prog o a w K Q else E := by
  refine step_alloc_run hgd ?_ h
  unfold execOp
  simp only [ho]
  rw [Sem.run_bind, show a.eval (.const (.int .i64 192)) = .int .i64 192 from rfl, run_make192]
  rfl
theorem step_cv {ops : Array Oper} {o : Oper} {a : Act} {w : World} {K : Act → World → Prop} {Q : Exit → Act → World → Prop} {E : Prop} (hgd : o.guard = none) (x : Operand) (ho : o.op = .convert 55 9 x) (v r : Value) (hx : a.eval x = v)
    (hc : (convert 55 9 v).run Tryz.prog w = .ok r w) (h : K (a.put o.dst r) w) : if Region.wanted o (yielded ops a.tmps) = true then Oper.wp Tryz.prog o a w K Q else E := by
  refine step_alloc_run hgd ?_ h
  unfold execOp
  simp only [ho]
  rw [Sem.run_bind, hx, hc]
  rfl
theorem cont_two {G0 : Prop} (F : Nat → World → Prop) {G : Nat → World → Prop} (f : (∀ pJ u, F pJ u → G pJ u) → G0) (p : ∀ pJ u, F pJ u → G pJ u) : G0 := f p
theorem cont_tail {G0 : Prop} (F : List Value → Option Addr → Nat → Nat → World → Prop) {G : List Value → Option Addr → Nat → Nat → World → Prop} (f : (∀ dx B c p u, F dx B c p u → G dx B c p u) → G0) (p : ∀ dx B c p u, F dx B c p u → G dx B c p u) : G0 := f p
theorem cont_loads {G0 : Prop} (F : Option Addr → Nat → Option Addr → Nat → Option Addr → Nat → Nat → Nat → Nat → World → Prop) {G : Option Addr → Nat → Option Addr → Nat → Option Addr → Nat → Nat → Nat → Nat → World → Prop} (f : (∀ Am cm A2 c2 B2 d2 pD pJ pS u, F Am cm A2 c2 B2 d2 pD pJ pS u → G Am cm A2 c2 B2 d2 pD pJ pS u) → G0) (p : ∀ Am cm A2 c2 B2 d2 pD pJ pS u, F Am cm A2 c2 B2 d2 pD pJ pS u → G Am cm A2 c2 B2 d2 pD pJ pS u) : G0 := f p
set_option maxRecDepth 100000 in
set_option maxHeartbeats 8000000 in
theorem replayLoads_any (key : List UInt8) (size : UInt8) (A : Option Addr) (n c : Nat) (xs : List Value) (ll : List (List Img)) (start count : Nat) (stag : List UInt8) (odd : UInt8) (slot pat : Int) (over : UInt8) (w : World) (hk : key.length = 32) (hr : Reads w w.heap.size 1 A n xs) (hl : ll.length = n) (hi : RowAA w xs ll) (h64 : ∀ l ∈ ll, ∀ p ∈ l, p.1 < 18446744073709551616) (hn : n ≤ 9223372036854775807)
    (hs1 : start < 18446744073709551616) (hs2 : count < 18446744073709551616) (hst : stag.length = 32) (hT : Tabs w) :
    Calls Tryz.prog 4 #[.agg (bs key).toArray, .int .u8 (size.toNat : Int), .slice A n c, .agg (stCells start count stag).toArray, .int .u8 (odd.toNat : Int), .int .i64 slot, .int .i64 pat, .int .u8 (over.toNat : Int)] w fun e w' => e = .returned (.bool true) ∧ Below w.heap.size w w' := by
  obtain ⟨W0, hW0⟩ : ∃ W0 : World, W0 = (w.alloc (.cells (bs key).toArray 23)).alloc (.cells (stCells start count stag).toArray 41) := ⟨_, rfl⟩
  have y0 : Below w.heap.size w W0 := by rw [hW0]; exact ((Below.refl _ _).alloc (Nat.le_refl _) _).alloc (by simp) _
  have kk0 : Blk W0 w.heap.size 23 (bs key).toArray := by rw [hW0]; exact (Blk.new_of rfl rfl).alloc _
  have ks0 : Blk W0 (w.heap.size + 1) 41 (stCells start count stag).toArray := by rw [hW0]; exact Blk.new_of (by simp) rfl
  have haw := awake_any W0 (hT.under y0)
  have hTs := hT.size
  rw [hW0] at haw
  have z1 : (bs key).length = 32 := by simp [bs_length, hk]
  have z2 : (stCells start count stag).length = 34 := by rw [stCells_length, hst]
  have Z1 := Lib.hid z1
  have Z2 := Lib.hid z2
  have HW0 := Lib.hid hW0
  clear hW0 z1 z2
  by_cases h6 : 6 < n
  · have d1 : (6 : Int) < (n : Int) := by omega
    go_enter Tryz.func4, Tryz.ntmps4
    go_wp2_with (first | (go_at_call 5; refine haw.mono ?_; rintro e w1 ⟨rfl, b1⟩; rw [← HW0.out] at b1))
    go_ret
    exact ⟨rfl, y0.trans (b1.mono y0.size)⟩
  have d1 : ¬ (6 : Int) < (n : Int) := by omega
  have n6 : n ≤ 6 := by omega
  clear h6 hn
  have hkm : size.toNat % 10 < 10 := Nat.mod_lt _ (by omega)
  obtain ⟨k, hkd⟩ : ∃ k, k = size.toNat % 10 + 1 := ⟨_, rfl⟩
  have hk1 : 1 ≤ k := by omega
  have hk10 : k ≤ 10 := by omega
  have hw8 : IntKind.u8.wrap ((size.toNat : Int) % 10) = (size.toNat : Int) % 10 := by rw [IntKind.wrap_u8]; omega
  have hki : (size.toNat : Int) % 10 + 1 = (k : Int) := by omega
  obtain ⟨st, hstd⟩ : ∃ st, st = start % k := ⟨_, rfl⟩
  have hstk : st < k := by rw [hstd]; exact Nat.mod_lt _ (by omega)
  have hsti : (start : Int) % (k : Int) = (st : Int) := by rw [hstd]; simp
  have hksm : (size.toNat : Int) ≤ 255 := by have := size.toNat_lt; omega
  have hjn := fun gd F W h => jnew_any gd F (dkL []) (jrL key k st 0 z32c) W h hk (by show z32c.length = 32; exact List.length_replicate) (by show 1 ≤ k; omega) (by show 1 + k ≤ (List.replicate 12 zeros192).length; rw [List.length_replicate]; omega) (by show (List.replicate 12 zeros192).length ≤ 1048576; rw [List.length_replicate]; omega) (by show st < k; omega) (by show 0 ≤ k; omega) (by show 1 ≤ 1 + 0; omega) (by show 1099511627776 ≤ 9223372036854775807; omega)
  have hrj := fun W => rjnew_any 12 (jrL key k st 0 z32c) W hk (by show z32c.length = 32; exact List.length_replicate) (by show 1 ≤ k; omega) (by show 1 + k ≤ 12; omega) (by omega) (by show st < k; omega) (by show 0 ≤ k; omega) (by show 1 ≤ 1 + 0; omega) (by show 1099511627776 ≤ 9223372036854775807; omega)
  have hrn := fun W => rnew_any 12 W (by omega) (by omega)
  have hjcl := rjCells_length (jrL key k st 0 z32c) hk (by show z32c.length = 32; exact List.length_replicate)
  have hjo := rjCells_one (jrL key k st 0 z32c)
  have HJO := Lib.hid hjo
  have HJCL := Lib.hid hjcl
  have HKD := Lib.hid hkd
  have HSD := Lib.hid hstd
  clear hjcl hjo hkd hkm hstd
  go_enter Tryz.func4, Tryz.ntmps4
  go_wp2_with (first | (go_at_call 5; refine haw.mono ?_; rintro e w1 ⟨rfl, b1⟩; rw [← HW0.out] at b1; have y1 := y0.trans (b1.mono y0.size); have k1 := kk0.below b1 kk0.lt; have s1 := ks0.below b1 ks0.lt; have hd := dnew_any 12 w1 (by omega) (by omega); clear haw) | (go_at_call 6; refine hd.mono ?_; rintro e w2 ⟨rfl, D2, b2⟩; have y2 := y1.trans (b2.mono y1.size); have k2 := k1.below b2 k1.lt; have s2 := s1.below b2 s1.lt; clear hd) | (go_at_call 7; refine (hrn _).mono ?_; rintro e w3 ⟨rfl, b3⟩; have y3 := y2.trans (b3.mono y2.size); have k3 := k2.below b3 k2.lt; have s3 := s2.below b3 s2.lt; have D3 := D2.under b3; have s12 := b2.size; have s23 := b3.size; clear hrn))
  obtain ⟨W4, hW4⟩ : ∃ W4 : World, W4 = w3.alloc (.cells #[.int .i64 12, .slice none 0 0, .slice none 0 0, .int .i64 (-1), .bool false, .slice none 0 0] 33) := ⟨_, rfl⟩
  have kM4 : Blk W4 w3.heap.size 33 #[.int .i64 12, .slice none 0 0, .slice none 0 0, .int .i64 (-1), .bool false, .slice none 0 0] := by rw [hW4]; exact Blk.new_of rfl rfl
  have b34 : Below w3.heap.size w3 W4 := by rw [hW4]; exact (Below.refl _ _).alloc (Nat.le_refl _) _
  have z34 : W4.heap.size = w3.heap.size + 1 := by rw [hW4]; exact size_alloc' _ _
  have y4 := y3.trans (b34.mono y3.size)
  have k4 := k3.below b34 k3.lt
  have s4 := s3.below b34 s3.lt
  have D4 := D3.bound.under b34
  rw [← hW4]
  have hy1 := y1.size
  have hgl : w1.heap.size < w3.heap.size := by
    obtain ⟨_, _, _, _, _, _, hdd⟩ := D3
    exact hdd.blk.lt
  clear hW4 k1 k2 k3 s1 s2 s3 D2 D3 kk0 ks0 b3 b2 b1 b34
  generalize w1.heap.size = gd at *
  generalize w3.heap.size = gm at *
  have iK : (Tryz.prog.info? 23).map (·.size) = some (bs key).length := by rw [Z1.out]; kernel_rfl
  have iS : (Tryz.prog.info? 41).map (·.size) = some (stCells start count stag).length := by rw [Z2.out]; kernel_rfl
  have IK := Lib.hid iK
  have IS := Lib.hid iS
  clear iK iS
  have hjn2 : ∀ W F, Disk W gd F (dkL []) → Calls Tryz.prog 8 #[.pointer (some ⟨gd, 0, none⟩), .agg (bs key).toArray, .int .i64 1, .int .i64 (k : Int), .agg (stCells st 0 z32c).toArray, .int .u64 1, .int .u64 1099511627776] W fun e w' => ∃ gj, e = .returned (.tuple #[.pointer (some ⟨gj, 0, none⟩), .int .i64 0]) ∧ W.heap.size ≤ gj ∧ JAt w' gj gd (jrL key k st 0 z32c) ∧ Below W.heap.size W w' := fun W F h => hjn gd F W h
  have hrj2 : ∀ W, Calls Tryz.prog 9 #[.int .i64 12, .agg (bs key).toArray, .int .i64 1, .int .i64 (k : Int), .agg (stCells st 0 z32c).toArray, .int .u64 1, .int .u64 1099511627776] W fun e w' => e = .returned (.tuple #[.agg (rjCells (jrL key k st 0 z32c)).toArray, .int .i64 0]) ∧ Below W.heap.size W w' := fun W => hrj W
  have ejn : ∀ args w, (callFunc 8 args).run Tryz.prog w = .ok (.enter 8 args) w := enters_of Tryz.func8 (by kernel_rfl) rfl
  have erj : ∀ args w, (callFunc 9 args).run Tryz.prog w = .ok (.enter 9 args) w := enters_of Tryz.func9 (by kernel_rfl) rfl
  clear hjn hrj
  have uK := Tryz.underlying23
  have hw64 : IntKind.u64.wrap (k : Int) = (k : Int) := wrapU64_le _ (by omega) (by omega)
  have hk0 : ¬ (k : Int) = 0 := by omega
  have hkn0 : ¬ k = 0 := by omega
  have htm : (start : Int).tmod (k : Int) = (st : Int) := by rw [HSD.out]; rfl
  have hS4 : ∀ W, Below W4.heap.size W4 W → W.rangeAt w.heap.size 0 (bs key) ∧ W.cell? ⟨w.heap.size + 1, 0, none⟩ = some (.int .u64 (start : Int)) := fun W hb => ⟨Blk.range (k4.below hb k4.lt), (s4.below hb s4.lt).cell 0⟩
  have S0 := hS4 _ (Below.refl _ W4).drew
  refine wp_region_held_drew (S := fun w' => w'.rangeAt w.heap.size 0 (bs key) ∧ w'.cell? ⟨w.heap.size + 1, 0, none⟩ = some (.int .u64 (start : Int))) (by kernel_rfl) S0 (fun _ => ?_)
  refine wpAnyH_take (i := 0) (oi := ⟨some 65, _, _, _, _, _⟩) (v := .pointer (some ⟨gd, 0, none⟩)) rfl (by kernel_rfl) (by kernel_rfl) (by kernel_rfl) (fun _ _ _ h => h) (Or.inl ⟨by rfl, by intro W hS; go_simp⟩) S0 ?_
  simp only [Act.put, List.setIfInBounds_toArray, List.set_cons_zero, List.set_cons_succ]
  refine wpAnyH_take (i := 1) (oi := ⟨some 66, _, _, _, _, _⟩) (v := .agg (bs key).toArray) rfl (by kernel_rfl) (by kernel_rfl) (by kernel_rfl) (fun _ _ _ h => h) (yieldsIf_load_mid (by rfl) 23 _ rfl w.heap.size 0 (by rfl) (bs key) _ (fun W h => h.1) uK rfl IK.out) S0 ?_
  simp only [Act.put, List.setIfInBounds_toArray, List.set_cons_zero, List.set_cons_succ]
  refine wpAnyH_take (i := 2) (oi := ⟨some 67, _, _, _, _, _⟩) (v := .int .i64 (k : Int)) rfl (by kernel_rfl) (by kernel_rfl) (by kernel_rfl) (fun _ _ _ h => h) (Or.inl ⟨by rfl, by intro W hS; go_simp⟩) S0 ?_
  simp only [Act.put, List.setIfInBounds_toArray, List.set_cons_zero, List.set_cons_succ]
  refine wpAnyH_take (i := 3) (oi := ⟨some 68, _, _, _, _, _⟩) (v := .pointer (some ⟨w.heap.size + 1, 0, none⟩)) rfl (by kernel_rfl) (by kernel_rfl) (by kernel_rfl) (fun _ _ _ h => h) (Or.inl ⟨by rfl, by intro W hS; go_simp⟩) S0 ?_
  simp only [Act.put, List.setIfInBounds_toArray, List.set_cons_zero, List.set_cons_succ]
  refine wpAnyH_take (i := 4) (oi := ⟨some 69, _, _, _, _, _⟩) (v := .int .u64 (start : Int)) rfl (by kernel_rfl) (by kernel_rfl) (by kernel_rfl) (fun _ _ _ h => h) (Or.inl ⟨by rfl, by intro W hS; obtain ⟨s1, s2⟩ := hS; go_simp⟩) S0 ?_
  simp only [Act.put, List.setIfInBounds_toArray, List.set_cons_zero, List.set_cons_succ]
  refine wpAnyH_take (i := 5) (oi := ⟨some 70, _, _, _, _, _⟩) (v := .int .i64 (k : Int)) rfl (by kernel_rfl) (by kernel_rfl) (by kernel_rfl) (fun _ _ _ h => h) (Or.inl ⟨by rfl, by intro W hS; go_simp⟩) S0 ?_
  simp only [Act.put, List.setIfInBounds_toArray, List.set_cons_zero, List.set_cons_succ]
  refine wpAnyH_take (i := 6) (oi := ⟨some 71, _, _, _, _, _⟩) (v := .int .u64 (k : Int)) rfl (by kernel_rfl) (by kernel_rfl) (by kernel_rfl) (fun _ _ _ h => h) (Or.inl ⟨by rfl, by intro W hS; go_simp⟩) S0 ?_
  simp only [Act.put, List.setIfInBounds_toArray, List.set_cons_zero, List.set_cons_succ]
  refine wpAnyH_take (i := 7) (oi := ⟨some 72, _, _, _, _, _⟩) (v := .int .u64 (st : Int)) rfl (by kernel_rfl) (by kernel_rfl) (by kernel_rfl) (fun _ _ _ h => h) (Or.inl ⟨by rfl, by intro W hS; go_simp <;> simp [hkn0, htm]⟩) S0 ?_
  simp only [Act.put, List.setIfInBounds_toArray, List.set_cons_zero, List.set_cons_succ]
  refine wpAnyH_take (i := 8) (oi := ⟨some 73, _, _, _, _, _⟩) (v := .agg (stCells st 0 z32c).toArray) rfl (by kernel_rfl) (by kernel_rfl) (by kernel_rfl) (fun _ _ _ h => h) (Or.inl ⟨by rfl, by intro W hS; go_simp; rfl⟩) S0 ?_
  simp only [Act.put, List.setIfInBounds_toArray, List.set_cons_zero, List.set_cons_succ]
  refine wpAnyH_ready (rs := [9]) (by kernel_rfl) (by simp) ?_
  refine AllReadyH.cons (o := ⟨some 74, .call { callee := .value (.func 8), args := #[.tmp 65, .tmp 66, .const (.int .i64 1), .tmp 67, .tmp 73, .const (.int .u64 1), .const (.int .u64 1099511627776)], argTypes := #[26, 23, 3, 3, 41, 39, 39] }, _, _, _, _⟩) rfl (fun K' hK => ?_) AllReadyH.nil
  refine step_call_w (by rfl) 8 [_, _, _, _, _, _, _] _ rfl [.pointer (some ⟨gd, 0, none⟩), .agg (bs key).toArray, .int .i64 1, .int .i64 (k : Int), .agg (stCells st 0 z32c).toArray, .int .u64 1, .int .u64 1099511627776] rfl ejn _ (hjn2 _ _ (D4.under (Below.refl _ W4).drew)) ?_
  rintro e w5 ⟨gj, rfl, hgj, J5, b5⟩
  have b5' : Below W4.heap.size W4 w5 := (Below.refl _ W4).drew.trans b5
  have hgj4 : W4.heap.size ≤ gj := hgj
  have S5 := hS4 _ b5'
  refine ⟨_, rfl, hK.out _ _ S5 (fun _ => ?_)⟩
  clear hK
  simp only [Act.put, List.setIfInBounds_toArray, List.set_cons_zero, List.set_cons_succ]
  refine wpAnyH_take (i := 10) (oi := ⟨some 64, _, _, _, _, _⟩) (v := .tuple #[.pointer (some ⟨gj, 0, none⟩), .int .i64 0]) rfl (by kernel_rfl) (by kernel_rfl) (by kernel_rfl) (fun _ _ _ h => h) (Or.inl ⟨by rfl, by intro W hS; go_simp⟩) S5 ?_
  simp only [Act.put, List.setIfInBounds_toArray, List.set_cons_zero, List.set_cons_succ]
  refine wpAnyH_take (i := 11) (oi := ⟨some 75, _, _, _, _, _⟩) (v := .pointer (some ⟨gj, 0, none⟩)) rfl (by kernel_rfl) (by kernel_rfl) (by kernel_rfl) (fun _ _ _ h => h) (Or.inl ⟨by rfl, by intro W hS; go_simp⟩) S5 ?_
  simp only [Act.put, List.setIfInBounds_toArray, List.set_cons_zero, List.set_cons_succ]
  refine wpAnyH_take (i := 12) (oi := ⟨some 76, _, _, _, _, _⟩) (v := .int .i64 0) rfl (by kernel_rfl) (by kernel_rfl) (by kernel_rfl) (fun _ _ _ h => h) (Or.inl ⟨by rfl, by intro W hS; go_simp⟩) S5 ?_
  simp only [Act.put, List.setIfInBounds_toArray, List.set_cons_zero, List.set_cons_succ]
  refine wpAnyH_take (i := 13) (oi := ⟨some 23, _, _, _, _, _⟩) (v := .pointer (some ⟨gj, 0, none⟩)) rfl (by kernel_rfl) (by kernel_rfl) (by kernel_rfl) (fun _ _ _ h => h) (Or.inl ⟨by rfl, by intro W hS; go_simp⟩) S5 ?_
  simp only [Act.put, List.setIfInBounds_toArray, List.set_cons_zero, List.set_cons_succ]
  refine wpAnyH_take (i := 14) (oi := ⟨some 24, _, _, _, _, _⟩) (v := .int .i64 0) rfl (by kernel_rfl) (by kernel_rfl) (by kernel_rfl) (fun _ _ _ h => h) (Or.inl ⟨by rfl, by intro W hS; go_simp⟩) S5 ?_
  simp only [Act.put, List.setIfInBounds_toArray, List.set_cons_zero, List.set_cons_succ]
  refine wpAnyH_done (by kernel_rfl) ?_ _
  have y5 := y4.trans (b5'.mono y4.size)
  have k5 := k4.below b5' k4.lt
  have s5 := s4.below b5' s4.lt
  have kM5 := kM4.below b5' kM4.lt
  have hgjl := J5.blk.lt
  have hy4 := y4.size
  have D5 : Disk w5 gd (fun k => w.heap.size ≤ k ∧ k ≠ gj) (dkL []) := (D4.under b5').mono (fun k _ hk => ⟨by have h1 : gd ≤ k := hk.1; omega, by have h2 : k < gm := hk.2; omega⟩)
  clear b5 b5' hgj k4 s4 kM4 D4 S0 S5 hS4 hjn2
  go_wp2
  have hz5 := y5.size
  have iJ : (Tryz.prog.info? 44).map (·.size) = some (rjCells (jrL key k st 0 z32c)).length := by rw [HJCL.out]; kernel_rfl
  have hlz : (Tryz.zeroCells44).toList.length = (rjCells (jrL key k st 0 z32c)).length := by rw [HJCL.out]; kernel_rfl
  have HIJ := Lib.hid iJ
  have HLZ := Lib.hid hlz
  clear iJ hlz
  have hS5 : ∀ W, Below w5.heap.size w5 W → W.rangeAt w.heap.size 0 (bs key) ∧ W.cell? ⟨w.heap.size + 1, 0, none⟩ = some (.int .u64 (start : Int)) := fun W hb => ⟨Blk.range (k5.below hb k5.lt), (s5.below hb s5.lt).cell 0⟩
  apply cont_two (fun pJ u => Below w5.heap.size w5 u ∧ Blk u pJ 44 (rjCells (jrL key k st 0 z32c)).toArray ∧ w5.heap.size ≤ pJ)
  · intro hcont
    have S0 := hS5 _ (Below.refl _ w5).drew
    refine wp_region_held_drew (S := fun w' => w'.rangeAt w.heap.size 0 (bs key) ∧ w'.cell? ⟨w.heap.size + 1, 0, none⟩ = some (.int .u64 (start : Int))) (by kernel_rfl) S0 (fun _ => ?_)
    refine wpAnyH_take (i := 0) (oi := ⟨some 78, _, _, _, _, _⟩) (v := .agg (bs key).toArray) rfl (by kernel_rfl) (by kernel_rfl) (by kernel_rfl) (fun _ _ _ h => h) (yieldsIf_load_mid (by rfl) 23 _ rfl w.heap.size 0 (by rfl) (bs key) _ (fun W h => h.1) uK rfl IK.out) S0 ?_
    simp only [Act.put, List.setIfInBounds_toArray, List.set_cons_zero, List.set_cons_succ]
    refine wpAnyH_take (i := 1) (oi := ⟨some 79, _, _, _, _, _⟩) (v := .int .i64 (k : Int)) rfl (by kernel_rfl) (by kernel_rfl) (by kernel_rfl) (fun _ _ _ h => h) (Or.inl ⟨by rfl, by intro W hS; go_simp⟩) S0 ?_
    simp only [Act.put, List.setIfInBounds_toArray, List.set_cons_zero, List.set_cons_succ]
    refine wpAnyH_take (i := 2) (oi := ⟨some 80, _, _, _, _, _⟩) (v := .pointer (some ⟨w.heap.size + 1, 0, none⟩)) rfl (by kernel_rfl) (by kernel_rfl) (by kernel_rfl) (fun _ _ _ h => h) (Or.inl ⟨by rfl, by intro W hS; go_simp⟩) S0 ?_
    simp only [Act.put, List.setIfInBounds_toArray, List.set_cons_zero, List.set_cons_succ]
    refine wpAnyH_take (i := 3) (oi := ⟨some 81, _, _, _, _, _⟩) (v := .int .u64 (start : Int)) rfl (by kernel_rfl) (by kernel_rfl) (by kernel_rfl) (fun _ _ _ h => h) (Or.inl ⟨by rfl, by intro W hS; obtain ⟨s1, s2⟩ := hS; go_simp⟩) S0 ?_
    simp only [Act.put, List.setIfInBounds_toArray, List.set_cons_zero, List.set_cons_succ]
    refine wpAnyH_take (i := 4) (oi := ⟨some 82, _, _, _, _, _⟩) (v := .int .i64 (k : Int)) rfl (by kernel_rfl) (by kernel_rfl) (by kernel_rfl) (fun _ _ _ h => h) (Or.inl ⟨by rfl, by intro W hS; go_simp⟩) S0 ?_
    simp only [Act.put, List.setIfInBounds_toArray, List.set_cons_zero, List.set_cons_succ]
    refine wpAnyH_take (i := 5) (oi := ⟨some 83, _, _, _, _, _⟩) (v := .int .u64 (k : Int)) rfl (by kernel_rfl) (by kernel_rfl) (by kernel_rfl) (fun _ _ _ h => h) (Or.inl ⟨by rfl, by intro W hS; go_simp⟩) S0 ?_
    simp only [Act.put, List.setIfInBounds_toArray, List.set_cons_zero, List.set_cons_succ]
    refine wpAnyH_take (i := 6) (oi := ⟨some 84, _, _, _, _, _⟩) (v := .int .u64 (st : Int)) rfl (by kernel_rfl) (by kernel_rfl) (by kernel_rfl) (fun _ _ _ h => h) (Or.inl ⟨by rfl, by intro W hS; go_simp <;> simp [hkn0, htm]⟩) S0 ?_
    simp only [Act.put, List.setIfInBounds_toArray, List.set_cons_zero, List.set_cons_succ]
    refine wpAnyH_take (i := 7) (oi := ⟨some 85, _, _, _, _, _⟩) (v := .agg (stCells st 0 z32c).toArray) rfl (by kernel_rfl) (by kernel_rfl) (by kernel_rfl) (fun _ _ _ h => h) (Or.inl ⟨by rfl, by intro W hS; go_simp; rfl⟩) S0 ?_
    simp only [Act.put, List.setIfInBounds_toArray, List.set_cons_zero, List.set_cons_succ]
    refine wpAnyH_ready (rs := [8, 12]) (by kernel_rfl) (by simp) ?_
    refine AllReadyH.cons (o := ⟨some 86, .call { callee := .value (.func 9), args := #[.const (.int .i64 12), .tmp 78, .const (.int .i64 1), .tmp 79, .tmp 85, .const (.int .u64 1), .const (.int .u64 1099511627776)], argTypes := #[3, 23, 3, 3, 42, 39, 39] }, _, _, _, _⟩) rfl (fun K' hK => ?_) (AllReadyH.cons (o := ⟨some 25, .alloc 44, _, _, _, _⟩) rfl (fun K' hK => ?_) (AllReadyH.nil))
    · refine step_call_w (by rfl) 9 [_, _, _, _, _, _, _] _ rfl [.int .i64 12, .agg (bs key).toArray, .int .i64 1, .int .i64 (k : Int), .agg (stCells st 0 z32c).toArray, .int .u64 1, .int .u64 1099511627776] rfl erj _ (hrj2 _) ?_
      rintro e uA ⟨rfl, st1⟩
      have bX : Below w5.heap.size w5 uA := (Below.refl _ w5).drew.trans st1
      have SX := hS5 _ bX
      refine ⟨_, rfl, hK.out _ _ SX (fun _ => ?_)⟩
      clear hK
      simp only [Act.put, List.setIfInBounds_toArray, List.set_cons_zero, List.set_cons_succ]
      refine wpAnyH_take (i := 9) (oi := ⟨some 77, _, _, _, _, _⟩) (v := .tuple #[.agg (rjCells (jrL key k st 0 z32c)).toArray, .int .i64 0]) rfl (by kernel_rfl) (by kernel_rfl) (by kernel_rfl) (fun _ _ _ h => h) (Or.inl ⟨by rfl, by intro W hS; go_simp⟩) SX ?_
      simp only [Act.put, List.setIfInBounds_toArray, List.set_cons_zero, List.set_cons_succ]
      refine wpAnyH_take (i := 10) (oi := ⟨some 87, _, _, _, _, _⟩) (v := .agg (rjCells (jrL key k st 0 z32c)).toArray) rfl (by kernel_rfl) (by kernel_rfl) (by kernel_rfl) (fun _ _ _ h => h) (Or.inl ⟨by rfl, by intro W hS; go_simp⟩) SX ?_
      simp only [Act.put, List.setIfInBounds_toArray, List.set_cons_zero, List.set_cons_succ]
      refine wpAnyH_take (i := 11) (oi := ⟨some 88, _, _, _, _, _⟩) (v := .int .i64 0) rfl (by kernel_rfl) (by kernel_rfl) (by kernel_rfl) (fun _ _ _ h => h) (Or.inl ⟨by rfl, by intro W hS; go_simp⟩) SX ?_
      simp only [Act.put, List.setIfInBounds_toArray, List.set_cons_zero, List.set_cons_succ]
      refine wpAnyH_ready (rs := [12]) (by kernel_rfl) (by simp) ?_
      refine AllReadyH.cons (o := ⟨some 25, .alloc 44, _, _, _, _⟩) rfl (fun K' hK => ?_) AllReadyH.nil
      refine step_alloc_run rfl (run_allocJ _ _ rfl _) ?_
      obtain ⟨pJ, hpJ⟩ : ∃ p, p = uA.heap.size := ⟨_, rfl⟩
      obtain ⟨uB, huB, st2, kJ⟩ : ∃ u : World, u = uA.alloc (.cells Tryz.zeroCells44 44) ∧ Below uA.heap.size uA u ∧ Blk u uA.heap.size 44 (Tryz.zeroCells44).toList.toArray := ⟨_, rfl, (Below.refl _ _).alloc (Nat.le_refl _) _, by rw [Array.toArray_toList]; exact Blk.new _ _ _⟩
      rw [← hpJ] at kJ
      have lJ : w5.heap.size ≤ pJ := by rw [hpJ]; exact bX.size
      have bX := bX.trans (st2.mono bX.size)
      refine hK.out _ _ (by rw [← huB]; exact hS5 _ bX) (fun _ => ?_)
      clear hK
      simp only [Act.put, List.setIfInBounds_toArray, List.set_cons_zero, List.set_cons_succ]
      rw [← huB, ← hpJ]
      clear huB hpJ
      refine wpAnyH_ready (rs := [13]) (by kernel_rfl) (by simp) ?_
      refine AllReadyH.cons (o := ⟨none, .store 44 (.tmp 25) (.tmp 87), _, _, _, _⟩) rfl (fun K' hK => ?_) AllReadyH.nil
      rw [if_pos (by rfl)]
      have thJ : uB.there pJ 0 (rjCells (jrL key k st 0 z32c)).length := kJ.there (by rw [List.size_toArray, HLZ.out]; exact Nat.le_refl _)
      have gF : uB.grownBy (uB.setCells pJ 0 (rjCells (jrL key k st 0 z32c))) (some pJ) := grownBy_setCells _ _ _ (World.grownBy.refl _ _)
      have kF : Blk (uB.setCells pJ 0 (rjCells (jrL key k st 0 z32c))) pJ 44 (rjCells (jrL key k st 0 z32c)).toArray := by
        have h := Blk.put (t := 44) (rjCells (jrL key k st 0 z32c)) [] (Tryz.zeroCells44).toList [] uB HLZ.out (by rw [List.append_nil]; exact kJ)
        rw [List.append_nil] at h
        exact h
      refine wp_store_mid _ _ _ rfl _ _ (List.toArray _) rfl rfl ?_ ?_ HJO.out ?_
      · simpa using thJ
      · rw [List.size_toArray]; exact HIJ.out
      simp only [Act.put]
      obtain ⟨uF, huF⟩ : ∃ uF : World, uF = uB.setCells pJ 0 (rjCells (jrL key k st 0 z32c)) := ⟨_, rfl⟩
      rw [← huF] at gF kF
      have bF : Below w5.heap.size w5 uF := bX.grown gF bX.size (fun k e => by injection e with e; omega)
      have SF := hS5 _ bF
      refine hK.out _ _ (by rw [← huF]; exact SF) (fun _ => ?_)
      clear hK
      rw [← huF]
      clear huF
      refine wpAnyH_take (i := 14) (oi := ⟨some 26, _, _, _, _, _⟩) (v := .int .i64 0) rfl (by kernel_rfl) (by kernel_rfl) (by kernel_rfl) (fun _ _ _ h => h) (Or.inl ⟨by rfl, by intro W hS; go_simp⟩) SF ?_
      simp only [Act.put, List.setIfInBounds_toArray, List.set_cons_zero, List.set_cons_succ]
      refine wpAnyH_done (by kernel_rfl) ?_ _
      exact hcont pJ uF ⟨bF, kF, lJ⟩
    · obtain ⟨uA, huA⟩ : ∃ u : World, u = w5.drew := ⟨_, rfl⟩
      have bX : Below w5.heap.size w5 uA := by rw [huA]; exact (Below.refl _ w5).drew
      rw [← huA]
      clear huA
      refine step_alloc_run rfl (run_allocJ _ _ rfl _) ?_
      obtain ⟨pJ, hpJ⟩ : ∃ p, p = uA.heap.size := ⟨_, rfl⟩
      obtain ⟨uB, huB, st2, kJ⟩ : ∃ u : World, u = uA.alloc (.cells Tryz.zeroCells44 44) ∧ Below uA.heap.size uA u ∧ Blk u uA.heap.size 44 (Tryz.zeroCells44).toList.toArray := ⟨_, rfl, (Below.refl _ _).alloc (Nat.le_refl _) _, by rw [Array.toArray_toList]; exact Blk.new _ _ _⟩
      rw [← hpJ] at kJ
      have lJ : w5.heap.size ≤ pJ := by rw [hpJ]; exact bX.size
      have bX := bX.trans (st2.mono bX.size)
      refine hK.out _ _ (by rw [← huB]; exact hS5 _ bX) (fun _ => ?_)
      clear hK
      simp only [Act.put, List.setIfInBounds_toArray, List.set_cons_zero, List.set_cons_succ]
      rw [← huB, ← hpJ]
      clear huB hpJ
      refine wpAnyH_ready (rs := [8]) (by kernel_rfl) (by simp) ?_
      refine AllReadyH.cons (o := ⟨some 86, .call { callee := .value (.func 9), args := #[.const (.int .i64 12), .tmp 78, .const (.int .i64 1), .tmp 79, .tmp 85, .const (.int .u64 1), .const (.int .u64 1099511627776)], argTypes := #[3, 23, 3, 3, 42, 39, 39] }, _, _, _, _⟩) rfl (fun K' hK => ?_) AllReadyH.nil
      refine step_call_w (by rfl) 9 [_, _, _, _, _, _, _] _ rfl [.int .i64 12, .agg (bs key).toArray, .int .i64 1, .int .i64 (k : Int), .agg (stCells st 0 z32c).toArray, .int .u64 1, .int .u64 1099511627776] rfl erj _ (hrj2 _) ?_
      rintro e uC ⟨rfl, st1⟩
      have kJ := kJ.below st1 kJ.lt
      have bX := bX.trans (st1.mono bX.size)
      have SX := hS5 _ bX
      refine ⟨_, rfl, hK.out _ _ SX (fun _ => ?_)⟩
      clear hK
      simp only [Act.put, List.setIfInBounds_toArray, List.set_cons_zero, List.set_cons_succ]
      refine wpAnyH_take (i := 9) (oi := ⟨some 77, _, _, _, _, _⟩) (v := .tuple #[.agg (rjCells (jrL key k st 0 z32c)).toArray, .int .i64 0]) rfl (by kernel_rfl) (by kernel_rfl) (by kernel_rfl) (fun _ _ _ h => h) (Or.inl ⟨by rfl, by intro W hS; go_simp⟩) SX ?_
      simp only [Act.put, List.setIfInBounds_toArray, List.set_cons_zero, List.set_cons_succ]
      refine wpAnyH_take (i := 10) (oi := ⟨some 87, _, _, _, _, _⟩) (v := .agg (rjCells (jrL key k st 0 z32c)).toArray) rfl (by kernel_rfl) (by kernel_rfl) (by kernel_rfl) (fun _ _ _ h => h) (Or.inl ⟨by rfl, by intro W hS; go_simp⟩) SX ?_
      simp only [Act.put, List.setIfInBounds_toArray, List.set_cons_zero, List.set_cons_succ]
      refine wpAnyH_take (i := 11) (oi := ⟨some 88, _, _, _, _, _⟩) (v := .int .i64 0) rfl (by kernel_rfl) (by kernel_rfl) (by kernel_rfl) (fun _ _ _ h => h) (Or.inl ⟨by rfl, by intro W hS; go_simp⟩) SX ?_
      simp only [Act.put, List.setIfInBounds_toArray, List.set_cons_zero, List.set_cons_succ]
      refine wpAnyH_ready (rs := [13]) (by kernel_rfl) (by simp) ?_
      refine AllReadyH.cons (o := ⟨none, .store 44 (.tmp 25) (.tmp 87), _, _, _, _⟩) rfl (fun K' hK => ?_) AllReadyH.nil
      rw [if_pos (by rfl)]
      have thJ : uC.there pJ 0 (rjCells (jrL key k st 0 z32c)).length := kJ.there (by rw [List.size_toArray, HLZ.out]; exact Nat.le_refl _)
      have gF : uC.grownBy (uC.setCells pJ 0 (rjCells (jrL key k st 0 z32c))) (some pJ) := grownBy_setCells _ _ _ (World.grownBy.refl _ _)
      have kF : Blk (uC.setCells pJ 0 (rjCells (jrL key k st 0 z32c))) pJ 44 (rjCells (jrL key k st 0 z32c)).toArray := by
        have h := Blk.put (t := 44) (rjCells (jrL key k st 0 z32c)) [] (Tryz.zeroCells44).toList [] uC HLZ.out (by rw [List.append_nil]; exact kJ)
        rw [List.append_nil] at h
        exact h
      refine wp_store_mid _ _ _ rfl _ _ (List.toArray _) rfl rfl ?_ ?_ HJO.out ?_
      · simpa using thJ
      · rw [List.size_toArray]; exact HIJ.out
      simp only [Act.put]
      obtain ⟨uF, huF⟩ : ∃ uF : World, uF = uC.setCells pJ 0 (rjCells (jrL key k st 0 z32c)) := ⟨_, rfl⟩
      rw [← huF] at gF kF
      have bF : Below w5.heap.size w5 uF := bX.grown gF bX.size (fun k e => by injection e with e; omega)
      have SF := hS5 _ bF
      refine hK.out _ _ (by rw [← huF]; exact SF) (fun _ => ?_)
      clear hK
      rw [← huF]
      clear huF
      refine wpAnyH_take (i := 14) (oi := ⟨some 26, _, _, _, _, _⟩) (v := .int .i64 0) rfl (by kernel_rfl) (by kernel_rfl) (by kernel_rfl) (fun _ _ _ h => h) (Or.inl ⟨by rfl, by intro W hS; go_simp⟩) SF ?_
      simp only [Act.put, List.setIfInBounds_toArray, List.set_cons_zero, List.set_cons_succ]
      refine wpAnyH_done (by kernel_rfl) ?_ _
      exact hcont pJ uF ⟨bF, kF, lJ⟩
  intro gr u6 ⟨b56, kr6, lgr⟩
  have y6 := y5.trans (b56.mono y5.size)
  have k6 := k5.below b56 k5.lt
  have s6 := s5.below b56 s5.lt
  have kM6 := kM5.below b56 kM5.lt
  have J6 := J5.under b56
  have D6 := (D5.under b56)
  clear k5 s5 kM5 J5 D5 hS5 b56 hrj2 hz5 HIJ HLZ HJO HJCL
  go_wp2
  have hgj0 : 1 + 0 < gj := by omega
  go_loopw [27] (fun ix wr => ∃ (i cc : Nat) (tg : List UInt8) (ws : List (Nat × List UInt8)) (Aw Ao : Option Addr) (cw co : Nat) (xo : List Value), i ≤ n ∧ ix = .int .i64 (i : Int) ∧ cc ≤ k ∧ tg.length = 32 ∧ ws.length = cc ∧ (∀ p ∈ ws, p.2.length = 192) ∧ JAt wr gj gd (jrL key k st cc tg) ∧ Disk wr gd (fun k => w.heap.size ≤ k ∧ k ≠ gj) (dkL ws) ∧ Blk wr gm 33 #[.int .i64 12, .slice none 0 0, .slice Aw cc cw, .int .i64 (-1), .bool false, .slice Ao cc co] ∧ Blk wr gr 44 (rjCells (jrL key k st cc tg)).toArray ∧ Blk wr w.heap.size 23 (bs key).toArray ∧ Blk wr (w.heap.size + 1) 41 (stCells start count stag).toArray ∧ wr.ownsRow 0 142 2 (.slice Aw cc cw) cc (encW ws) ∧ wr.ownsRow 0 169 2 (.slice Ao cc co) cc xo ∧ (∀ u ∈ xo, u.oneCell' = true) ∧ Below w.heap.size w wr) (fun ix _ => n - (intOf ix).toNat)
  case atStart => exact ⟨0, 0, z32c, [], none, none, 0, 0, [], by omega, rfl, by omega, List.length_replicate, rfl, fun p hp => (by cases hp), J6, D6, kM6, kr6, k6, s6, World.ownsRow_nil _ _ _ _, World.ownsRow_nil _ _ _ _, fun u hu => (by cases hu), y6⟩
  case round =>
    clear J6 D6 kM6 kr6 k6 s6 y6
    obtain ⟨i, cc, tg, ws, Aw, Ao, cw, co, xo, hin, rfl, hck, htg, hws, h192, Jr, Dr, kMr, krr, kkr, ksr, owr, oor, hxo, hw⟩ := hrel
    have hwr := hw.size
    by_cases hlt : i < n
    · have hpk : ll[i]? = some (ll[i]'(by omega)) := List.getElem?_eq_getElem (by omega)
      obtain ⟨A1, c1, xs1, u0, hr1, hR1⟩ := hi i _ hpk
      have hsp := hr.spot (by omega) (by omega)
      obtain ⟨ad, rfl, hadb, hcell⟩ := hr.2 (by omega)
      obtain ⟨g, o, sp⟩ := ad
      have hsp := hsp _ rfl
      simp only at hsp hadb
      subst hsp
      have d0 := hcell _ _ u0
      rw [Addr.add_mid] at d0
      have q0 : wr.cell? ⟨g, o + i, none⟩ = some (.slice A1 (ll[i]'(by omega)).length c1) := (hw.cell (p := ⟨g, o + i, none⟩) hadb).trans d0
      have hl64 := h64 _ (List.getElem_mem (h := (by omega : i < ll.length)))
      generalize ll[i]'(by omega) = l at *
      clear hcell u0 hpk d0
      by_cases hl6 : 6 < l.length
      · have e1 : (6 : Int) < (l.length : Int) := by omega
        go_wp2
        go_ret
        exact ⟨rfl, hw⟩
      · have e1 : ¬ (6 : Int) < (l.length : Int) := by omega
        have hl6' : l.length ≤ 6 := by omega
        have hRw : RowA wr xs1 l := fun i p hp => by
          obtain ⟨h0, A2, c2, h1, h2, h3⟩ := hR1 i p hp
          exact ⟨h0, A2, c2, h1, h2, (h3.below hw).more hwr⟩
        have him := images_any A1 l.length c1 xs1 l wr ((hr1.below hw).more hwr) rfl hRw (by omega)
        have hlp : (l.map imgPad).length = l.length := List.length_map _
        have hpp : ∀ p ∈ l.map imgPad, p.2.length = 160 ∧ p.1 < 18446744073709551616 := fun p hp => by
          obtain ⟨q, hq, rfl⟩ := List.mem_map.1 hp
          exact ⟨padB_length _ _, hl64 q hq⟩
        clear hl6 hr1 hR1 hRw
        generalize l.map imgPad = lp at *
        have hgjr := Jr.blk.lt
        go_wp2_with (first | (go_at_call 10; refine him.mono ?_; rintro e w7 ⟨A7, c7, ys7, rfl, ho7, hR7, b7⟩; have hs7 := b7.size; clear him))
        obtain ⟨code, m, tg2, S, stN, hSl, hS192, hsl, hso, hcm, hcase, hP, hR⟩ := apps_same key tg k st cc ws lp hk htg hk1 hk10 hstk hck hws h192 (by omega) hpp
        rw [hlp] at hP hR
        have y7 := hw.trans (b7.mono hwr)
        have hap := hP gj gd wr.heap.size _ A7 c7 ys7 w7 (Jr.under b7) (Dr.under b7) (fun h => h.2 rfl) ho7 hR7.rowI (hT.under y7) hgj0 (fun k hk => by have := hk.1; omega)
        have zi : (Tryz.prog.info? 41).map (·.size) = some stN.toArray.size := by rw [List.size_toArray, hsl]; kernel_rfl
        have zs : st0.toArray.size = stN.toArray.size := by rw [List.size_toArray, List.size_toArray, hsl]; rfl
        have ZI := Lib.hid zi
        have ZS := Lib.hid zs
        have HSO := Lib.hid hso
        have HSL := Lib.hid hsl
        have HCASE := Lib.hid hcase
        clear zi zs hP hcase hso hsl
        go_wp2_with (first | (go_at_call 11; refine hap.mono ?_; rintro e w8 ⟨rfl, J8, D8, O8⟩; clear hap) | ((with_reducible refine wpList_store_blk (o := ⟨none, .store 41 (.tmp 29) (.tmp 112), _, _, _, _⟩) rfl 41 (.tmp 29) (.tmp 112) rfl w8.heap.size stN.toArray rfl rfl 41 st0.toArray (Blk.new_of rfl rfl) ZI.out ZS.out HSO.out ?_); intro w9 k9 g9 s9; have S9 := Lib.hid s9; clear s9))
        have s9 : w9.heap.size = w8.heap.size + 1 := S9.out.trans (size_alloc' _ _)
        have s78 := O8.size
        have b89 : Below w8.heap.size w8 w9 := ((Below.refl _ w8).alloc (Nat.le_refl _) (.cells st0.toArray 41)).grown g9 (by rw [size_alloc']; omega) (fun k e => by injection e with e; omega)
        have kM9 := (O8.blk (kMr.below b7 kMr.lt) (.inr (by decide))).below b89 (by have := kMr.lt; omega)
        have kr9 := (O8.blk (krr.below b7 krr.lt) (.inr (by decide))).below b89 (by have := krr.lt; omega)
        have kk9 := (O8.blk (kkr.below b7 kkr.lt) (.inr (by decide))).below b89 (by have := kkr.lt; omega)
        have ks9 := (O8.blk (ksr.below b7 ksr.lt) (.inr (by decide))).below b89 (by have := ksr.lt; omega)
        have ow8 := O8.own (own_keep owr (fun b e => b7.block b (World.ownsRow.lt owr b e).2)) (.inr (by decide))
        have oo8 := O8.own (own_keep oor (fun b e => b7.block b (World.ownsRow.lt oor b e).2)) (.inr (by decide))
        have ow9 := own_keep ow8 (fun b e => b89.block b (World.ownsRow.lt ow8 b e).2)
        have oo9 := own_keep oo8 (fun b e => b89.block b (World.ownsRow.lt oo8 b e).2)
        have ho8 := O8.own ho7 (.inr (by decide))
        have ho9 := own_keep ho8 (fun b e => b89.block b (World.ownsRow.lt ho8 b e).2)
        have hR9 := (hR7.keep (fun b hK => O8.kind hK (.inr dry_u8))).keep (w' := w9) (fun b hK => b89.block b hK.lt)
        have J9 := J8.under b89
        have D9 : Disk w9 gd (fun k => w.heap.size ≤ k ∧ k ≠ gj) (dkL (ws ++ S)) := (D8.under b89).mono (fun k _ hf => hf.elim id (fun h => ⟨by omega, by omega⟩))
        have y8 : Below w.heap.size w w8 := y7.trans (O8.below (by omega) (fun k h => h.elim (fun h => h.1) (fun e => by omega)))
        have y9 := y8.trans (b89.mono y8.size)
        have hmo := fun W (hb : Below w9.heap.size w9 W) => modelOf_any A7 l.length c7 ys7 lp W (Reads.of_own (own_keep ho9 (fun b e => hb.block b (World.ownsRow.lt ho9 b e).2))) (own_spotc (own_keep ho9 (fun b e => hb.block b (World.ownsRow.lt ho9 b e).2))) hlp ((hR9.keep (fun b hK => hb.block b hK.lt)).rowI) (by omega)
        have hpst : w8.heap.size < w9.heap.size := by omega
        have k9' : Blk w9 w8.heap.size 41 stN.toArray := k9
        clear J8 D8 O8 b7 ho7 hR7 Jr Dr kMr krr kkr ksr owr oor ho8 ow8 oo8 b89 g9 k9 y7 y8
        generalize w8.heap.size = pst at *
        have hjcl := rjCells_length (jrL key k st cc tg) hk htg
        have hjnl := rjCells_length { jrL key k st cc tg with next := 1 + cc + m } hk htg
        have hjno := rjCells_one { jrL key k st cc tg with next := 1 + cc + m }
        obtain ⟨u0, hu0⟩ : ∃ u0 : World, u0 = w9.drew := ⟨_, rfl⟩
        have hz0 : w9.heap.size ≤ u0.heap.size := by rw [hu0]; exact Nat.le_refl _
        have hu0b : Below w9.heap.size w9 u0 := by rw [hu0]; exact (Below.refl _ _).drew
        have hSo : ∀ W, Below u0.heap.size u0 W → W.rangeAt gm 0 ([.int .i64 12, .slice none 0 0, .slice Aw cc cw, .int .i64 (-1), .bool false, .slice Ao cc co] : List Value) ∧ W.rangeAt gr 0 (rjCells (jrL key k st cc tg)) := fun W hb => ⟨Blk.range ((kM9.below hu0b kM9.lt).below hb (by have := kM9.lt; omega)), Blk.range ((kr9.below hu0b kr9.lt).below hb (by have := kr9.lt; omega))⟩
        have uD := Tryz.underlying33
        have uJ := Tryz.underlying44
        have iD : (Tryz.prog.info? 33).map (·.size) = some ([.int .i64 12, .slice none 0 0, .slice Aw cc cw, .int .i64 (-1), .bool false, .slice Ao cc co] : List Value).length := by kernel_rfl
        have iJ : (Tryz.prog.info? 44).map (·.size) = some (rjCells (jrL key k st cc tg)).length := by rw [hjcl]; kernel_rfl
        have IJ := Lib.hid iJ
        have emod : ∀ args w, (callFunc 13 args).run Tryz.prog w = .ok (.enter 13 args) w := enters_of Tryz.func13 (by kernel_rfl) rfl
        have eapp : ∀ args w, (callFunc 12 args).run Tryz.prog w = .ok (.enter 12 args) w := enters_of Tryz.func12 (by kernel_rfl) rfl
        have bu0 : Below u0.heap.size u0 u0 := Below.refl _ _
        have happ : ∀ (W : World) (A : Option Addr) (ca : Nat), Below u0.heap.size u0 W → W.ownsRow 0 105 2 (.slice A l.length ca) l.length (encM lp) → Calls Tryz.prog 12 #[.agg #[.int .i64 12, .slice none 0 0, .slice Aw cc cw, .int .i64 (-1), .bool false, .slice Ao cc co], .agg (rjCells (jrL key k st cc tg)).toArray, .slice A l.length ca] W fun e w' => ∃ A2 c2 B2 d2 x2, e = .returned (.tuple #[.agg #[.int .i64 12, .slice none 0 0, .slice A2 (cc + m) c2, .int .i64 (-1), .bool false, .slice B2 (cc + m) d2], .agg (rjCells { jrL key k st cc tg with next := 1 + cc + m }).toArray, .agg stN.toArray, .int .i64 code]) ∧ w'.ownsRow 0 142 2 (.slice A2 (cc + m) c2) (cc + m) (encW (ws ++ S)) ∧ w'.ownsRow 0 169 2 (.slice B2 (cc + m) d2) (cc + m) x2 ∧ (∀ u ∈ x2, u.oneCell' = true) ∧ Below W.heap.size W w' := fun W A ca hb hI =>
          hR Aw Ao A cw co ca xo W (own_keep ow9 (fun b e => (hb.block b (by have := (World.ownsRow.lt ow9 b e).2; omega)).trans (hu0b.block b (World.ownsRow.lt ow9 b e).2))) (own_keep oo9 (fun b e => (hb.block b (by have := (World.ownsRow.lt oo9 b e).2; omega)).trans (hu0b.block b (World.ownsRow.lt oo9 b e).2))) hxo hI
        clear hR iJ
        apply cont_loads (fun Am cm A2 c2 B2 d2 pD pJ pS u => ∃ x2 : List Value, Below u0.heap.size u0 u ∧ u.ownsRow 0 142 2 (.slice A2 (cc + m) c2) (cc + m) (encW (ws ++ S)) ∧ u.ownsRow 0 169 2 (.slice B2 (cc + m) d2) (cc + m) x2 ∧ (∀ v ∈ x2, v.oneCell' = true) ∧ Blk u pD 33 (([.int .i64 0, .slice none 0 0, .slice none 0 0, .int .i64 0, .bool false, .slice none 0 0] : List Value).toArray) ∧ Blk u pJ 44 Tryz.zeroCells44 ∧ Blk u pS 42 st0.toArray ∧ u0.heap.size ≤ pD ∧ u0.heap.size ≤ pJ ∧ u0.heap.size ≤ pS ∧ pD ≠ pJ ∧ pD ≠ pS ∧ pJ ≠ pS)
        · intro hcont
          refine wp_region_held_drew (S := fun w' => w'.rangeAt gm 0 ([.int .i64 12, .slice none 0 0, .slice Aw cc cw, .int .i64 (-1), .bool false, .slice Ao cc co] : List Value) ∧ w'.rangeAt gr 0 (rjCells (jrL key k st cc tg))) (by kernel_rfl) (by rw [← hu0]; exact hSo _ bu0) (fun _ => ?_)
          rw [← hu0]
          refine wpAnyH_take (i := 0) (oi := ⟨some 115, _, _, _, _, _⟩) (v := .agg #[.int .i64 12, .slice none 0 0, .slice Aw cc cw, .int .i64 (-1), .bool false, .slice Ao cc co]) rfl (by kernel_rfl) (by kernel_rfl) (by kernel_rfl) (fun _ _ _ h => h) (yieldsIf_load_mid (by rfl) 33 _ rfl gm 0 (by rfl) ([.int .i64 12, .slice none 0 0, .slice Aw cc cw, .int .i64 (-1), .bool false, .slice Ao cc co] : List Value) _ (fun W h => h.1) uD rfl iD) (hSo _ bu0) ?_
          simp only [Act.put, List.setIfInBounds_toArray, List.set_cons_zero, List.set_cons_succ]
          refine wpAnyH_take (i := 1) (oi := ⟨some 116, _, _, _, _, _⟩) (v := .agg (rjCells (jrL key k st cc tg)).toArray) rfl (by kernel_rfl) (by kernel_rfl) (by kernel_rfl) (fun _ _ _ h => h) (yieldsIf_load_mid (by rfl) 44 _ rfl gr 0 (by rfl) (rjCells (jrL key k st cc tg)) _ (fun W h => h.2) uJ rfl IJ.out) (hSo _ bu0) ?_
          simp only [Act.put, List.setIfInBounds_toArray, List.set_cons_zero, List.set_cons_succ]
          refine wpAnyH_take (i := 2) (oi := ⟨some 117, _, _, _, _, _⟩) (v := .slice A7 l.length c7) rfl (by kernel_rfl) (by kernel_rfl) (by kernel_rfl) (fun _ _ _ h => h) (Or.inl ⟨by rfl, by intro W hS; go_simp⟩) (hSo _ bu0) ?_
          simp only [Act.put, List.setIfInBounds_toArray, List.set_cons_zero, List.set_cons_succ]
          obtain ⟨uC, bC, huC⟩ : ∃ u : World, Below u0.heap.size u0 u ∧ u = u0 := ⟨_, bu0, rfl⟩
          rw [← huC]
          clear huC
          all_goals first
            | (refine wpAnyH_ready (rs := [3, 10, 11, 12]) (by decide +kernel) (by simp) ?_; refine AllReadyH.cons (o := ⟨some 118, .call { callee := .value (.func 13), args := #[.tmp 117], argTypes := #[24] }, _, _, _, _⟩) rfl (fun K' hK => ?_) (AllReadyH.cons (o := ⟨some 31, .alloc 33, _, _, _, _⟩) rfl (fun K' hK => ?_) (AllReadyH.cons (o := ⟨some 32, .alloc 44, _, _, _, _⟩) rfl (fun K' hK => ?_) (AllReadyH.cons (o := ⟨some 33, .alloc 42, _, _, _, _⟩) rfl (fun K' hK => ?_) (AllReadyH.nil)))))
          all_goals first
            | (refine step_alloc_run rfl (run_allocD _ _ rfl _) ?_
               obtain ⟨pD, hpD⟩ : ∃ p, p = uC.heap.size := ⟨_, rfl⟩
               have lD : u0.heap.size ≤ pD := by rw [hpD]; exact bC.size
               obtain ⟨uC, huC, st2, kN⟩ : ∃ u : World, u = uC.alloc (.cells ([.int .i64 0, .slice none 0 0, .slice none 0 0, .int .i64 0, .bool false, .slice none 0 0] : List Value).toArray 33) ∧ Below uC.heap.size uC u ∧ Blk u uC.heap.size 33 (([.int .i64 0, .slice none 0 0, .slice none 0 0, .int .i64 0, .bool false, .slice none 0 0] : List Value).toArray) := ⟨_, rfl, (Below.refl _ _).alloc (Nat.le_refl _) _, Blk.new _ _ _⟩
               rw [← hpD] at kN
               try (have om := own_keep om (fun b e => st2.block b (World.ownsRow.lt om b e).2))
               try (have oW := own_keep oW (fun b e => st2.block b (World.ownsRow.lt oW b e).2); have oO := own_keep oO (fun b e => st2.block b (World.ownsRow.lt oO b e).2))
               try (have kD := kD.below st2 kD.lt)
               try (have kJ := kJ.below st2 kJ.lt)
               try (have kS := kS.below st2 kS.lt)
               have kD := kN
               have bC := bC.trans (st2.mono bC.size)
               refine hK.out _ _ (by rw [← huC]; exact hSo _ bC) (fun _ => ?_)
               clear hK st2
               simp only [Act.put, List.setIfInBounds_toArray, List.set_cons_zero, List.set_cons_succ]
               rw [← huC, ← hpD]
               clear huC hpD)
            | (refine step_alloc_run rfl (run_allocJ _ _ rfl _) ?_
               obtain ⟨pJ, hpJ⟩ : ∃ p, p = uC.heap.size := ⟨_, rfl⟩
               have lJ : u0.heap.size ≤ pJ := by rw [hpJ]; exact bC.size
               obtain ⟨uC, huC, st2, kN⟩ : ∃ u : World, u = uC.alloc (.cells Tryz.zeroCells44 44) ∧ Below uC.heap.size uC u ∧ Blk u uC.heap.size 44 (Tryz.zeroCells44) := ⟨_, rfl, (Below.refl _ _).alloc (Nat.le_refl _) _, Blk.new _ _ _⟩
               rw [← hpJ] at kN
               try (have om := own_keep om (fun b e => st2.block b (World.ownsRow.lt om b e).2))
               try (have oW := own_keep oW (fun b e => st2.block b (World.ownsRow.lt oW b e).2); have oO := own_keep oO (fun b e => st2.block b (World.ownsRow.lt oO b e).2))
               try (have kD := kD.below st2 kD.lt)
               try (have kJ := kJ.below st2 kJ.lt)
               try (have kS := kS.below st2 kS.lt)
               have kJ := kN
               have bC := bC.trans (st2.mono bC.size)
               refine hK.out _ _ (by rw [← huC]; exact hSo _ bC) (fun _ => ?_)
               clear hK st2
               simp only [Act.put, List.setIfInBounds_toArray, List.set_cons_zero, List.set_cons_succ]
               rw [← huC, ← hpJ]
               clear huC hpJ)
            | (refine step_alloc_run rfl (run_allocS _ _ rfl _) ?_
               obtain ⟨pS, hpS⟩ : ∃ p, p = uC.heap.size := ⟨_, rfl⟩
               have lS : u0.heap.size ≤ pS := by rw [hpS]; exact bC.size
               obtain ⟨uC, huC, st2, kN⟩ : ∃ u : World, u = uC.alloc (.cells st0.toArray 42) ∧ Below uC.heap.size uC u ∧ Blk u uC.heap.size 42 (st0.toArray) := ⟨_, rfl, (Below.refl _ _).alloc (Nat.le_refl _) _, Blk.new _ _ _⟩
               rw [← hpS] at kN
               try (have om := own_keep om (fun b e => st2.block b (World.ownsRow.lt om b e).2))
               try (have oW := own_keep oW (fun b e => st2.block b (World.ownsRow.lt oW b e).2); have oO := own_keep oO (fun b e => st2.block b (World.ownsRow.lt oO b e).2))
               try (have kD := kD.below st2 kD.lt)
               try (have kJ := kJ.below st2 kJ.lt)
               try (have kS := kS.below st2 kS.lt)
               have kS := kN
               have bC := bC.trans (st2.mono bC.size)
               refine hK.out _ _ (by rw [← huC]; exact hSo _ bC) (fun _ => ?_)
               clear hK st2
               simp only [Act.put, List.setIfInBounds_toArray, List.set_cons_zero, List.set_cons_succ]
               rw [← huC, ← hpS]
               clear huC hpS)
            | (refine step_call_w (by rfl) 13 [_] _ rfl [.slice A7 l.length c7] rfl emod _ (hmo _ (hu0b.trans (bC.mono hz0))) ?_
               rintro e uC ⟨Am, cm, rfl, omN, st2⟩
               try (have om := own_keep om (fun b e => st2.block b (World.ownsRow.lt om b e).2))
               try (have oW := own_keep oW (fun b e => st2.block b (World.ownsRow.lt oW b e).2); have oO := own_keep oO (fun b e => st2.block b (World.ownsRow.lt oO b e).2))
               try (have kD := kD.below st2 kD.lt)
               try (have kJ := kJ.below st2 kJ.lt)
               try (have kS := kS.below st2 kS.lt)
               have om := omN
               have bC := bC.trans (st2.mono bC.size)
               refine ⟨_, rfl, hK.out _ _ (hSo _ bC) (fun _ => ?_)⟩
               clear hK st2
               simp only [Act.put, List.setIfInBounds_toArray, List.set_cons_zero, List.set_cons_succ])
          all_goals first
            | (refine wpAnyH_ready (rs := [4, 10, 11, 12]) (by decide +kernel) (by simp) ?_; refine AllReadyH.cons (o := ⟨some 119, .call { callee := .value (.func 12), args := #[.tmp 115, .tmp 116, .tmp 118], argTypes := #[33, 44, 52] }, _, _, _, _⟩) rfl (fun K' hK => ?_) (AllReadyH.cons (o := ⟨some 31, .alloc 33, _, _, _, _⟩) rfl (fun K' hK => ?_) (AllReadyH.cons (o := ⟨some 32, .alloc 44, _, _, _, _⟩) rfl (fun K' hK => ?_) (AllReadyH.cons (o := ⟨some 33, .alloc 42, _, _, _, _⟩) rfl (fun K' hK => ?_) (AllReadyH.nil)))))
            | (refine wpAnyH_ready (rs := [3, 10, 11]) (by decide +kernel) (by simp) ?_; refine AllReadyH.cons (o := ⟨some 118, .call { callee := .value (.func 13), args := #[.tmp 117], argTypes := #[24] }, _, _, _, _⟩) rfl (fun K' hK => ?_) (AllReadyH.cons (o := ⟨some 31, .alloc 33, _, _, _, _⟩) rfl (fun K' hK => ?_) (AllReadyH.cons (o := ⟨some 32, .alloc 44, _, _, _, _⟩) rfl (fun K' hK => ?_) (AllReadyH.nil))))
            | (refine wpAnyH_ready (rs := [3, 10, 12]) (by decide +kernel) (by simp) ?_; refine AllReadyH.cons (o := ⟨some 118, .call { callee := .value (.func 13), args := #[.tmp 117], argTypes := #[24] }, _, _, _, _⟩) rfl (fun K' hK => ?_) (AllReadyH.cons (o := ⟨some 31, .alloc 33, _, _, _, _⟩) rfl (fun K' hK => ?_) (AllReadyH.cons (o := ⟨some 33, .alloc 42, _, _, _, _⟩) rfl (fun K' hK => ?_) (AllReadyH.nil))))
            | (refine wpAnyH_ready (rs := [3, 11, 12]) (by decide +kernel) (by simp) ?_; refine AllReadyH.cons (o := ⟨some 118, .call { callee := .value (.func 13), args := #[.tmp 117], argTypes := #[24] }, _, _, _, _⟩) rfl (fun K' hK => ?_) (AllReadyH.cons (o := ⟨some 32, .alloc 44, _, _, _, _⟩) rfl (fun K' hK => ?_) (AllReadyH.cons (o := ⟨some 33, .alloc 42, _, _, _, _⟩) rfl (fun K' hK => ?_) (AllReadyH.nil))))
          all_goals first
            | (refine step_alloc_run rfl (run_allocD _ _ rfl _) ?_
               obtain ⟨pD, hpD⟩ : ∃ p, p = uC.heap.size := ⟨_, rfl⟩
               have lD : u0.heap.size ≤ pD := by rw [hpD]; exact bC.size
               obtain ⟨uC, huC, st2, kN⟩ : ∃ u : World, u = uC.alloc (.cells ([.int .i64 0, .slice none 0 0, .slice none 0 0, .int .i64 0, .bool false, .slice none 0 0] : List Value).toArray 33) ∧ Below uC.heap.size uC u ∧ Blk u uC.heap.size 33 (([.int .i64 0, .slice none 0 0, .slice none 0 0, .int .i64 0, .bool false, .slice none 0 0] : List Value).toArray) := ⟨_, rfl, (Below.refl _ _).alloc (Nat.le_refl _) _, Blk.new _ _ _⟩
               rw [← hpD] at kN
               try (have om := own_keep om (fun b e => st2.block b (World.ownsRow.lt om b e).2))
               try (have oW := own_keep oW (fun b e => st2.block b (World.ownsRow.lt oW b e).2); have oO := own_keep oO (fun b e => st2.block b (World.ownsRow.lt oO b e).2))
               try (have kD := kD.below st2 kD.lt)
               try (have kJ := kJ.below st2 kJ.lt)
               try (have kS := kS.below st2 kS.lt)
               have kD := kN
               have bC := bC.trans (st2.mono bC.size)
               refine hK.out _ _ (by rw [← huC]; exact hSo _ bC) (fun _ => ?_)
               clear hK st2
               simp only [Act.put, List.setIfInBounds_toArray, List.set_cons_zero, List.set_cons_succ]
               rw [← huC, ← hpD]
               clear huC hpD)
            | (refine step_alloc_run rfl (run_allocJ _ _ rfl _) ?_
               obtain ⟨pJ, hpJ⟩ : ∃ p, p = uC.heap.size := ⟨_, rfl⟩
               have lJ : u0.heap.size ≤ pJ := by rw [hpJ]; exact bC.size
               obtain ⟨uC, huC, st2, kN⟩ : ∃ u : World, u = uC.alloc (.cells Tryz.zeroCells44 44) ∧ Below uC.heap.size uC u ∧ Blk u uC.heap.size 44 (Tryz.zeroCells44) := ⟨_, rfl, (Below.refl _ _).alloc (Nat.le_refl _) _, Blk.new _ _ _⟩
               rw [← hpJ] at kN
               try (have om := own_keep om (fun b e => st2.block b (World.ownsRow.lt om b e).2))
               try (have oW := own_keep oW (fun b e => st2.block b (World.ownsRow.lt oW b e).2); have oO := own_keep oO (fun b e => st2.block b (World.ownsRow.lt oO b e).2))
               try (have kD := kD.below st2 kD.lt)
               try (have kJ := kJ.below st2 kJ.lt)
               try (have kS := kS.below st2 kS.lt)
               have kJ := kN
               have bC := bC.trans (st2.mono bC.size)
               refine hK.out _ _ (by rw [← huC]; exact hSo _ bC) (fun _ => ?_)
               clear hK st2
               simp only [Act.put, List.setIfInBounds_toArray, List.set_cons_zero, List.set_cons_succ]
               rw [← huC, ← hpJ]
               clear huC hpJ)
            | (refine step_alloc_run rfl (run_allocS _ _ rfl _) ?_
               obtain ⟨pS, hpS⟩ : ∃ p, p = uC.heap.size := ⟨_, rfl⟩
               have lS : u0.heap.size ≤ pS := by rw [hpS]; exact bC.size
               obtain ⟨uC, huC, st2, kN⟩ : ∃ u : World, u = uC.alloc (.cells st0.toArray 42) ∧ Below uC.heap.size uC u ∧ Blk u uC.heap.size 42 (st0.toArray) := ⟨_, rfl, (Below.refl _ _).alloc (Nat.le_refl _) _, Blk.new _ _ _⟩
               rw [← hpS] at kN
               try (have om := own_keep om (fun b e => st2.block b (World.ownsRow.lt om b e).2))
               try (have oW := own_keep oW (fun b e => st2.block b (World.ownsRow.lt oW b e).2); have oO := own_keep oO (fun b e => st2.block b (World.ownsRow.lt oO b e).2))
               try (have kD := kD.below st2 kD.lt)
               try (have kJ := kJ.below st2 kJ.lt)
               try (have kS := kS.below st2 kS.lt)
               have kS := kN
               have bC := bC.trans (st2.mono bC.size)
               refine hK.out _ _ (by rw [← huC]; exact hSo _ bC) (fun _ => ?_)
               clear hK st2
               simp only [Act.put, List.setIfInBounds_toArray, List.set_cons_zero, List.set_cons_succ]
               rw [← huC, ← hpS]
               clear huC hpS)
            | (refine step_call_w (by rfl) 13 [_] _ rfl [.slice A7 l.length c7] rfl emod _ (hmo _ (hu0b.trans (bC.mono hz0))) ?_
               rintro e uC ⟨Am, cm, rfl, omN, st2⟩
               try (have om := own_keep om (fun b e => st2.block b (World.ownsRow.lt om b e).2))
               try (have oW := own_keep oW (fun b e => st2.block b (World.ownsRow.lt oW b e).2); have oO := own_keep oO (fun b e => st2.block b (World.ownsRow.lt oO b e).2))
               try (have kD := kD.below st2 kD.lt)
               try (have kJ := kJ.below st2 kJ.lt)
               try (have kS := kS.below st2 kS.lt)
               have om := omN
               have bC := bC.trans (st2.mono bC.size)
               refine ⟨_, rfl, hK.out _ _ (hSo _ bC) (fun _ => ?_)⟩
               clear hK st2
               simp only [Act.put, List.setIfInBounds_toArray, List.set_cons_zero, List.set_cons_succ])
            | (refine step_call_w (by rfl) 12 [_, _, _] _ rfl [.agg #[.int .i64 12, .slice none 0 0, .slice Aw cc cw, .int .i64 (-1), .bool false, .slice Ao cc co], .agg (rjCells (jrL key k st cc tg)).toArray, .slice Am l.length cm] rfl eapp _ (happ _ _ _ bC (ownsRow_lower om (Nat.zero_le _))) ?_
               rintro e uC ⟨A2, c2, B2, d2, x2, rfl, oWN, oON, ox, st2⟩
               try (have om := own_keep om (fun b e => st2.block b (World.ownsRow.lt om b e).2))
               try (have oW := own_keep oW (fun b e => st2.block b (World.ownsRow.lt oW b e).2); have oO := own_keep oO (fun b e => st2.block b (World.ownsRow.lt oO b e).2))
               try (have kD := kD.below st2 kD.lt)
               try (have kJ := kJ.below st2 kJ.lt)
               try (have kS := kS.below st2 kS.lt)
               have oW := oWN
               have oO := oON
               have bC := bC.trans (st2.mono bC.size)
               refine ⟨_, rfl, hK.out _ _ (hSo _ bC) (fun _ => ?_)⟩
               clear hK st2
               simp only [Act.put, List.setIfInBounds_toArray, List.set_cons_zero, List.set_cons_succ]
               refine wpAnyH_take (i := 5) (oi := ⟨some 114, _, _, _, _, _⟩) (v := .tuple #[.agg #[.int .i64 12, .slice none 0 0, .slice A2 (cc + m) c2, .int .i64 (-1), .bool false, .slice B2 (cc + m) d2], .agg (rjCells { jrL key k st cc tg with next := 1 + cc + m }).toArray, .agg stN.toArray, .int .i64 code]) rfl (by kernel_rfl) (by kernel_rfl) (by kernel_rfl) (fun _ _ _ h => h) (Or.inl ⟨by rfl, by intro W hS; go_simp⟩) (hSo _ bC) ?_
               simp only [Act.put, List.setIfInBounds_toArray, List.set_cons_zero, List.set_cons_succ]
               refine wpAnyH_take (i := 6) (oi := ⟨some 120, _, _, _, _, _⟩) (v := .agg #[.int .i64 12, .slice none 0 0, .slice A2 (cc + m) c2, .int .i64 (-1), .bool false, .slice B2 (cc + m) d2]) rfl (by kernel_rfl) (by kernel_rfl) (by kernel_rfl) (fun _ _ _ h => h) (Or.inl ⟨by rfl, by intro W hS; go_simp⟩) (hSo _ bC) ?_
               simp only [Act.put, List.setIfInBounds_toArray, List.set_cons_zero, List.set_cons_succ]
               refine wpAnyH_take (i := 7) (oi := ⟨some 121, _, _, _, _, _⟩) (v := .agg (rjCells { jrL key k st cc tg with next := 1 + cc + m }).toArray) rfl (by kernel_rfl) (by kernel_rfl) (by kernel_rfl) (fun _ _ _ h => h) (Or.inl ⟨by rfl, by intro W hS; go_simp⟩) (hSo _ bC) ?_
               simp only [Act.put, List.setIfInBounds_toArray, List.set_cons_zero, List.set_cons_succ]
               refine wpAnyH_take (i := 8) (oi := ⟨some 122, _, _, _, _, _⟩) (v := .agg stN.toArray) rfl (by kernel_rfl) (by kernel_rfl) (by kernel_rfl) (fun _ _ _ h => h) (Or.inl ⟨by rfl, by intro W hS; go_simp⟩) (hSo _ bC) ?_
               simp only [Act.put, List.setIfInBounds_toArray, List.set_cons_zero, List.set_cons_succ]
               refine wpAnyH_take (i := 9) (oi := ⟨some 123, _, _, _, _, _⟩) (v := .int .i64 code) rfl (by kernel_rfl) (by kernel_rfl) (by kernel_rfl) (fun _ _ _ h => h) (Or.inl ⟨by rfl, by intro W hS; go_simp⟩) (hSo _ bC) ?_
               simp only [Act.put, List.setIfInBounds_toArray, List.set_cons_zero, List.set_cons_succ])
          all_goals first
            | (refine wpAnyH_ready (rs := [4, 10, 11]) (by decide +kernel) (by simp) ?_; refine AllReadyH.cons (o := ⟨some 119, .call { callee := .value (.func 12), args := #[.tmp 115, .tmp 116, .tmp 118], argTypes := #[33, 44, 52] }, _, _, _, _⟩) rfl (fun K' hK => ?_) (AllReadyH.cons (o := ⟨some 31, .alloc 33, _, _, _, _⟩) rfl (fun K' hK => ?_) (AllReadyH.cons (o := ⟨some 32, .alloc 44, _, _, _, _⟩) rfl (fun K' hK => ?_) (AllReadyH.nil))))
            | (refine wpAnyH_ready (rs := [4, 10, 12]) (by decide +kernel) (by simp) ?_; refine AllReadyH.cons (o := ⟨some 119, .call { callee := .value (.func 12), args := #[.tmp 115, .tmp 116, .tmp 118], argTypes := #[33, 44, 52] }, _, _, _, _⟩) rfl (fun K' hK => ?_) (AllReadyH.cons (o := ⟨some 31, .alloc 33, _, _, _, _⟩) rfl (fun K' hK => ?_) (AllReadyH.cons (o := ⟨some 33, .alloc 42, _, _, _, _⟩) rfl (fun K' hK => ?_) (AllReadyH.nil))))
            | (refine wpAnyH_ready (rs := [4, 11, 12]) (by decide +kernel) (by simp) ?_; refine AllReadyH.cons (o := ⟨some 119, .call { callee := .value (.func 12), args := #[.tmp 115, .tmp 116, .tmp 118], argTypes := #[33, 44, 52] }, _, _, _, _⟩) rfl (fun K' hK => ?_) (AllReadyH.cons (o := ⟨some 32, .alloc 44, _, _, _, _⟩) rfl (fun K' hK => ?_) (AllReadyH.cons (o := ⟨some 33, .alloc 42, _, _, _, _⟩) rfl (fun K' hK => ?_) (AllReadyH.nil))))
            | (refine wpAnyH_ready (rs := [10, 11, 12]) (by decide +kernel) (by simp) ?_; refine AllReadyH.cons (o := ⟨some 31, .alloc 33, _, _, _, _⟩) rfl (fun K' hK => ?_) (AllReadyH.cons (o := ⟨some 32, .alloc 44, _, _, _, _⟩) rfl (fun K' hK => ?_) (AllReadyH.cons (o := ⟨some 33, .alloc 42, _, _, _, _⟩) rfl (fun K' hK => ?_) (AllReadyH.nil))))
            | (refine wpAnyH_ready (rs := [3, 10]) (by decide +kernel) (by simp) ?_; refine AllReadyH.cons (o := ⟨some 118, .call { callee := .value (.func 13), args := #[.tmp 117], argTypes := #[24] }, _, _, _, _⟩) rfl (fun K' hK => ?_) (AllReadyH.cons (o := ⟨some 31, .alloc 33, _, _, _, _⟩) rfl (fun K' hK => ?_) (AllReadyH.nil)))
            | (refine wpAnyH_ready (rs := [3, 11]) (by decide +kernel) (by simp) ?_; refine AllReadyH.cons (o := ⟨some 118, .call { callee := .value (.func 13), args := #[.tmp 117], argTypes := #[24] }, _, _, _, _⟩) rfl (fun K' hK => ?_) (AllReadyH.cons (o := ⟨some 32, .alloc 44, _, _, _, _⟩) rfl (fun K' hK => ?_) (AllReadyH.nil)))
            | (refine wpAnyH_ready (rs := [3, 12]) (by decide +kernel) (by simp) ?_; refine AllReadyH.cons (o := ⟨some 118, .call { callee := .value (.func 13), args := #[.tmp 117], argTypes := #[24] }, _, _, _, _⟩) rfl (fun K' hK => ?_) (AllReadyH.cons (o := ⟨some 33, .alloc 42, _, _, _, _⟩) rfl (fun K' hK => ?_) (AllReadyH.nil)))
          all_goals first
            | (refine step_alloc_run rfl (run_allocD _ _ rfl _) ?_
               obtain ⟨pD, hpD⟩ : ∃ p, p = uC.heap.size := ⟨_, rfl⟩
               have lD : u0.heap.size ≤ pD := by rw [hpD]; exact bC.size
               obtain ⟨uC, huC, st2, kN⟩ : ∃ u : World, u = uC.alloc (.cells ([.int .i64 0, .slice none 0 0, .slice none 0 0, .int .i64 0, .bool false, .slice none 0 0] : List Value).toArray 33) ∧ Below uC.heap.size uC u ∧ Blk u uC.heap.size 33 (([.int .i64 0, .slice none 0 0, .slice none 0 0, .int .i64 0, .bool false, .slice none 0 0] : List Value).toArray) := ⟨_, rfl, (Below.refl _ _).alloc (Nat.le_refl _) _, Blk.new _ _ _⟩
               rw [← hpD] at kN
               try (have om := own_keep om (fun b e => st2.block b (World.ownsRow.lt om b e).2))
               try (have oW := own_keep oW (fun b e => st2.block b (World.ownsRow.lt oW b e).2); have oO := own_keep oO (fun b e => st2.block b (World.ownsRow.lt oO b e).2))
               try (have kD := kD.below st2 kD.lt)
               try (have kJ := kJ.below st2 kJ.lt)
               try (have kS := kS.below st2 kS.lt)
               have kD := kN
               have bC := bC.trans (st2.mono bC.size)
               refine hK.out _ _ (by rw [← huC]; exact hSo _ bC) (fun _ => ?_)
               clear hK st2
               simp only [Act.put, List.setIfInBounds_toArray, List.set_cons_zero, List.set_cons_succ]
               rw [← huC, ← hpD]
               clear huC hpD)
            | (refine step_alloc_run rfl (run_allocJ _ _ rfl _) ?_
               obtain ⟨pJ, hpJ⟩ : ∃ p, p = uC.heap.size := ⟨_, rfl⟩
               have lJ : u0.heap.size ≤ pJ := by rw [hpJ]; exact bC.size
               obtain ⟨uC, huC, st2, kN⟩ : ∃ u : World, u = uC.alloc (.cells Tryz.zeroCells44 44) ∧ Below uC.heap.size uC u ∧ Blk u uC.heap.size 44 (Tryz.zeroCells44) := ⟨_, rfl, (Below.refl _ _).alloc (Nat.le_refl _) _, Blk.new _ _ _⟩
               rw [← hpJ] at kN
               try (have om := own_keep om (fun b e => st2.block b (World.ownsRow.lt om b e).2))
               try (have oW := own_keep oW (fun b e => st2.block b (World.ownsRow.lt oW b e).2); have oO := own_keep oO (fun b e => st2.block b (World.ownsRow.lt oO b e).2))
               try (have kD := kD.below st2 kD.lt)
               try (have kJ := kJ.below st2 kJ.lt)
               try (have kS := kS.below st2 kS.lt)
               have kJ := kN
               have bC := bC.trans (st2.mono bC.size)
               refine hK.out _ _ (by rw [← huC]; exact hSo _ bC) (fun _ => ?_)
               clear hK st2
               simp only [Act.put, List.setIfInBounds_toArray, List.set_cons_zero, List.set_cons_succ]
               rw [← huC, ← hpJ]
               clear huC hpJ)
            | (refine step_alloc_run rfl (run_allocS _ _ rfl _) ?_
               obtain ⟨pS, hpS⟩ : ∃ p, p = uC.heap.size := ⟨_, rfl⟩
               have lS : u0.heap.size ≤ pS := by rw [hpS]; exact bC.size
               obtain ⟨uC, huC, st2, kN⟩ : ∃ u : World, u = uC.alloc (.cells st0.toArray 42) ∧ Below uC.heap.size uC u ∧ Blk u uC.heap.size 42 (st0.toArray) := ⟨_, rfl, (Below.refl _ _).alloc (Nat.le_refl _) _, Blk.new _ _ _⟩
               rw [← hpS] at kN
               try (have om := own_keep om (fun b e => st2.block b (World.ownsRow.lt om b e).2))
               try (have oW := own_keep oW (fun b e => st2.block b (World.ownsRow.lt oW b e).2); have oO := own_keep oO (fun b e => st2.block b (World.ownsRow.lt oO b e).2))
               try (have kD := kD.below st2 kD.lt)
               try (have kJ := kJ.below st2 kJ.lt)
               try (have kS := kS.below st2 kS.lt)
               have kS := kN
               have bC := bC.trans (st2.mono bC.size)
               refine hK.out _ _ (by rw [← huC]; exact hSo _ bC) (fun _ => ?_)
               clear hK st2
               simp only [Act.put, List.setIfInBounds_toArray, List.set_cons_zero, List.set_cons_succ]
               rw [← huC, ← hpS]
               clear huC hpS)
            | (refine step_call_w (by rfl) 13 [_] _ rfl [.slice A7 l.length c7] rfl emod _ (hmo _ (hu0b.trans (bC.mono hz0))) ?_
               rintro e uC ⟨Am, cm, rfl, omN, st2⟩
               try (have om := own_keep om (fun b e => st2.block b (World.ownsRow.lt om b e).2))
               try (have oW := own_keep oW (fun b e => st2.block b (World.ownsRow.lt oW b e).2); have oO := own_keep oO (fun b e => st2.block b (World.ownsRow.lt oO b e).2))
               try (have kD := kD.below st2 kD.lt)
               try (have kJ := kJ.below st2 kJ.lt)
               try (have kS := kS.below st2 kS.lt)
               have om := omN
               have bC := bC.trans (st2.mono bC.size)
               refine ⟨_, rfl, hK.out _ _ (hSo _ bC) (fun _ => ?_)⟩
               clear hK st2
               simp only [Act.put, List.setIfInBounds_toArray, List.set_cons_zero, List.set_cons_succ])
            | (refine step_call_w (by rfl) 12 [_, _, _] _ rfl [.agg #[.int .i64 12, .slice none 0 0, .slice Aw cc cw, .int .i64 (-1), .bool false, .slice Ao cc co], .agg (rjCells (jrL key k st cc tg)).toArray, .slice Am l.length cm] rfl eapp _ (happ _ _ _ bC (ownsRow_lower om (Nat.zero_le _))) ?_
               rintro e uC ⟨A2, c2, B2, d2, x2, rfl, oWN, oON, ox, st2⟩
               try (have om := own_keep om (fun b e => st2.block b (World.ownsRow.lt om b e).2))
               try (have oW := own_keep oW (fun b e => st2.block b (World.ownsRow.lt oW b e).2); have oO := own_keep oO (fun b e => st2.block b (World.ownsRow.lt oO b e).2))
               try (have kD := kD.below st2 kD.lt)
               try (have kJ := kJ.below st2 kJ.lt)
               try (have kS := kS.below st2 kS.lt)
               have oW := oWN
               have oO := oON
               have bC := bC.trans (st2.mono bC.size)
               refine ⟨_, rfl, hK.out _ _ (hSo _ bC) (fun _ => ?_)⟩
               clear hK st2
               simp only [Act.put, List.setIfInBounds_toArray, List.set_cons_zero, List.set_cons_succ]
               refine wpAnyH_take (i := 5) (oi := ⟨some 114, _, _, _, _, _⟩) (v := .tuple #[.agg #[.int .i64 12, .slice none 0 0, .slice A2 (cc + m) c2, .int .i64 (-1), .bool false, .slice B2 (cc + m) d2], .agg (rjCells { jrL key k st cc tg with next := 1 + cc + m }).toArray, .agg stN.toArray, .int .i64 code]) rfl (by kernel_rfl) (by kernel_rfl) (by kernel_rfl) (fun _ _ _ h => h) (Or.inl ⟨by rfl, by intro W hS; go_simp⟩) (hSo _ bC) ?_
               simp only [Act.put, List.setIfInBounds_toArray, List.set_cons_zero, List.set_cons_succ]
               refine wpAnyH_take (i := 6) (oi := ⟨some 120, _, _, _, _, _⟩) (v := .agg #[.int .i64 12, .slice none 0 0, .slice A2 (cc + m) c2, .int .i64 (-1), .bool false, .slice B2 (cc + m) d2]) rfl (by kernel_rfl) (by kernel_rfl) (by kernel_rfl) (fun _ _ _ h => h) (Or.inl ⟨by rfl, by intro W hS; go_simp⟩) (hSo _ bC) ?_
               simp only [Act.put, List.setIfInBounds_toArray, List.set_cons_zero, List.set_cons_succ]
               refine wpAnyH_take (i := 7) (oi := ⟨some 121, _, _, _, _, _⟩) (v := .agg (rjCells { jrL key k st cc tg with next := 1 + cc + m }).toArray) rfl (by kernel_rfl) (by kernel_rfl) (by kernel_rfl) (fun _ _ _ h => h) (Or.inl ⟨by rfl, by intro W hS; go_simp⟩) (hSo _ bC) ?_
               simp only [Act.put, List.setIfInBounds_toArray, List.set_cons_zero, List.set_cons_succ]
               refine wpAnyH_take (i := 8) (oi := ⟨some 122, _, _, _, _, _⟩) (v := .agg stN.toArray) rfl (by kernel_rfl) (by kernel_rfl) (by kernel_rfl) (fun _ _ _ h => h) (Or.inl ⟨by rfl, by intro W hS; go_simp⟩) (hSo _ bC) ?_
               simp only [Act.put, List.setIfInBounds_toArray, List.set_cons_zero, List.set_cons_succ]
               refine wpAnyH_take (i := 9) (oi := ⟨some 123, _, _, _, _, _⟩) (v := .int .i64 code) rfl (by kernel_rfl) (by kernel_rfl) (by kernel_rfl) (fun _ _ _ h => h) (Or.inl ⟨by rfl, by intro W hS; go_simp⟩) (hSo _ bC) ?_
               simp only [Act.put, List.setIfInBounds_toArray, List.set_cons_zero, List.set_cons_succ])
          all_goals first
            | (refine wpAnyH_ready (rs := [4, 10]) (by decide +kernel) (by simp) ?_; refine AllReadyH.cons (o := ⟨some 119, .call { callee := .value (.func 12), args := #[.tmp 115, .tmp 116, .tmp 118], argTypes := #[33, 44, 52] }, _, _, _, _⟩) rfl (fun K' hK => ?_) (AllReadyH.cons (o := ⟨some 31, .alloc 33, _, _, _, _⟩) rfl (fun K' hK => ?_) (AllReadyH.nil)))
            | (refine wpAnyH_ready (rs := [4, 11]) (by decide +kernel) (by simp) ?_; refine AllReadyH.cons (o := ⟨some 119, .call { callee := .value (.func 12), args := #[.tmp 115, .tmp 116, .tmp 118], argTypes := #[33, 44, 52] }, _, _, _, _⟩) rfl (fun K' hK => ?_) (AllReadyH.cons (o := ⟨some 32, .alloc 44, _, _, _, _⟩) rfl (fun K' hK => ?_) (AllReadyH.nil)))
            | (refine wpAnyH_ready (rs := [4, 12]) (by decide +kernel) (by simp) ?_; refine AllReadyH.cons (o := ⟨some 119, .call { callee := .value (.func 12), args := #[.tmp 115, .tmp 116, .tmp 118], argTypes := #[33, 44, 52] }, _, _, _, _⟩) rfl (fun K' hK => ?_) (AllReadyH.cons (o := ⟨some 33, .alloc 42, _, _, _, _⟩) rfl (fun K' hK => ?_) (AllReadyH.nil)))
            | (refine wpAnyH_ready (rs := [10, 11]) (by decide +kernel) (by simp) ?_; refine AllReadyH.cons (o := ⟨some 31, .alloc 33, _, _, _, _⟩) rfl (fun K' hK => ?_) (AllReadyH.cons (o := ⟨some 32, .alloc 44, _, _, _, _⟩) rfl (fun K' hK => ?_) (AllReadyH.nil)))
            | (refine wpAnyH_ready (rs := [10, 12]) (by decide +kernel) (by simp) ?_; refine AllReadyH.cons (o := ⟨some 31, .alloc 33, _, _, _, _⟩) rfl (fun K' hK => ?_) (AllReadyH.cons (o := ⟨some 33, .alloc 42, _, _, _, _⟩) rfl (fun K' hK => ?_) (AllReadyH.nil)))
            | (refine wpAnyH_ready (rs := [11, 12]) (by decide +kernel) (by simp) ?_; refine AllReadyH.cons (o := ⟨some 32, .alloc 44, _, _, _, _⟩) rfl (fun K' hK => ?_) (AllReadyH.cons (o := ⟨some 33, .alloc 42, _, _, _, _⟩) rfl (fun K' hK => ?_) (AllReadyH.nil)))
            | (refine wpAnyH_ready (rs := [3]) (by decide +kernel) (by simp) ?_; refine AllReadyH.cons (o := ⟨some 118, .call { callee := .value (.func 13), args := #[.tmp 117], argTypes := #[24] }, _, _, _, _⟩) rfl (fun K' hK => ?_) (AllReadyH.nil))
          all_goals first
            | (refine step_alloc_run rfl (run_allocD _ _ rfl _) ?_
               obtain ⟨pD, hpD⟩ : ∃ p, p = uC.heap.size := ⟨_, rfl⟩
               have lD : u0.heap.size ≤ pD := by rw [hpD]; exact bC.size
               obtain ⟨uC, huC, st2, kN⟩ : ∃ u : World, u = uC.alloc (.cells ([.int .i64 0, .slice none 0 0, .slice none 0 0, .int .i64 0, .bool false, .slice none 0 0] : List Value).toArray 33) ∧ Below uC.heap.size uC u ∧ Blk u uC.heap.size 33 (([.int .i64 0, .slice none 0 0, .slice none 0 0, .int .i64 0, .bool false, .slice none 0 0] : List Value).toArray) := ⟨_, rfl, (Below.refl _ _).alloc (Nat.le_refl _) _, Blk.new _ _ _⟩
               rw [← hpD] at kN
               try (have om := own_keep om (fun b e => st2.block b (World.ownsRow.lt om b e).2))
               try (have oW := own_keep oW (fun b e => st2.block b (World.ownsRow.lt oW b e).2); have oO := own_keep oO (fun b e => st2.block b (World.ownsRow.lt oO b e).2))
               try (have kD := kD.below st2 kD.lt)
               try (have kJ := kJ.below st2 kJ.lt)
               try (have kS := kS.below st2 kS.lt)
               have kD := kN
               have bC := bC.trans (st2.mono bC.size)
               refine hK.out _ _ (by rw [← huC]; exact hSo _ bC) (fun _ => ?_)
               clear hK st2
               simp only [Act.put, List.setIfInBounds_toArray, List.set_cons_zero, List.set_cons_succ]
               rw [← huC, ← hpD]
               clear huC hpD)
            | (refine step_alloc_run rfl (run_allocJ _ _ rfl _) ?_
               obtain ⟨pJ, hpJ⟩ : ∃ p, p = uC.heap.size := ⟨_, rfl⟩
               have lJ : u0.heap.size ≤ pJ := by rw [hpJ]; exact bC.size
               obtain ⟨uC, huC, st2, kN⟩ : ∃ u : World, u = uC.alloc (.cells Tryz.zeroCells44 44) ∧ Below uC.heap.size uC u ∧ Blk u uC.heap.size 44 (Tryz.zeroCells44) := ⟨_, rfl, (Below.refl _ _).alloc (Nat.le_refl _) _, Blk.new _ _ _⟩
               rw [← hpJ] at kN
               try (have om := own_keep om (fun b e => st2.block b (World.ownsRow.lt om b e).2))
               try (have oW := own_keep oW (fun b e => st2.block b (World.ownsRow.lt oW b e).2); have oO := own_keep oO (fun b e => st2.block b (World.ownsRow.lt oO b e).2))
               try (have kD := kD.below st2 kD.lt)
               try (have kJ := kJ.below st2 kJ.lt)
               try (have kS := kS.below st2 kS.lt)
               have kJ := kN
               have bC := bC.trans (st2.mono bC.size)
               refine hK.out _ _ (by rw [← huC]; exact hSo _ bC) (fun _ => ?_)
               clear hK st2
               simp only [Act.put, List.setIfInBounds_toArray, List.set_cons_zero, List.set_cons_succ]
               rw [← huC, ← hpJ]
               clear huC hpJ)
            | (refine step_alloc_run rfl (run_allocS _ _ rfl _) ?_
               obtain ⟨pS, hpS⟩ : ∃ p, p = uC.heap.size := ⟨_, rfl⟩
               have lS : u0.heap.size ≤ pS := by rw [hpS]; exact bC.size
               obtain ⟨uC, huC, st2, kN⟩ : ∃ u : World, u = uC.alloc (.cells st0.toArray 42) ∧ Below uC.heap.size uC u ∧ Blk u uC.heap.size 42 (st0.toArray) := ⟨_, rfl, (Below.refl _ _).alloc (Nat.le_refl _) _, Blk.new _ _ _⟩
               rw [← hpS] at kN
               try (have om := own_keep om (fun b e => st2.block b (World.ownsRow.lt om b e).2))
               try (have oW := own_keep oW (fun b e => st2.block b (World.ownsRow.lt oW b e).2); have oO := own_keep oO (fun b e => st2.block b (World.ownsRow.lt oO b e).2))
               try (have kD := kD.below st2 kD.lt)
               try (have kJ := kJ.below st2 kJ.lt)
               try (have kS := kS.below st2 kS.lt)
               have kS := kN
               have bC := bC.trans (st2.mono bC.size)
               refine hK.out _ _ (by rw [← huC]; exact hSo _ bC) (fun _ => ?_)
               clear hK st2
               simp only [Act.put, List.setIfInBounds_toArray, List.set_cons_zero, List.set_cons_succ]
               rw [← huC, ← hpS]
               clear huC hpS)
            | (refine step_call_w (by rfl) 13 [_] _ rfl [.slice A7 l.length c7] rfl emod _ (hmo _ (hu0b.trans (bC.mono hz0))) ?_
               rintro e uC ⟨Am, cm, rfl, omN, st2⟩
               try (have om := own_keep om (fun b e => st2.block b (World.ownsRow.lt om b e).2))
               try (have oW := own_keep oW (fun b e => st2.block b (World.ownsRow.lt oW b e).2); have oO := own_keep oO (fun b e => st2.block b (World.ownsRow.lt oO b e).2))
               try (have kD := kD.below st2 kD.lt)
               try (have kJ := kJ.below st2 kJ.lt)
               try (have kS := kS.below st2 kS.lt)
               have om := omN
               have bC := bC.trans (st2.mono bC.size)
               refine ⟨_, rfl, hK.out _ _ (hSo _ bC) (fun _ => ?_)⟩
               clear hK st2
               simp only [Act.put, List.setIfInBounds_toArray, List.set_cons_zero, List.set_cons_succ])
            | (refine step_call_w (by rfl) 12 [_, _, _] _ rfl [.agg #[.int .i64 12, .slice none 0 0, .slice Aw cc cw, .int .i64 (-1), .bool false, .slice Ao cc co], .agg (rjCells (jrL key k st cc tg)).toArray, .slice Am l.length cm] rfl eapp _ (happ _ _ _ bC (ownsRow_lower om (Nat.zero_le _))) ?_
               rintro e uC ⟨A2, c2, B2, d2, x2, rfl, oWN, oON, ox, st2⟩
               try (have om := own_keep om (fun b e => st2.block b (World.ownsRow.lt om b e).2))
               try (have oW := own_keep oW (fun b e => st2.block b (World.ownsRow.lt oW b e).2); have oO := own_keep oO (fun b e => st2.block b (World.ownsRow.lt oO b e).2))
               try (have kD := kD.below st2 kD.lt)
               try (have kJ := kJ.below st2 kJ.lt)
               try (have kS := kS.below st2 kS.lt)
               have oW := oWN
               have oO := oON
               have bC := bC.trans (st2.mono bC.size)
               refine ⟨_, rfl, hK.out _ _ (hSo _ bC) (fun _ => ?_)⟩
               clear hK st2
               simp only [Act.put, List.setIfInBounds_toArray, List.set_cons_zero, List.set_cons_succ]
               refine wpAnyH_take (i := 5) (oi := ⟨some 114, _, _, _, _, _⟩) (v := .tuple #[.agg #[.int .i64 12, .slice none 0 0, .slice A2 (cc + m) c2, .int .i64 (-1), .bool false, .slice B2 (cc + m) d2], .agg (rjCells { jrL key k st cc tg with next := 1 + cc + m }).toArray, .agg stN.toArray, .int .i64 code]) rfl (by kernel_rfl) (by kernel_rfl) (by kernel_rfl) (fun _ _ _ h => h) (Or.inl ⟨by rfl, by intro W hS; go_simp⟩) (hSo _ bC) ?_
               simp only [Act.put, List.setIfInBounds_toArray, List.set_cons_zero, List.set_cons_succ]
               refine wpAnyH_take (i := 6) (oi := ⟨some 120, _, _, _, _, _⟩) (v := .agg #[.int .i64 12, .slice none 0 0, .slice A2 (cc + m) c2, .int .i64 (-1), .bool false, .slice B2 (cc + m) d2]) rfl (by kernel_rfl) (by kernel_rfl) (by kernel_rfl) (fun _ _ _ h => h) (Or.inl ⟨by rfl, by intro W hS; go_simp⟩) (hSo _ bC) ?_
               simp only [Act.put, List.setIfInBounds_toArray, List.set_cons_zero, List.set_cons_succ]
               refine wpAnyH_take (i := 7) (oi := ⟨some 121, _, _, _, _, _⟩) (v := .agg (rjCells { jrL key k st cc tg with next := 1 + cc + m }).toArray) rfl (by kernel_rfl) (by kernel_rfl) (by kernel_rfl) (fun _ _ _ h => h) (Or.inl ⟨by rfl, by intro W hS; go_simp⟩) (hSo _ bC) ?_
               simp only [Act.put, List.setIfInBounds_toArray, List.set_cons_zero, List.set_cons_succ]
               refine wpAnyH_take (i := 8) (oi := ⟨some 122, _, _, _, _, _⟩) (v := .agg stN.toArray) rfl (by kernel_rfl) (by kernel_rfl) (by kernel_rfl) (fun _ _ _ h => h) (Or.inl ⟨by rfl, by intro W hS; go_simp⟩) (hSo _ bC) ?_
               simp only [Act.put, List.setIfInBounds_toArray, List.set_cons_zero, List.set_cons_succ]
               refine wpAnyH_take (i := 9) (oi := ⟨some 123, _, _, _, _, _⟩) (v := .int .i64 code) rfl (by kernel_rfl) (by kernel_rfl) (by kernel_rfl) (fun _ _ _ h => h) (Or.inl ⟨by rfl, by intro W hS; go_simp⟩) (hSo _ bC) ?_
               simp only [Act.put, List.setIfInBounds_toArray, List.set_cons_zero, List.set_cons_succ])
          all_goals first
            | (refine wpAnyH_ready (rs := [4]) (by decide +kernel) (by simp) ?_; refine AllReadyH.cons (o := ⟨some 119, .call { callee := .value (.func 12), args := #[.tmp 115, .tmp 116, .tmp 118], argTypes := #[33, 44, 52] }, _, _, _, _⟩) rfl (fun K' hK => ?_) (AllReadyH.nil))
            | (refine wpAnyH_ready (rs := [10]) (by decide +kernel) (by simp) ?_; refine AllReadyH.cons (o := ⟨some 31, .alloc 33, _, _, _, _⟩) rfl (fun K' hK => ?_) (AllReadyH.nil))
            | (refine wpAnyH_ready (rs := [11]) (by decide +kernel) (by simp) ?_; refine AllReadyH.cons (o := ⟨some 32, .alloc 44, _, _, _, _⟩) rfl (fun K' hK => ?_) (AllReadyH.nil))
            | (refine wpAnyH_ready (rs := [12]) (by decide +kernel) (by simp) ?_; refine AllReadyH.cons (o := ⟨some 33, .alloc 42, _, _, _, _⟩) rfl (fun K' hK => ?_) (AllReadyH.nil))
          all_goals first
            | (refine step_alloc_run rfl (run_allocD _ _ rfl _) ?_
               obtain ⟨pD, hpD⟩ : ∃ p, p = uC.heap.size := ⟨_, rfl⟩
               have lD : u0.heap.size ≤ pD := by rw [hpD]; exact bC.size
               obtain ⟨uC, huC, st2, kN⟩ : ∃ u : World, u = uC.alloc (.cells ([.int .i64 0, .slice none 0 0, .slice none 0 0, .int .i64 0, .bool false, .slice none 0 0] : List Value).toArray 33) ∧ Below uC.heap.size uC u ∧ Blk u uC.heap.size 33 (([.int .i64 0, .slice none 0 0, .slice none 0 0, .int .i64 0, .bool false, .slice none 0 0] : List Value).toArray) := ⟨_, rfl, (Below.refl _ _).alloc (Nat.le_refl _) _, Blk.new _ _ _⟩
               rw [← hpD] at kN
               try (have om := own_keep om (fun b e => st2.block b (World.ownsRow.lt om b e).2))
               try (have oW := own_keep oW (fun b e => st2.block b (World.ownsRow.lt oW b e).2); have oO := own_keep oO (fun b e => st2.block b (World.ownsRow.lt oO b e).2))
               try (have kD := kD.below st2 kD.lt)
               try (have kJ := kJ.below st2 kJ.lt)
               try (have kS := kS.below st2 kS.lt)
               have kD := kN
               have bC := bC.trans (st2.mono bC.size)
               refine hK.out _ _ (by rw [← huC]; exact hSo _ bC) (fun _ => ?_)
               clear hK st2
               simp only [Act.put, List.setIfInBounds_toArray, List.set_cons_zero, List.set_cons_succ]
               rw [← huC, ← hpD]
               clear huC hpD)
            | (refine step_alloc_run rfl (run_allocJ _ _ rfl _) ?_
               obtain ⟨pJ, hpJ⟩ : ∃ p, p = uC.heap.size := ⟨_, rfl⟩
               have lJ : u0.heap.size ≤ pJ := by rw [hpJ]; exact bC.size
               obtain ⟨uC, huC, st2, kN⟩ : ∃ u : World, u = uC.alloc (.cells Tryz.zeroCells44 44) ∧ Below uC.heap.size uC u ∧ Blk u uC.heap.size 44 (Tryz.zeroCells44) := ⟨_, rfl, (Below.refl _ _).alloc (Nat.le_refl _) _, Blk.new _ _ _⟩
               rw [← hpJ] at kN
               try (have om := own_keep om (fun b e => st2.block b (World.ownsRow.lt om b e).2))
               try (have oW := own_keep oW (fun b e => st2.block b (World.ownsRow.lt oW b e).2); have oO := own_keep oO (fun b e => st2.block b (World.ownsRow.lt oO b e).2))
               try (have kD := kD.below st2 kD.lt)
               try (have kJ := kJ.below st2 kJ.lt)
               try (have kS := kS.below st2 kS.lt)
               have kJ := kN
               have bC := bC.trans (st2.mono bC.size)
               refine hK.out _ _ (by rw [← huC]; exact hSo _ bC) (fun _ => ?_)
               clear hK st2
               simp only [Act.put, List.setIfInBounds_toArray, List.set_cons_zero, List.set_cons_succ]
               rw [← huC, ← hpJ]
               clear huC hpJ)
            | (refine step_alloc_run rfl (run_allocS _ _ rfl _) ?_
               obtain ⟨pS, hpS⟩ : ∃ p, p = uC.heap.size := ⟨_, rfl⟩
               have lS : u0.heap.size ≤ pS := by rw [hpS]; exact bC.size
               obtain ⟨uC, huC, st2, kN⟩ : ∃ u : World, u = uC.alloc (.cells st0.toArray 42) ∧ Below uC.heap.size uC u ∧ Blk u uC.heap.size 42 (st0.toArray) := ⟨_, rfl, (Below.refl _ _).alloc (Nat.le_refl _) _, Blk.new _ _ _⟩
               rw [← hpS] at kN
               try (have om := own_keep om (fun b e => st2.block b (World.ownsRow.lt om b e).2))
               try (have oW := own_keep oW (fun b e => st2.block b (World.ownsRow.lt oW b e).2); have oO := own_keep oO (fun b e => st2.block b (World.ownsRow.lt oO b e).2))
               try (have kD := kD.below st2 kD.lt)
               try (have kJ := kJ.below st2 kJ.lt)
               try (have kS := kS.below st2 kS.lt)
               have kS := kN
               have bC := bC.trans (st2.mono bC.size)
               refine hK.out _ _ (by rw [← huC]; exact hSo _ bC) (fun _ => ?_)
               clear hK st2
               simp only [Act.put, List.setIfInBounds_toArray, List.set_cons_zero, List.set_cons_succ]
               rw [← huC, ← hpS]
               clear huC hpS)
            | (refine step_call_w (by rfl) 12 [_, _, _] _ rfl [.agg #[.int .i64 12, .slice none 0 0, .slice Aw cc cw, .int .i64 (-1), .bool false, .slice Ao cc co], .agg (rjCells (jrL key k st cc tg)).toArray, .slice Am l.length cm] rfl eapp _ (happ _ _ _ bC (ownsRow_lower om (Nat.zero_le _))) ?_
               rintro e uC ⟨A2, c2, B2, d2, x2, rfl, oWN, oON, ox, st2⟩
               try (have om := own_keep om (fun b e => st2.block b (World.ownsRow.lt om b e).2))
               try (have oW := own_keep oW (fun b e => st2.block b (World.ownsRow.lt oW b e).2); have oO := own_keep oO (fun b e => st2.block b (World.ownsRow.lt oO b e).2))
               try (have kD := kD.below st2 kD.lt)
               try (have kJ := kJ.below st2 kJ.lt)
               try (have kS := kS.below st2 kS.lt)
               have oW := oWN
               have oO := oON
               have bC := bC.trans (st2.mono bC.size)
               refine ⟨_, rfl, hK.out _ _ (hSo _ bC) (fun _ => ?_)⟩
               clear hK st2
               simp only [Act.put, List.setIfInBounds_toArray, List.set_cons_zero, List.set_cons_succ]
               refine wpAnyH_take (i := 5) (oi := ⟨some 114, _, _, _, _, _⟩) (v := .tuple #[.agg #[.int .i64 12, .slice none 0 0, .slice A2 (cc + m) c2, .int .i64 (-1), .bool false, .slice B2 (cc + m) d2], .agg (rjCells { jrL key k st cc tg with next := 1 + cc + m }).toArray, .agg stN.toArray, .int .i64 code]) rfl (by kernel_rfl) (by kernel_rfl) (by kernel_rfl) (fun _ _ _ h => h) (Or.inl ⟨by rfl, by intro W hS; go_simp⟩) (hSo _ bC) ?_
               simp only [Act.put, List.setIfInBounds_toArray, List.set_cons_zero, List.set_cons_succ]
               refine wpAnyH_take (i := 6) (oi := ⟨some 120, _, _, _, _, _⟩) (v := .agg #[.int .i64 12, .slice none 0 0, .slice A2 (cc + m) c2, .int .i64 (-1), .bool false, .slice B2 (cc + m) d2]) rfl (by kernel_rfl) (by kernel_rfl) (by kernel_rfl) (fun _ _ _ h => h) (Or.inl ⟨by rfl, by intro W hS; go_simp⟩) (hSo _ bC) ?_
               simp only [Act.put, List.setIfInBounds_toArray, List.set_cons_zero, List.set_cons_succ]
               refine wpAnyH_take (i := 7) (oi := ⟨some 121, _, _, _, _, _⟩) (v := .agg (rjCells { jrL key k st cc tg with next := 1 + cc + m }).toArray) rfl (by kernel_rfl) (by kernel_rfl) (by kernel_rfl) (fun _ _ _ h => h) (Or.inl ⟨by rfl, by intro W hS; go_simp⟩) (hSo _ bC) ?_
               simp only [Act.put, List.setIfInBounds_toArray, List.set_cons_zero, List.set_cons_succ]
               refine wpAnyH_take (i := 8) (oi := ⟨some 122, _, _, _, _, _⟩) (v := .agg stN.toArray) rfl (by kernel_rfl) (by kernel_rfl) (by kernel_rfl) (fun _ _ _ h => h) (Or.inl ⟨by rfl, by intro W hS; go_simp⟩) (hSo _ bC) ?_
               simp only [Act.put, List.setIfInBounds_toArray, List.set_cons_zero, List.set_cons_succ]
               refine wpAnyH_take (i := 9) (oi := ⟨some 123, _, _, _, _, _⟩) (v := .int .i64 code) rfl (by kernel_rfl) (by kernel_rfl) (by kernel_rfl) (fun _ _ _ h => h) (Or.inl ⟨by rfl, by intro W hS; go_simp⟩) (hSo _ bC) ?_
               simp only [Act.put, List.setIfInBounds_toArray, List.set_cons_zero, List.set_cons_succ])
          all_goals
            refine wpAnyH_listed (l' := #[true, true, true, true, true, true, true, true, true, true, true, true, true, false, false, false, false]) (by kernel_rfl) ?_
            have n1 : pD ≠ pJ := by intro h; subst h; exact absurd (kD.kind.uniq kJ.kind) (by decide)
            have n2 : pD ≠ pS := by intro h; subst h; exact absurd (kD.kind.uniq kS.kind) (by decide)
            have n3 : pJ ≠ pS := by intro h; subst h; exact absurd (kJ.kind.uniq kS.kind) (by decide)
            exact hcont Am cm A2 c2 B2 d2 pD pJ pS uC ⟨x2, bC, oW, oO, ox, kD, kJ, kS, lD, lJ, lS, n1, n2, n3⟩
        intro Am cm A2 c2 B2 d2 pD pJ pS uT ⟨x2, bT, oW, oO, ox, kD, kJ, kS, lD, lJ, lS, n1, n2, n3⟩
        have hjz : (Tryz.zeroCells44).toList.length = (rjCells { jrL key k st cc tg with next := 1 + cc + m }).length := by rw [hjnl]; kernel_rfl
        have do1 : ∀ v ∈ ([.int .i64 12, .slice none 0 0, .slice A2 (cc + m) c2, .int .i64 (-1), .bool false, .slice B2 (cc + m) d2] : List Value), v.oneCell' = true := by
          intro v hv
          simp only [List.mem_cons, List.not_mem_nil, or_false] at hv
          rcases hv with rfl | rfl | rfl | rfl | rfl | rfl <;> rfl
        have g1 : uT.grownBy (uT.setCells pD 0 ([.int .i64 12, .slice none 0 0, .slice A2 (cc + m) c2, .int .i64 (-1), .bool false, .slice B2 (cc + m) d2] : List Value)) (some pD) := grownBy_setCells _ _ _ (World.grownBy.refl _ _)
        have p1 : Blk (uT.setCells pD 0 ([.int .i64 12, .slice none 0 0, .slice A2 (cc + m) c2, .int .i64 (-1), .bool false, .slice B2 (cc + m) d2] : List Value)) pD 33 ([.int .i64 12, .slice none 0 0, .slice A2 (cc + m) c2, .int .i64 (-1), .bool false, .slice B2 (cc + m) d2] : List Value).toArray := by
          have h := Blk.put (t := 33) ([.int .i64 12, .slice none 0 0, .slice A2 (cc + m) c2, .int .i64 (-1), .bool false, .slice B2 (cc + m) d2] : List Value) [] ([.int .i64 0, .slice none 0 0, .slice none 0 0, .int .i64 0, .bool false, .slice none 0 0] : List Value) [] uT rfl (by simpa using kD)
          simpa using h
        obtain ⟨v1, hv1⟩ : ∃ v : World, v = uT.setCells pD 0 ([.int .i64 12, .slice none 0 0, .slice A2 (cc + m) c2, .int .i64 (-1), .bool false, .slice B2 (cc + m) d2] : List Value) := ⟨_, rfl⟩
        rw [← hv1] at g1 p1
        have e1' : ∀ j : Nat, j < uT.heap.size → j ≠ pD → v1.heap[j]? = uT.heap[j]? := fun j hj hne => g1.block j hj (fun e => by injection e with e; omega)
        have kJ1 : Blk v1 pJ 44 Tryz.zeroCells44 := (e1' _ kJ.lt n1.symm).trans kJ
        have kS1 : Blk v1 pS 42 st0.toArray := (e1' _ kS.lt n2.symm).trans kS
        have g2 : v1.grownBy (v1.setCells pJ 0 (rjCells { jrL key k st cc tg with next := 1 + cc + m })) (some pJ) := grownBy_setCells _ _ _ (World.grownBy.refl _ _)
        have p2 : Blk (v1.setCells pJ 0 (rjCells { jrL key k st cc tg with next := 1 + cc + m })) pJ 44 (rjCells { jrL key k st cc tg with next := 1 + cc + m }).toArray := by
          have h := Blk.put (t := 44) (rjCells { jrL key k st cc tg with next := 1 + cc + m }) [] (Tryz.zeroCells44).toList [] v1 hjz (by rw [List.append_nil]; show Blk v1 pJ 44 (Tryz.zeroCells44).toList.toArray; rw [Array.toArray_toList]; exact kJ1)
          rw [List.append_nil] at h
          exact h
        obtain ⟨v2, hv2⟩ : ∃ v : World, v = v1.setCells pJ 0 (rjCells { jrL key k st cc tg with next := 1 + cc + m }) := ⟨_, rfl⟩
        rw [← hv2] at g2 p2
        have e2' : ∀ j : Nat, j < v1.heap.size → j ≠ pJ → v2.heap[j]? = v1.heap[j]? := fun j hj hne => g2.block j hj (fun e => by injection e with e; omega)
        have p12 : Blk v2 pD 33 ([.int .i64 12, .slice none 0 0, .slice A2 (cc + m) c2, .int .i64 (-1), .bool false, .slice B2 (cc + m) d2] : List Value).toArray := (e2' _ p1.lt n1).trans p1
        have kS2 : Blk v2 pS 42 st0.toArray := (e2' _ kS1.lt n3.symm).trans kS1
        have g3 : v2.grownBy (v2.setCells pS 0 stN) (some pS) := grownBy_setCells _ _ _ (World.grownBy.refl _ _)
        have p3 : Blk (v2.setCells pS 0 stN) pS 42 stN.toArray := by
          have h := Blk.put (t := 42) stN [] st0 [] v2 (by rw [HSL.out]; rfl) (by rw [List.append_nil]; exact kS2)
          rw [List.append_nil] at h
          exact h
        obtain ⟨v3, hv3⟩ : ∃ v : World, v = v2.setCells pS 0 stN := ⟨_, rfl⟩
        rw [← hv3] at g3 p3
        have e3' : ∀ j : Nat, j < v2.heap.size → j ≠ pS → v3.heap[j]? = v2.heap[j]? := fun j hj hne => g3.block j hj (fun e => by injection e with e; omega)
        have p13 : Blk v3 pD 33 ([.int .i64 12, .slice none 0 0, .slice A2 (cc + m) c2, .int .i64 (-1), .bool false, .slice B2 (cc + m) d2] : List Value).toArray := (e3' _ p12.lt n2).trans p12
        have p23 : Blk v3 pJ 44 (rjCells { jrL key k st cc tg with next := 1 + cc + m }).toArray := (e3' _ p2.lt n3).trans p2
        have b1T := bT.grown g1 bT.size (fun k e => by injection e with e; omega)
        have b2T := b1T.grown g2 b1T.size (fun k e => by injection e with e; omega)
        have b3T := b2T.grown g3 b2T.size (fun k e => by injection e with e; omega)
        have th1 : uT.there pD 0 ([.int .i64 12, .slice none 0 0, .slice A2 (cc + m) c2, .int .i64 (-1), .bool false, .slice B2 (cc + m) d2] : List Value).length := kD.there (by exact Nat.le_refl _)
        have th2 : v1.there pJ 0 (rjCells { jrL key k st cc tg with next := 1 + cc + m }).length := kJ1.there (by rw [← hjz, Array.length_toList]; exact Nat.le_refl _)
        have th3 : v2.there pS 0 stN.length := kS2.there (by rw [HSL.out]; exact Nat.le_refl _)
        have dW : ∀ b, (Value.slice A2 (cc + m) c2).ownBlock = some b → b ≠ pD ∧ b ≠ pJ ∧ b ≠ pS := fun b e => ⟨fun h => by subst h; exact absurd ((own_kind oW e).uniq kD.kind) (by decide), fun h => by subst h; exact absurd ((own_kind oW e).uniq kJ.kind) (by decide), fun h => by subst h; exact absurd ((own_kind oW e).uniq kS.kind) (by decide)⟩
        have dO : ∀ b, (Value.slice B2 (cc + m) d2).ownBlock = some b → b ≠ pD ∧ b ≠ pJ ∧ b ≠ pS := fun b e => ⟨fun h => by subst h; exact absurd ((own_kind oO e).uniq kD.kind) (by decide), fun h => by subst h; exact absurd ((own_kind oO e).uniq kJ.kind) (by decide), fun h => by subst h; exact absurd ((own_kind oO e).uniq kS.kind) (by decide)⟩
        have eT3 : ∀ j, j < uT.heap.size → j ≠ pD → j ≠ pJ → j ≠ pS → v3.heap[j]? = uT.heap[j]? := fun j hj h1 h2 h3 => (e3' j (by have := g1.size; have := g2.size; omega) h3).trans ((e2' j (by have := g1.size; omega) h2).trans (e1' j hj h1))
        have oW3 := own_keep (w' := v3) oW (fun b e => eT3 b (World.ownsRow.lt oW b e).2 (dW b e).1 (dW b e).2.1 (dW b e).2.2)
        have oO3 := own_keep (w' := v3) oO (fun b e => eT3 b (World.ownsRow.lt oO b e).2 (dO b e).1 (dO b e).2.1 (dO b e).2.2)
        have b93 : Below w9.heap.size w9 v3 := hu0b.trans (b3T.mono hz0)
        have hsJ := hjno
        have iN : (Tryz.prog.info? 44).map (·.size) = some (rjCells { jrL key k st cc tg with next := 1 + cc + m }).toArray.size := by rw [List.size_toArray, hjnl]; kernel_rfl
        have IN := Lib.hid iN
        have HNO := Lib.hid hjno
        have HJZ := Lib.hid hjz
        have HJL := Lib.hid hjcl
        have HJN := Lib.hid hjnl
        clear g1 g2 g3 e1' e2' e3' eT3 p1 p12 p2 kD kJ kS kJ1 kS1 kS2 oW oO dW dO iN hjno hsJ hjz hjcl hjnl
        refine wpAnyH_ready (rs := [13]) (by kernel_rfl) (by simp) ?_
        refine AllReadyH.cons (o := ⟨none, .store 33 (.tmp 31) (.tmp 120), _, _, _, _⟩) rfl (fun K' hK => ?_) AllReadyH.nil
        rw [if_pos (by rfl)]
        refine wp_store_mid _ _ _ rfl _ _ (List.toArray _) rfl rfl ?_ ?_ (all_oneCell_toArray do1) ?_
        · simpa using th1
        · rw [List.size_toArray]; exact iD
        simp only [Act.put]
        refine hK.out _ _ (by rw [← hv1]; exact hSo _ b1T) (fun _ => ?_)
        clear hK
        rw [← hv1]
        refine wpAnyH_ready (rs := [14]) (by kernel_rfl) (by simp) ?_
        refine AllReadyH.cons (o := ⟨none, .store 44 (.tmp 32) (.tmp 121), _, _, _, _⟩) rfl (fun K' hK => ?_) AllReadyH.nil
        rw [if_pos (by rfl)]
        refine wp_store_mid _ _ _ rfl _ _ (List.toArray _) rfl rfl ?_ ?_ HNO.out ?_
        · simpa using th2
        · exact IN.out
        simp only [Act.put]
        refine hK.out _ _ (by rw [← hv2]; exact hSo _ b2T) (fun _ => ?_)
        clear hK
        rw [← hv2]
        refine wpAnyH_ready (rs := [15]) (by kernel_rfl) (by simp) ?_
        refine AllReadyH.cons (o := ⟨none, .store 42 (.tmp 33) (.tmp 122), _, _, _, _⟩) rfl (fun K' hK => ?_) AllReadyH.nil
        rw [if_pos (by rfl)]
        refine wp_store_mid _ _ _ rfl _ _ (List.toArray _) rfl rfl ?_ ?_ HSO.out ?_
        · simpa using th3
        · rw [List.size_toArray, HSL.out]; kernel_rfl
        simp only [Act.put]
        refine hK.out _ _ (by rw [← hv3]; exact hSo _ b3T) (fun _ => ?_)
        clear hK
        rw [← hv3]
        refine wpAnyH_take (i := 16) (oi := ⟨some 34, _, _, _, _, _⟩) (v := .int .i64 code) rfl (by kernel_rfl) (by kernel_rfl) (by kernel_rfl) (fun _ _ _ h => h) (Or.inl ⟨by rfl, by intro W hS; go_simp⟩) (hSo _ b3T) ?_
        simp only [Act.put, List.setIfInBounds_toArray, List.set_cons_zero, List.set_cons_succ]
        refine wpAnyH_done (by kernel_rfl) ?_ _
        have kM3 := kM9.below b93 kM9.lt
        have kr3 := kr9.below b93 kr9.lt
        have kk3 := kk9.below b93 kk9.lt
        have ks3 := ks9.below b93 ks9.lt
        have kp3 := k9'.below b93 hpst
        have J3 := J9.under b93
        have D3 := D9.under b93
        have y3 := y9.trans (b93.mono y9.size)
        have nMr : gm ≠ gr := fun e => by subst e; exact absurd (kM3.kind.uniq kr3.kind) (by decide)
        have nMj : gm ≠ gj := fun e => by subst e; exact absurd (kM3.kind.uniq J3.blk.kind) (by decide)
        have nrj : gr ≠ gj := fun e => by subst e; exact absurd (kr3.kind.uniq J3.blk.kind) (by decide)
        have nDM : pD ≠ gm := by have := kM9.lt; omega
        have nJM : pJ ≠ gm := by have := kM9.lt; omega
        have nSM : pS ≠ gm := by have := kM9.lt; omega
        have nSr : pS ≠ gr := by have := kr9.lt; omega
        have nSj : pS ≠ gj := by omega
        have nM0 : gm ≠ w.heap.size := fun e => by subst e; exact absurd (kM3.kind.uniq kk3.kind) (by decide)
        have nM1 : gm ≠ w.heap.size + 1 := fun e => by subst e; exact absurd (kM3.kind.uniq ks3.kind) (by decide)
        have nr0 : gr ≠ w.heap.size := fun e => by subst e; exact absurd (kr3.kind.uniq kk3.kind) (by decide)
        have nr1 : gr ≠ w.heap.size + 1 := fun e => by subst e; exact absurd (kr3.kind.uniq ks3.kind) (by decide)
        have nMp : gm ≠ pst := fun e => by subst e; exact absurd (kM3.kind.uniq kp3.kind) (by decide)
        have nrp : gr ≠ pst := fun e => by subst e; exact absurd (kr3.kind.uniq kp3.kind) (by decide)
        have NN := Lib.hid (And.intro nMr (And.intro nMj (And.intro nrj (And.intro nDM (And.intro nJM (And.intro nSM (And.intro nSr (And.intro nSj (And.intro nM0 (And.intro nM1 (And.intro nr0 (And.intro nr1 (And.intro nMp nrp)))))))))))))
        have hgm : w.heap.size ≤ gm := by omega
        have hgr : w.heap.size ≤ gr := by omega
        clear kM9 kr9 kk9 ks9 k9' J9 D9 y9 b93 hSo th1 th2 th3 hv1 hv2 hv3 b1T b2T b3T bT hu0b hu0 hz0 bu0 iD uD uJ emod eapp happ hmo ho9 hR9 ow9 oo9 do1 n1 n2 n3 nMr nMj nrj nDM nJM nSM nSr nSj nM0 nM1 nr0 nr1 nMp nrp lD lJ lS hpst IJ
        have hcc : (code != code) = false := by simp
        have hzs : (rjCells (jrL key k st cc tg)).toArray.size = (rjCells { jrL key k st cc tg with next := 1 + cc + m }).toArray.size := by rw [List.size_toArray, List.size_toArray, HJL.out, HJN.out]
        have HZS := Lib.hid hzs
        clear hzs
        rcases HCASE.out with ⟨hc0, htg2, hstN⟩ | ⟨hc0, hm0⟩
        · subst hc0
          have hjad : ∀ W, JAt W gj gd { jrL key k st cc tg with next := 1 + cc + m } → Calls Tryz.prog 21 #[.pointer (some ⟨gj, 0, none⟩), .agg stN.toArray, .int .u64 1099511627776] W fun e w' => e = .returned (.tuple #[]) ∧ JAt w' gj gd (jrL key k st (cc + m) tg2) ∧ W.grownBy w' (some gj) := fun W h => by
            have h2 := jadopt_any gj gd st (cc + m) 1099511627776 tg2 _ W h htg2 hstk hcm (by omega)
            rw [hstN]
            have e : ({ ({ jrL key k st cc tg with next := 1 + cc + m } : Jr) with start := st, count := cc + m, tag := tg2, limit := 1099511627776 } : Jr) = jrL key k st (cc + m) tg2 := by unfold jrL; rw [Nat.add_assoc]
            rw [e] at h2
            exact h2
          have hrad : ∀ W, Calls Tryz.prog 22 #[.agg (rjCells { jrL key k st cc tg with next := 1 + cc + m }).toArray, .agg stN.toArray, .int .u64 1099511627776] W fun e w' => e = .returned (.agg (rjCells (jrL key k st (cc + m) tg2)).toArray) ∧ Below W.heap.size W w' := fun W => by
            have h2 := radopt_any { jrL key k st cc tg with next := 1 + cc + m } st (cc + m) 1099511627776 tg2 W hk htg htg2 hstk hcm (by omega)
            rw [hstN]
            have e : ({ ({ jrL key k st cc tg with next := 1 + cc + m } : Jr) with start := st, count := cc + m, tag := tg2, limit := 1099511627776 } : Jr) = jrL key k st (cc + m) tg2 := by unfold jrL; rw [Nat.add_assoc]
            rw [e] at h2
            exact h2
          have hjal := rjCells_length (jrL key k st (cc + m) tg2) hk htg2
          have hjao := rjCells_one (jrL key k st (cc + m) tg2)
          have HAZ : Hid ((rjCells { jrL key k st cc tg with next := 1 + cc + m }).toArray.size = (rjCells (jrL key k st (cc + m) tg2)).toArray.size) := Lib.hid (by rw [List.size_toArray, List.size_toArray, hjal, HJN.out])
          have HAI : Hid ((Tryz.prog.info? 44).map (·.size) = some (rjCells (jrL key k st (cc + m) tg2)).toArray.size) := Lib.hid (by rw [List.size_toArray, hjal]; kernel_rfl)
          have HAO := Lib.hid hjao
          have HSP : Hid ((Tryz.prog.info? 41).map (·.size) = some stN.toArray.size) := Lib.hid (by rw [List.size_toArray, HSL.out]; kernel_rfl)
          have HSR : Hid ((Tryz.prog.info? 42).map (·.size) = some stN.toArray.size) := Lib.hid (by rw [List.size_toArray, HSL.out]; kernel_rfl)
          have HTG2 := Lib.hid htg2
          clear hjal hjao hstN htg2
          go_wp2_with (first | ((with_reducible refine wpList_load_blk (o := ⟨some 127, _, _, _, _, _⟩) rfl 33 _ rfl pD rfl 33 _ _ p13 Tryz.underlying33 rfl (by kernel_rfl) ?_)) | ((with_reducible refine wpList_store_blk (o := ⟨none, .store 33 (.tmp 21) (.tmp 127), _, _, _, _⟩) rfl 33 (.tmp 21) (.tmp 127) rfl gm #[.int .i64 12, .slice none 0 0, .slice A2 (cc + m) c2, .int .i64 (-1), .bool false, .slice B2 (cc + m) d2] rfl rfl 33 _ kM3 (by kernel_rfl) (by simp) (by simp [Value.oneCell']) ?_); intro w10 k10 g10 s10; have kr10 := kr3.grown g10 (by intro e; injection e with e; exact NN.out.1 e.symm); have p10 := p23.grown g10 (by intro e; injection e with e; exact NN.out.2.2.2.2.1 e); have S10 := Lib.hid s10; clear s10) | ((with_reducible refine wpList_load_blk (o := ⟨some 128, _, _, _, _, _⟩) rfl 44 _ rfl pJ rfl 44 _ _ p10 Tryz.underlying44 rfl IN.out ?_)) | ((with_reducible refine wpList_store_blk (o := ⟨none, .store 44 (.tmp 25) (.tmp 128), _, _, _, _⟩) rfl 44 (.tmp 25) (.tmp 128) rfl gr (rjCells { jrL key k st cc tg with next := 1 + cc + m }).toArray rfl rfl 44 _ kr10 IN.out HZS.out HNO.out ?_); intro w11 k11 g11 s11; have kp11 := (kp3.grown g10 (by intro e; injection e with e; exact NN.out.2.2.2.2.2.2.2.2.2.2.2.2.1 e.symm)).grown g11 (by intro e; injection e with e; exact NN.out.2.2.2.2.2.2.2.2.2.2.2.2.2 e.symm); have S11 := Lib.hid s11; clear s11) | ((with_reducible refine wpList_load_blk (o := ⟨some 132, _, _, _, _, _⟩) rfl 41 _ rfl pst rfl 41 _ _ kp11 Tryz.underlying41 rfl HSP.out ?_)) | (go_at_call 21; have J11 := (J3.keep (w' := w10) (g10.block _ J3.blk.lt (by intro e; injection e with e; exact NN.out.2.1 e.symm))).keep (w' := w11) (g11.block _ (by have := J3.blk.lt; have := g10.size; omega) (by intro e; injection e with e; exact NN.out.2.2.1 e.symm)); refine (hjad w11 J11).mono ?_; rintro e w12 ⟨rfl, J12, g12⟩; clear hjad; have kr12 := k11.grown g12 (by intro e; injection e with e; exact NN.out.2.2.1 e); have pS12 := ((p3.grown g10 (by intro e; injection e with e; exact NN.out.2.2.2.2.2.1 e)).grown g11 (by intro e; injection e with e; exact NN.out.2.2.2.2.2.2.1 e)).grown g12 (by intro e; injection e with e; exact NN.out.2.2.2.2.2.2.2.1 e)) | ((with_reducible refine wpList_load_blk (o := ⟨some 134, _, _, _, _, _⟩) rfl 44 _ rfl gr rfl 44 _ _ kr12 Tryz.underlying44 rfl IN.out ?_)) | ((with_reducible refine wpList_load_blk (o := ⟨some 135, _, _, _, _, _⟩) rfl 42 _ rfl pS rfl 42 _ _ pS12 Tryz.underlying42 rfl HSR.out ?_)) | (go_at_call 22; refine (hrad w12).mono ?_; rintro e w13 ⟨rfl, b13⟩; clear hrad; have kr13 := kr12.below b13 kr12.lt) | ((with_reducible refine wpList_store_blk (o := ⟨none, .store 44 (.tmp 25) (.tmp 136), _, _, _, _⟩) rfl 44 (.tmp 25) (.tmp 136) rfl gr (rjCells (jrL key k st (cc + m) tg2)).toArray rfl rfl 44 _ kr13 HAI.out HAZ.out HAO.out ?_); intro w14 k14 g14 s14; have S14 := Lib.hid s14; clear s14))
          have z10 := g10.size
          have z11 := g11.size
          have z12 := g12.size
          have z13 := b13.size
          have z14 := g14.size
          have lj := J3.blk.lt
          have hN := NN.out
          have nk0 : gj ≠ w.heap.size := fun e => by have h := J3.blk.kind; rw [e] at h; exact absurd (h.uniq kk3.kind) (by decide)
          have nk1 : gj ≠ w.heap.size + 1 := fun e => by have h := J3.blk.kind; rw [e] at h; exact absurd (h.uniq ks3.kind) (by decide)
          have E : ∀ j, j < v3.heap.size → j ≠ gm → j ≠ gr → j ≠ gj → w14.heap[j]? = v3.heap[j]? := fun j hj h1 h2 h3 => (g14.block j (by omega) (fun e => by injection e with e; omega)).trans ((b13.block j (by omega)).trans ((g12.block j (by omega) (fun e => by injection e with e; omega)).trans ((g11.block j (by omega) (fun e => by injection e with e; omega)).trans (g10.block j hj (fun e => by injection e with e; omega)))))
          have lM := kM3.lt
          have kM14 : Blk w14 gm 33 #[.int .i64 12, .slice none 0 0, .slice A2 (cc + m) c2, .int .i64 (-1), .bool false, .slice B2 (cc + m) d2] := (g14.block gm (by omega) (fun e => by injection e with e; omega)).trans ((b13.block gm (by omega)).trans ((g12.block gm (by omega) (fun e => by injection e with e; omega)).trans ((g11.block gm (by omega) (fun e => by injection e with e; omega)).trans k10)))
          have J14 := (J12.under b13).keep (w' := w14) (g14.block gj (by omega) (fun e => by injection e with e; omega))
          have D11 := (D3.beside g10 (fun k e => ⟨_, by injection e with e; subst e; exact kM3.kind, by decide, by decide⟩)).beside g11 (fun k e => ⟨_, by injection e with e; subst e; exact kr10.kind, by decide, by decide⟩)
          have J11k : Kind w11 gj 89 := ((J3.keep (w' := w10) (g10.block _ J3.blk.lt (by intro e; injection e with e; omega))).keep (w' := w11) (g11.block _ (by omega) (by intro e; injection e with e; omega))).blk.kind
          have D12 := Disk.apart (F' := fun k => k = gj) D11 (Only.of_grown g12 (fun k e => by injection e with e; exact e.symm) (fun k e _ => by injection e with e; subst e; exact ⟨_, J11k, by decide⟩)) (fun k hf => hf.2)
          have D14 := (D12.under b13).beside g14 (fun k e => ⟨_, by injection e with e; subst e; exact kr13.kind, by decide, by decide⟩)
          have kk14 : Blk w14 w.heap.size 23 (bs key).toArray := (E _ kk3.lt (by omega) (by omega) (by omega)).trans kk3
          have ks14 : Blk w14 (w.heap.size + 1) 41 (stCells start count stag).toArray := (E _ ks3.lt (by omega) (by omega) (by omega)).trans ks3
          have oW14 := own_keep (w' := w14) oW3 (fun b e => E b (World.ownsRow.lt oW3 b e).2 (fun h => by subst h; exact absurd ((own_kind oW3 e).uniq kM3.kind) (by decide)) (fun h => by subst h; exact absurd ((own_kind oW3 e).uniq kr3.kind) (by decide)) (fun h => by subst h; exact absurd ((own_kind oW3 e).uniq J3.blk.kind) (by decide)))
          have oO14 := own_keep (w' := w14) oO3 (fun b e => E b (World.ownsRow.lt oO3 b e).2 (fun h => by subst h; exact absurd ((own_kind oO3 e).uniq kM3.kind) (by decide)) (fun h => by subst h; exact absurd ((own_kind oO3 e).uniq kr3.kind) (by decide)) (fun h => by subst h; exact absurd ((own_kind oO3 e).uniq J3.blk.kind) (by decide)))
          have hy3 := y3.size
          have hjge : w.heap.size ≤ gj := by omega
          have y14 : Below w.heap.size w w14 := (((((y3.grown g10 hy3 (fun k e => by injection e with e; omega)).grown g11 (by omega) (fun k e => by injection e with e; omega)).grown g12 (by omega) (fun k e => by injection e with e; omega)).trans (b13.mono (by omega))).grown g14 (by omega) (fun k e => by injection e with e; omega))
          have HH := Lib.hid (And.intro h192 (And.intro hS192 (And.intro hws hSl)))
          clear hN E z10 z11 z12 z13 z14 D3 D11 D12 J3 J12 J11k kM3 kr3 kk3 ks3 kp3 kr10 p10 kp11 kr12 pS12 kr13 k10 k11 g10 g11 g12 g14 b13 p3 p13 p23 oW3 oO3 h192 hS192 hws hSl
          go_roundw
          case rel => exact ⟨i + 1, cc + m, tg2, ws ++ S, A2, B2, c2, d2, x2, by omega, by go_num, hcm, HTG2.out, by rw [List.length_append, HH.out.2.2.1, HH.out.2.2.2], fun p hp => (List.mem_append.1 hp).elim (HH.out.1 p) (HH.out.2.1 p), J14, D14, kM14, k14, kk14, ks14, oW14, oO14, ox, y14⟩
          case measure => simp [intOf]; omega
        · subst hm0
          have hcb : (code == 0) = false := beq_eq_false_iff_ne.2 hc0
          have HC0 := Lib.hid hc0
          clear hc0
          go_wp2_with (first | ((with_reducible refine wpList_load_blk (o := ⟨some 127, _, _, _, _, _⟩) rfl 33 _ rfl pD rfl 33 _ _ p13 Tryz.underlying33 rfl (by kernel_rfl) ?_)) | ((with_reducible refine wpList_store_blk (o := ⟨none, .store 33 (.tmp 21) (.tmp 127), _, _, _, _⟩) rfl 33 (.tmp 21) (.tmp 127) rfl gm #[.int .i64 12, .slice none 0 0, .slice A2 (cc + 0) c2, .int .i64 (-1), .bool false, .slice B2 (cc + 0) d2] rfl rfl 33 _ kM3 (by kernel_rfl) (by simp) (by simp [Value.oneCell']) ?_); intro w10 k10 g10 s10; have kr10 := kr3.grown g10 (by intro e; injection e with e; exact NN.out.1 e.symm); have p10 := p23.grown g10 (by intro e; injection e with e; exact NN.out.2.2.2.2.1 e); have S10 := Lib.hid s10; clear s10) | ((with_reducible refine wpList_load_blk (o := ⟨some 128, _, _, _, _, _⟩) rfl 44 _ rfl pJ rfl 44 _ _ p10 Tryz.underlying44 rfl IN.out ?_)) | ((with_reducible refine wpList_store_blk (o := ⟨none, .store 44 (.tmp 25) (.tmp 128), _, _, _, _⟩) rfl 44 (.tmp 25) (.tmp 128) rfl gr (rjCells { jrL key k st cc tg with next := 1 + cc + 0 }).toArray rfl rfl 44 _ kr10 IN.out HZS.out HNO.out ?_); intro w11 k11 g11 s11; have kp11 := (kp3.grown g10 (by intro e; injection e with e; exact NN.out.2.2.2.2.2.2.2.2.2.2.2.2.1 e.symm)).grown g11 (by intro e; injection e with e; exact NN.out.2.2.2.2.2.2.2.2.2.2.2.2.2 e.symm); have S11 := Lib.hid s11; clear s11))
          have z10 := g10.size
          have z11 := g11.size
          have lj := J3.blk.lt
          have hN := NN.out
          have nk0 : gj ≠ w.heap.size := fun e => by have h := J3.blk.kind; rw [e] at h; exact absurd (h.uniq kk3.kind) (by decide)
          have nk1 : gj ≠ w.heap.size + 1 := fun e => by have h := J3.blk.kind; rw [e] at h; exact absurd (h.uniq ks3.kind) (by decide)
          have E : ∀ j, j < v3.heap.size → j ≠ gm → j ≠ gr → w11.heap[j]? = v3.heap[j]? := fun j hj h1 h2 => (g11.block j (by omega) (fun e => by injection e with e; omega)).trans (g10.block j hj (fun e => by injection e with e; omega))
          have lM := kM3.lt
          have kM11 : Blk w11 gm 33 #[.int .i64 12, .slice none 0 0, .slice A2 (cc + 0) c2, .int .i64 (-1), .bool false, .slice B2 (cc + 0) d2] := (g11.block gm (by omega) (fun e => by injection e with e; omega)).trans k10
          have J11 := J3.keep (w' := w11) (E gj lj (fun e => hN.2.1 e.symm) (fun e => hN.2.2.1 e.symm))
          have D11 := (D3.beside g10 (fun k e => ⟨_, by injection e with e; subst e; exact kM3.kind, by decide, by decide⟩)).beside g11 (fun k e => ⟨_, by injection e with e; subst e; exact kr10.kind, by decide, by decide⟩)
          have kk11 : Blk w11 w.heap.size 23 (bs key).toArray := (E _ kk3.lt (by omega) (by omega)).trans kk3
          have ks11 : Blk w11 (w.heap.size + 1) 41 (stCells start count stag).toArray := (E _ ks3.lt (by omega) (by omega)).trans ks3
          have oW11 := own_keep (w' := w11) oW3 (fun b e => E b (World.ownsRow.lt oW3 b e).2 (fun h => by subst h; exact absurd ((own_kind oW3 e).uniq kM3.kind) (by decide)) (fun h => by subst h; exact absurd ((own_kind oW3 e).uniq kr3.kind) (by decide)))
          have oO11 := own_keep (w' := w11) oO3 (fun b e => E b (World.ownsRow.lt oO3 b e).2 (fun h => by subst h; exact absurd ((own_kind oO3 e).uniq kM3.kind) (by decide)) (fun h => by subst h; exact absurd ((own_kind oO3 e).uniq kr3.kind) (by decide)))
          have hy3 := y3.size
          have y11 : Below w.heap.size w w11 := (y3.grown g10 hy3 (fun k e => by injection e with e; omega)).grown g11 (by omega) (fun k e => by injection e with e; omega)
          have HH := Lib.hid (And.intro h192 (And.intro hS192 (And.intro hws hSl)))
          clear hN E z10 z11 D3 J3 kM3 kr3 kk3 ks3 kp3 kr10 p10 kp11 k10 g10 g11 p3 p13 p23 oW3 oO3 h192 hS192 hws hSl
          go_roundw
          case rel => exact ⟨i + 1, cc + 0, tg, ws ++ S, A2, B2, c2, d2, x2, by omega, by go_num, hcm, htg, by rw [List.length_append, HH.out.2.2.1, HH.out.2.2.2], fun p hp => (List.mem_append.1 hp).elim (HH.out.1 p) (HH.out.2.1 p), J11, D11, kM11, k11, kk11, ks11, oW11, oO11, ox, y11⟩
          case measure => simp [intOf]; omega
    · have hps : n ≤ i := by omega
      have hrd : Calls Tryz.prog 15 #[.pointer (some ⟨gd, 0, none⟩), .int .i64 slot] wr fun e w' => ∃ (bv : Value) (code : Int) (D2 : Dk), e = .returned (.tuple #[bv, .int .i64 code]) ∧ Disk w' gd (fun k => w.heap.size ≤ k ∧ k ≠ gj) D2 ∧ Only (fun k => w.heap.size ≤ k ∧ k ≠ gj) wr w' ∧ D2.places = List.replicate 12 zeros192 ∧ D2.way = ws ∧ D2.left = -1 ∧ D2.down = false ∧ D2.ops ≤ cc + 1 ∧ ((code = 0 ∧ ∃ s : Nat, slot = (s : Int) ∧ s < 12 ∧ Owns w' wr.heap.size bv (readAt (dkL ws) s) ∧ DiskF wr w' gd (fun k => w.heap.size ≤ k ∧ k ≠ gj) D2) ∨ code ≠ 0) := by
        by_cases hsl : 0 ≤ slot ∧ slot < 12
        · obtain ⟨s, rfl⟩ : ∃ s : Nat, slot = (s : Int) := ⟨slot.toNat, by omega⟩
          have h := dread_gen gd s _ (dkL ws) wr Dr rfl (by show s < (List.replicate 12 zeros192).length; rw [List.length_replicate]; omega) (fun b hb => by rw [(List.mem_replicate.1 hb).2]; exact List.length_replicate) h192 (by show ws.length ≤ 1048576; omega) (by show ws.length ≤ 1048576; omega)
          refine h.mono fun e w' h => ?_
          obtain ⟨v, h1, h2, h3, h4⟩ := h
          have lj := Jr.blk.lt
          have h3' : DiskF wr w' gd (fun k => w.heap.size ≤ k ∧ k ≠ gj) { dkL ws with ops := (dkL ws).ops + 1 } := by
            obtain ⟨vp, vu, vo, xp, xu, xo, hd, r1, r2⟩ := h3
            exact ⟨vp, vu, vo, xp, xu, xo, hd.mono (fun k hf => hf.elim id (fun h => ⟨by omega, by omega⟩)), r1, r2⟩
          exact ⟨v, 0, _, h1, h3'.disk, h4, rfl, rfl, rfl, rfl, by show ws.length + 1 ≤ cc + 1; omega, .inl ⟨rfl, s, rfl, by omega, h2, h3'⟩⟩
        · have h := dread_range gd slot _ (dkL ws) wr Dr rfl (by show slot < 0 ∨ ((List.replicate 12 zeros192).length : Int) ≤ slot; rw [List.length_replicate]; omega)
          exact h.mono fun e w' h => ⟨.slice none 0 0, 12, dkL ws, h.1, Dr.under h.2, Only.of_below h.2, rfl, rfl, rfl, rfl, by show ws.length ≤ cc + 1; omega, .inr (by decide)⟩
      clear hi hr hl h64
      go_wp2_with (first | (go_at_call 15; refine hrd.mono ?_; rintro e w2 ⟨bv, code, D2, rfl, D2r, O2, dp, dw, dl, dd, dops, hcase⟩; clear hrd) | (with_reducible refine stop_at (o := ⟨some 144, _, _, _, _, _⟩) ?_))
      rename_i Ka hKa Kb hKb
      refine stop_note fun l0 hl0 => ?_
      have HC : ∀ (x144 x145 x146 x147 x148 x149 x150 x151 x152 x153 x154 x155 x156 x157 x158 x159 x160 x161 x162 x163 x164 x165 x166 x167 : Value) (W : World), (∃ (D3 : Dk) (done : List (Nat × List UInt8)) (Ad Aw2 Ao2 : Option Addr) (cd cw2 no co2 : Nat) (xo2 : List Value), Disk W gd (fun k => w.heap.size ≤ k ∧ k ≠ gj) D3 ∧ D3.places.length = 12 ∧ (∀ b ∈ D3.places, b.length = 192) ∧ (∀ p ∈ D3.way, p.2.length = 192) ∧ D3.way.length ≤ 1000 ∧ D3.ops ≤ 1000 ∧ done.length ≤ 1 ∧ (∀ p ∈ done, p.2.length = 192) ∧ (∀ j, j < 12 → (lastW done j).getD zeros192 = D3.places.getD j []) ∧ D3.left = -1 ∧ D3.down = false ∧ Blk W gm 33 #[.int .i64 12, .slice Ad done.length cd, .slice Aw2 D3.way.length cw2, .int .i64 (-1), .bool false, .slice Ao2 no co2] ∧ W.ownsRow 0 142 2 (.slice Ad done.length cd) done.length (encW done) ∧ W.ownsRow 0 142 2 (.slice Aw2 D3.way.length cw2) D3.way.length (encW D3.way) ∧ W.ownsRow 0 169 2 (.slice Ao2 no co2) no xo2 ∧ (∀ u ∈ xo2, u.oneCell' = true) ∧ no ≤ 1000 ∧ JAt W gj gd (jrL key k st cc tg) ∧ Blk W w.heap.size 23 (bs key).toArray ∧ Blk W (w.heap.size + 1) 41 (stCells start count stag).toArray ∧ Below w.heap.size w W) → Ka ⟨(l0.take 144 ++ ([x144, x145, x146, x147, x148, x149, x150, x151, x152, x153, x154, x155, x156, x157, x158, x159, x160, x161, x162, x163, x164, x165, x166, x167] ++ l0.drop 168)).toArray, []⟩ W := by
        intro x144 x145 x146 x147 x148 x149 x150 x151 x152 x153 x154 x155 x156 x157 x158 x159 x160 x161 x162 x163 x164 x165 x166 x167 W hF
        refine hKa _ _ ?_
        rw [hl0]
        simp only [List.take_succ_cons, List.take_zero, List.drop_succ_cons, List.drop_zero, List.cons_append, List.nil_append]
        obtain ⟨D3, done, Ad, Aw2, Ao2, cd, cw2, no, co2, xo2, D3r, g1, g2, g3, g4, g5, g6, g7, g8, hleft, hdown, kM, od, ow, oo, hx2, hno, J3, kk3, ks3, y3⟩ := hF
        have GG := Lib.hid (And.intro g1 (And.intro g2 (And.intro g3 (And.intro g4 (And.intro g5 (And.intro g6 (And.intro g7 g8)))))))
        clear g1 g2 g3 g4 g5 g6 g7 g8 hKa hKb hcase D2r O2 Jr Dr kMr krr kkr ksr owr oor
        have hjs := jstate_any gj gd (jrL key k st cc tg) W J3
        have hsl0 := stCells_length st cc tg
        rw [htg] at hsl0
        have hso0 := stCells_one st cc tg
        have zi : (Tryz.prog.info? 41).map (·.size) = some (stCells st cc tg).toArray.size := by rw [List.size_toArray, hsl0]; kernel_rfl
        have zs : st0.toArray.size = (stCells st cc tg).toArray.size := by rw [List.size_toArray, List.size_toArray, hsl0]; rfl
        have zk : (Tryz.prog.info? 23).map (·.size) = some (bs key).toArray.size := by rw [List.size_toArray, Z1.out]; kernel_rfl
        have zz : (#[Value.int .u8 0, Value.int .u8 0, Value.int .u8 0, Value.int .u8 0, Value.int .u8 0, Value.int .u8 0, Value.int .u8 0, Value.int .u8 0, Value.int .u8 0, Value.int .u8 0, Value.int .u8 0, Value.int .u8 0, Value.int .u8 0, Value.int .u8 0, Value.int .u8 0, Value.int .u8 0, Value.int .u8 0, Value.int .u8 0, Value.int .u8 0, Value.int .u8 0, Value.int .u8 0, Value.int .u8 0, Value.int .u8 0, Value.int .u8 0, Value.int .u8 0, Value.int .u8 0, Value.int .u8 0, Value.int .u8 0, Value.int .u8 0, Value.int .u8 0, Value.int .u8 0, Value.int .u8 0]).size = (bs key).toArray.size := by rw [show (bs key).toArray.size = 32 by rw [List.size_toArray, Z1.out]]; rfl
        have ZI := Lib.hid zi
        have ZS := Lib.hid zs
        have ZK := Lib.hid zk
        have ZZ := Lib.hid zz
        have HSO := Lib.hid hso0
        have HKO := Lib.hid (bs_all key)
        have hjs2 : Calls Tryz.prog 25 #[.pointer (some ⟨gj, 0, none⟩)] W fun e w' => e = .returned (.tuple #[.agg (stCells st cc tg).toArray, .int .u64 ((1 + cc : Nat) : Int)]) ∧ Below W.heap.size W w' := hjs
        clear zi zs zk zz hso0 hjs
        go_wp2_with (first | (with_reducible refine stop_at (o := ⟨some 176, _, _, _, _, _⟩) ?_) | (go_at_call 25; refine hjs2.mono ?_; rintro e w4 ⟨rfl, b4⟩; clear hjs2) | ((with_reducible refine wpList_store_blk (o := ⟨none, .store 41 (.tmp 37) (.tmp 171), _, _, _, _⟩) rfl 41 (.tmp 37) (.tmp 171) rfl w4.heap.size (stCells st cc tg).toArray rfl rfl 41 st0.toArray (Blk.new_of rfl rfl) ZI.out ZS.out HSO.out ?_); intro w5 k5 g5 s5; have S5 := Lib.hid s5; have kk5 := ((kk3.below b4 kk3.lt).alloc (.cells st0.toArray 41)).grown g5 (by intro e; injection e with e; have := kk3.lt; have := b4.size; omega); clear s5) | ((with_reducible refine wpList_load_blk (o := ⟨some 173, _, _, _, _, _⟩) rfl 23 _ rfl w.heap.size rfl 23 _ _ kk5 Tryz.underlying23 rfl ZK.out ?_)) | ((with_reducible refine wpList_store_blk (o := ⟨none, .store 23 (.tmp 40) (.tmp 173), _, _, _, _⟩) rfl 23 (.tmp 40) (.tmp 173) rfl w5.heap.size (bs key).toArray rfl rfl 23 #[Value.int .u8 0, Value.int .u8 0, Value.int .u8 0, Value.int .u8 0, Value.int .u8 0, Value.int .u8 0, Value.int .u8 0, Value.int .u8 0, Value.int .u8 0, Value.int .u8 0, Value.int .u8 0, Value.int .u8 0, Value.int .u8 0, Value.int .u8 0, Value.int .u8 0, Value.int .u8 0, Value.int .u8 0, Value.int .u8 0, Value.int .u8 0, Value.int .u8 0, Value.int .u8 0, Value.int .u8 0, Value.int .u8 0, Value.int .u8 0, Value.int .u8 0, Value.int .u8 0, Value.int .u8 0, Value.int .u8 0, Value.int .u8 0, Value.int .u8 0, Value.int .u8 0, Value.int .u8 0] (Blk.new_of rfl rfl) ZK.out ZZ.out HKO.out ?_); intro w6 k6 g6 s6; have S6 := Lib.hid s6; clear s6))
        rename_i Kc hKc Ke hKe
        refine stop_note fun l1 hl1 => ?_
        have bW5 : Below W.heap.size W w5 := (b4.alloc (Nat.le_of_lt_succ (Nat.lt_succ_of_le b4.size)) (.cells st0.toArray 41)).grown g5 (by rw [size_alloc']; have := b4.size; omega) (fun k e => by injection e with e; have := b4.size; omega)
        have bW6 : Below W.heap.size W w6 := (bW5.alloc (Nat.le_of_lt_succ (Nat.lt_succ_of_le bW5.size)) (.cells #[Value.int .u8 0, Value.int .u8 0, Value.int .u8 0, Value.int .u8 0, Value.int .u8 0, Value.int .u8 0, Value.int .u8 0, Value.int .u8 0, Value.int .u8 0, Value.int .u8 0, Value.int .u8 0, Value.int .u8 0, Value.int .u8 0, Value.int .u8 0, Value.int .u8 0, Value.int .u8 0, Value.int .u8 0, Value.int .u8 0, Value.int .u8 0, Value.int .u8 0, Value.int .u8 0, Value.int .u8 0, Value.int .u8 0, Value.int .u8 0, Value.int .u8 0, Value.int .u8 0, Value.int .u8 0, Value.int .u8 0, Value.int .u8 0, Value.int .u8 0, Value.int .u8 0, Value.int .u8 0] 23)).grown g6 (by rw [size_alloc']; have := bW5.size; omega) (fun k e => by injection e with e; have := bW5.size; omega)
        have b56 : Below w5.heap.size w5 w6 := ((Below.refl _ w5).alloc (Nat.le_refl _) (.cells #[Value.int .u8 0, Value.int .u8 0, Value.int .u8 0, Value.int .u8 0, Value.int .u8 0, Value.int .u8 0, Value.int .u8 0, Value.int .u8 0, Value.int .u8 0, Value.int .u8 0, Value.int .u8 0, Value.int .u8 0, Value.int .u8 0, Value.int .u8 0, Value.int .u8 0, Value.int .u8 0, Value.int .u8 0, Value.int .u8 0, Value.int .u8 0, Value.int .u8 0, Value.int .u8 0, Value.int .u8 0, Value.int .u8 0, Value.int .u8 0, Value.int .u8 0, Value.int .u8 0, Value.int .u8 0, Value.int .u8 0, Value.int .u8 0, Value.int .u8 0, Value.int .u8 0, Value.int .u8 0] 23)).grown g6 (by rw [size_alloc']; omega) (fun k e => by injection e with e; omega)
        have D6 := D3r.under bW6
        have kM6 := kM.below bW6 kM.lt
        have od6 := own_keep (w' := w6) od (fun b e => bW6.block b (World.ownsRow.lt od b e).2)
        have ow6 := own_keep (w' := w6) ow (fun b e => bW6.block b (World.ownsRow.lt ow b e).2)
        have oo6 := own_keep (w' := w6) oo (fun b e => bW6.block b (World.ownsRow.lt oo b e).2)
        have ks6 := ks3.below bW6 ks3.lt
        have k37 : Blk w6 w4.heap.size 41 (stCells st cc tg).toArray := b56.block _ (by have h := S5.out; rw [size_alloc'] at h; omega) |>.trans k5
        have k40 : Blk w6 w5.heap.size 23 (bs key).toArray := k6
        have y6 := y3.trans (bW6.mono y3.size)
        have h37 : w.heap.size ≤ w4.heap.size := by have := b4.size; have := y3.size; omega
        have h40 : w.heap.size ≤ w5.heap.size := by have := bW5.size; have := y3.size; omega
        clear k5 k6 g5 g6 kk5 b4 D3r kM od ow oo ks3 J3 kk3 y3 bW5 bW6 b56
        have hgm37 : gm ≠ w4.heap.size := fun e => by rw [e] at kM6; exact absurd (kM6.kind.uniq k37.kind) (by decide)
        generalize w4.heap.size = p37 at *
        generalize w5.heap.size = p40 at *
        have HC2 : ∀ (x39 x175 x176 x177 x178 x179 x180 x181 x182 x183 x184 x185 x186 x187 x188 x189 x190 x191 x192 x193 x194 x195 x196 x197 x198 x199 x200 x201 x202 x203 x204 x205 x206 x207 : Value) (V : World), (∃ (first st2 ct2 : Nat) (tg2 key2 : List UInt8) (D3 : Dk) (done : List (Nat × List UInt8)) (Ad Aw2 Ao2 : Option Addr) (cd cw2 no co2 : Nat) (xo2 : List Value) (left : Int), x39 = .int .i64 (first : Int) ∧ first ≤ 1 ∧ key2.length = 32 ∧ tg2.length = 32 ∧ Disk V gd (fun k => w.heap.size ≤ k ∧ k ≠ gj) D3 ∧ (D3.places.length = 12 ∧ (∀ b ∈ D3.places, b.length = 192) ∧ (∀ p ∈ D3.way, p.2.length = 192) ∧ D3.way.length ≤ 1000 ∧ D3.ops ≤ 1000 ∧ done.length ≤ 1 ∧ (∀ p ∈ done, p.2.length = 192) ∧ (∀ j, j < 12 → (lastW done j).getD zeros192 = D3.places.getD j [])) ∧ Blk V gm 33 #[.int .i64 12, .slice Ad done.length cd, .slice Aw2 D3.way.length cw2, .int .i64 left, .bool D3.down, .slice Ao2 no co2] ∧ (V.ownsRow 0 142 2 (.slice Ad done.length cd) done.length (encW done) ∧ V.ownsRow 0 142 2 (.slice Aw2 D3.way.length cw2) D3.way.length (encW D3.way) ∧ V.ownsRow 0 169 2 (.slice Ao2 no co2) no xo2 ∧ (∀ u ∈ xo2, u.oneCell' = true) ∧ no ≤ 1000) ∧ Blk V p37 41 (stCells st2 ct2 tg2).toArray ∧ Blk V p40 23 (bs key2).toArray ∧ Below w.heap.size w V) → Kc ⟨(l1.take 39 ++ ([x39] ++ ((l1.drop 40).take 135 ++ ([x175, x176, x177, x178, x179, x180, x181, x182, x183, x184, x185, x186, x187, x188, x189, x190, x191, x192, x193, x194, x195, x196, x197, x198, x199, x200, x201, x202, x203, x204, x205, x206, x207] ++ l1.drop 208)))).toArray, []⟩ V := by
          intro x39 x175 x176 x177 x178 x179 x180 x181 x182 x183 x184 x185 x186 x187 x188 x189 x190 x191 x192 x193 x194 x195 x196 x197 x198 x199 x200 x201 x202 x203 x204 x205 x206 x207 V hF
          refine hKc _ _ ?_
          rw [hl1]
          simp only [List.take_succ_cons, List.take_zero, List.drop_succ_cons, List.drop_zero, List.cons_append, List.nil_append]
          clear k37 k40 D6 kM6 od6 ow6 oo6 ks6 y6 hKc hKe GG hleft hdown hgm37
          obtain ⟨first, st2, ct2, tg2, key2, D3, done, Ad, Aw2, Ao2, cd, cw2, no, co2, xo2, left, rfl, hf1, hk2, ht2, D3r, ⟨g1, g2, g3, g4, g5, g6, g7, g8⟩, kM, ⟨od, ow, oo, hx2, hno⟩, k37, k40, y3⟩ := hF
          obtain ⟨code2, l2, hl2, hl2', hP, hR⟩ := loads_same key2 tg2 first k st2 ct2 D3 done hk2 ht2 hk1 (by omega) hk10 g1 g2 g3 g7 g6 g4 g5 g8
          have hld := hP gd _ V D3r (hT.under y3) (fun k hk => by have := hk.1; omega)
          have hso := fun W => stateOf_any st2 ct2 tg2 W ht2
          have sC := stCells_length st2 ct2 tg2
          rw [ht2] at sC
          have sK : (bs key2).length = 32 := by rw [bs_length, hk2]
          have SC := Lib.hid sC
          have SK := Lib.hid sK
          clear hP sC sK g1 g2 g3 g4 g5 g6 g7 g8
          go_wp2_with (first | ((with_reducible refine wpList_load_blk (o := ⟨some 210, _, _, _, _, _⟩) rfl 23 _ rfl p40 rfl 23 _ _ k40 Tryz.underlying23 rfl (by rw [List.size_toArray, SK.out]; kernel_rfl) ?_)) | ((with_reducible refine wpList_load_blk (o := ⟨some 213, _, _, _, _, _⟩) rfl 41 _ rfl p37 rfl 41 _ _ k37 Tryz.underlying41 rfl (by rw [List.size_toArray, SC.out]; kernel_rfl) ?_)) | (go_at_call 17; refine hld.mono ?_; rintro e w7 ⟨A8, c8, y8s, rfl, o8, R8, O7⟩; have kM7 := O7.blk kM (.inr (by decide)); have k377 := O7.blk k37 (.inr (by decide)); have k407 := O7.blk k40 (.inr (by decide)); have od7 := O7.own od (.inr (by decide)); have ow7 := O7.own ow (.inr (by decide)); have oo7 := O7.own oo (.inr (by decide)); have y7 := y3.trans (O7.below y3.size (fun k h => h.1)); clear hld))
          have hS8 : ∀ W, Below w7.heap.size w7 W → W.rangeAt gm 0 ([.int .i64 12, .slice Ad done.length cd, .slice Aw2 D3.way.length cw2, .int .i64 left, .bool D3.down, .slice Ao2 no co2] : List Value) ∧ W.rangeAt p40 0 (bs key2) ∧ W.rangeAt p37 0 (stCells st2 ct2 tg2) := fun W hb => ⟨Blk.range (kM7.below hb kM7.lt), Blk.range (k407.below hb k407.lt), Blk.range (k377.below hb k377.lt)⟩
          have hrl := fun W (hb : Below w7.heap.size w7 W) => hR Ad Aw2 Ao2 cd cw2 no co2 left xo2 W (own_keep od7 (fun b e => hb.block b (World.ownsRow.lt od7 b e).2)) (own_keep ow7 (fun b e => hb.block b (World.ownsRow.lt ow7 b e).2)) (own_keep oo7 (fun b e => hb.block b (World.ownsRow.lt oo7 b e).2)) hx2 hno
          have uD := Tryz.underlying33
          have u41 := Tryz.underlying41
          have iD : (Tryz.prog.info? 33).map (·.size) = some ([.int .i64 12, .slice Ad done.length cd, .slice Aw2 D3.way.length cw2, .int .i64 left, .bool D3.down, .slice Ao2 no co2] : List Value).length := by kernel_rfl
          have iC : (Tryz.prog.info? 41).map (·.size) = some (stCells st2 ct2 tg2).length := by rw [SC.out]; kernel_rfl
          have iK : (Tryz.prog.info? 23).map (·.size) = some (bs key2).length := by rw [SK.out]; kernel_rfl
          have IC := Lib.hid iC
          have IK2 := Lib.hid iK
          have esto : ∀ args w, (callFunc 14 args).run Tryz.prog w = .ok (.enter 14 args) w := enters_of Tryz.func14 (by kernel_rfl) rfl
          have eref : ∀ args w, (callFunc 18 args).run Tryz.prog w = .ok (.enter 18 args) w := enters_of Tryz.func18 (by kernel_rfl) rfl
          clear hR iC iK D3r kM od ow oo k37 k40 y3
          have bd7 : Below w7.heap.size w7 w7.drew := (Below.refl _ _).drew
          apply cont_tail (fun dx B3 c3 pD uF => Below w7.heap.size w7 uF ∧ dx.length = 6 ∧ (∀ v ∈ dx, v.oneCell' = true) ∧ Blk uF pD 33 (([.int .i64 0, .slice none 0 0, .slice none 0 0, .int .i64 0, .bool false, .slice none 0 0] : List Value).toArray) ∧ w7.heap.size ≤ pD ∧ ∃ z3s bb, uF.ownsRow bb 52 1 (.slice B3 l2.length c3) l2.length z3s ∧ RowMs uF bb z3s l2)
          · intro hcont
            refine wp_region_held_drew (S := fun w' => w'.rangeAt gm 0 ([.int .i64 12, .slice Ad done.length cd, .slice Aw2 D3.way.length cw2, .int .i64 left, .bool D3.down, .slice Ao2 no co2] : List Value) ∧ w'.rangeAt p40 0 (bs key2) ∧ w'.rangeAt p37 0 (stCells st2 ct2 tg2)) (by kernel_rfl) (hS8 _ bd7) (fun _ => ?_)
            obtain ⟨uC, bC, huC⟩ : ∃ u : World, Below w7.heap.size w7 u ∧ u = w7.drew := ⟨_, bd7, rfl⟩
            rw [← huC]
            clear huC
            refine wpAnyH_take (i := 0) (oi := ⟨some 218, _, _, _, _, _⟩) (v := .agg #[.int .i64 12, .slice Ad done.length cd, .slice Aw2 D3.way.length cw2, .int .i64 left, .bool D3.down, .slice Ao2 no co2]) rfl (by kernel_rfl) (by kernel_rfl) (by kernel_rfl) (fun _ _ _ h => h) (yieldsIf_load_mid (by rfl) 33 _ rfl gm 0 (by rfl) ([.int .i64 12, .slice Ad done.length cd, .slice Aw2 D3.way.length cw2, .int .i64 left, .bool D3.down, .slice Ao2 no co2] : List Value) _ (fun W h => h.1) uD rfl iD) (hS8 _ bC) ?_
            simp only [Act.put, List.setIfInBounds_toArray, List.set_cons_zero, List.set_cons_succ]
            refine wpAnyH_take (i := 1) (oi := ⟨some 219, _, _, _, _, _⟩) (v := .agg (bs key2).toArray) rfl (by kernel_rfl) (by kernel_rfl) (by kernel_rfl) (fun _ _ _ h => h) (yieldsIf_load_mid (by rfl) 23 _ rfl p40 0 (by rfl) (bs key2) _ (fun W h => h.2.1) uK rfl IK2.out) (hS8 _ bC) ?_
            simp only [Act.put, List.setIfInBounds_toArray, List.set_cons_zero, List.set_cons_succ]
            refine wpAnyH_take (i := 2) (oi := ⟨some 220, _, _, _, _, _⟩) (v := .int .i64 (first : Int)) rfl (by kernel_rfl) (by kernel_rfl) (by kernel_rfl) (fun _ _ _ h => h) (Or.inl ⟨by rfl, by intro W hS; go_simp⟩) (hS8 _ bC) ?_
            simp only [Act.put, List.setIfInBounds_toArray, List.set_cons_zero, List.set_cons_succ]
            refine wpAnyH_take (i := 3) (oi := ⟨some 221, _, _, _, _, _⟩) (v := .int .i64 (k : Int)) rfl (by kernel_rfl) (by kernel_rfl) (by kernel_rfl) (fun _ _ _ h => h) (Or.inl ⟨by rfl, by intro W hS; go_simp⟩) (hS8 _ bC) ?_
            simp only [Act.put, List.setIfInBounds_toArray, List.set_cons_zero, List.set_cons_succ]
            refine wpAnyH_take (i := 4) (oi := ⟨some 222, _, _, _, _, _⟩) (v := .agg (stCells st2 ct2 tg2).toArray) rfl (by kernel_rfl) (by kernel_rfl) (by kernel_rfl) (fun _ _ _ h => h) (yieldsIf_load_mid (by rfl) 41 _ rfl p37 0 (by rfl) (stCells st2 ct2 tg2) _ (fun W h => h.2.2) u41 rfl IC.out) (hS8 _ bC) ?_
            simp only [Act.put, List.setIfInBounds_toArray, List.set_cons_zero, List.set_cons_succ]
            all_goals first
              | (refine wpAnyH_ready (rs := [5, 11]) (by decide +kernel) (by simp) ?_; refine AllReadyH.cons (o := ⟨some 223, .call { callee := .value (.func 14), args := #[.tmp 222], argTypes := #[41] }, _, _, _, _⟩) rfl (fun K' hK => ?_) (AllReadyH.cons (o := ⟨some 43, .alloc 33, _, _, _, _⟩) rfl (fun K' hK => ?_) (AllReadyH.nil)))
            all_goals first
              | (refine step_alloc_run rfl (run_allocD _ _ rfl _) ?_
                 obtain ⟨pD, hpD⟩ : ∃ p, p = uC.heap.size := ⟨_, rfl⟩
                 have lD : w7.heap.size ≤ pD := by rw [hpD]; exact bC.size
                 obtain ⟨uC, huC, st2w, kN⟩ : ∃ u : World, u = uC.alloc (.cells ([.int .i64 0, .slice none 0 0, .slice none 0 0, .int .i64 0, .bool false, .slice none 0 0] : List Value).toArray 33) ∧ Below uC.heap.size uC u ∧ Blk u uC.heap.size 33 (([.int .i64 0, .slice none 0 0, .slice none 0 0, .int .i64 0, .bool false, .slice none 0 0] : List Value).toArray) := ⟨_, rfl, (Below.refl _ _).alloc (Nat.le_refl _) _, Blk.new _ _ _⟩
                 rw [← hpD] at kN
                 try (have kD := kD.below st2w kD.lt)
                 try (have oL := own_keep oL (fun b e => st2w.block b (World.ownsRow.lt oL b e).2); have RL := RL.keep (fun b hK => st2w.block b hK.lt))
                 have kD := kN
                 have bC := bC.trans (st2w.mono bC.size)
                 refine hK.out _ _ (by rw [← huC]; exact hS8 _ bC) (fun _ => ?_)
                 clear hK st2w
                 simp only [Act.put, List.setIfInBounds_toArray, List.set_cons_zero, List.set_cons_succ]
                 rw [← huC, ← hpD]
                 clear huC hpD)
              | (refine step_call_w (by rfl) 14 [_] _ rfl [.agg (stCells st2 ct2 tg2).toArray] rfl esto _ (hso _) ?_
                 rintro e uC ⟨rfl, st2w⟩
                 try (have kD := kD.below st2w kD.lt)
                 try (have oL := own_keep oL (fun b e => st2w.block b (World.ownsRow.lt oL b e).2); have RL := RL.keep (fun b hK => st2w.block b hK.lt))
                 have bC := bC.trans (st2w.mono bC.size)
                 refine ⟨_, rfl, hK.out _ _ (hS8 _ bC) (fun _ => ?_)⟩
                 clear hK st2w
                 simp only [Act.put, List.setIfInBounds_toArray, List.set_cons_zero, List.set_cons_succ])
            all_goals first
              | (refine wpAnyH_ready (rs := [5]) (by decide +kernel) (by simp) ?_; refine AllReadyH.cons (o := ⟨some 223, .call { callee := .value (.func 14), args := #[.tmp 222], argTypes := #[41] }, _, _, _, _⟩) rfl (fun K' hK => ?_) (AllReadyH.nil))
              | (refine wpAnyH_ready (rs := [6, 11]) (by decide +kernel) (by simp) ?_; refine AllReadyH.cons (o := ⟨some 224, .call { callee := .value (.func 18), args := #[.tmp 218, .tmp 219, .tmp 220, .tmp 221, .tmp 223], argTypes := #[33, 23, 3, 3, 42] }, _, _, _, _⟩) rfl (fun K' hK => ?_) (AllReadyH.cons (o := ⟨some 43, .alloc 33, _, _, _, _⟩) rfl (fun K' hK => ?_) (AllReadyH.nil)))
            all_goals first
              | (refine step_alloc_run rfl (run_allocD _ _ rfl _) ?_
                 obtain ⟨pD, hpD⟩ : ∃ p, p = uC.heap.size := ⟨_, rfl⟩
                 have lD : w7.heap.size ≤ pD := by rw [hpD]; exact bC.size
                 obtain ⟨uC, huC, st2w, kN⟩ : ∃ u : World, u = uC.alloc (.cells ([.int .i64 0, .slice none 0 0, .slice none 0 0, .int .i64 0, .bool false, .slice none 0 0] : List Value).toArray 33) ∧ Below uC.heap.size uC u ∧ Blk u uC.heap.size 33 (([.int .i64 0, .slice none 0 0, .slice none 0 0, .int .i64 0, .bool false, .slice none 0 0] : List Value).toArray) := ⟨_, rfl, (Below.refl _ _).alloc (Nat.le_refl _) _, Blk.new _ _ _⟩
                 rw [← hpD] at kN
                 try (have kD := kD.below st2w kD.lt)
                 try (have oL := own_keep oL (fun b e => st2w.block b (World.ownsRow.lt oL b e).2); have RL := RL.keep (fun b hK => st2w.block b hK.lt))
                 have kD := kN
                 have bC := bC.trans (st2w.mono bC.size)
                 refine hK.out _ _ (by rw [← huC]; exact hS8 _ bC) (fun _ => ?_)
                 clear hK st2w
                 simp only [Act.put, List.setIfInBounds_toArray, List.set_cons_zero, List.set_cons_succ]
                 rw [← huC, ← hpD]
                 clear huC hpD)
              | (refine step_call_w (by rfl) 14 [_] _ rfl [.agg (stCells st2 ct2 tg2).toArray] rfl esto _ (hso _) ?_
                 rintro e uC ⟨rfl, st2w⟩
                 try (have kD := kD.below st2w kD.lt)
                 try (have oL := own_keep oL (fun b e => st2w.block b (World.ownsRow.lt oL b e).2); have RL := RL.keep (fun b hK => st2w.block b hK.lt))
                 have bC := bC.trans (st2w.mono bC.size)
                 refine ⟨_, rfl, hK.out _ _ (hS8 _ bC) (fun _ => ?_)⟩
                 clear hK st2w
                 simp only [Act.put, List.setIfInBounds_toArray, List.set_cons_zero, List.set_cons_succ])
              | (refine step_call_w (by rfl) 18 [_, _, _, _, _] _ rfl [.agg #[.int .i64 12, .slice Ad done.length cd, .slice Aw2 D3.way.length cw2, .int .i64 left, .bool D3.down, .slice Ao2 no co2], .agg (bs key2).toArray, .int .i64 (first : Int), .int .i64 (k : Int), .agg (stCells st2 ct2 tg2).toArray] rfl eref _ (hrl _ bC) ?_
                 rintro e uC ⟨dx, B3, c3, z3s, dxl, dxo, rfl, oLN, RLN, st2w⟩
                 try (have kD := kD.below st2w kD.lt)
                 try (have oL := own_keep oL (fun b e => st2w.block b (World.ownsRow.lt oL b e).2); have RL := RL.keep (fun b hK => st2w.block b hK.lt))
                 have oL := oLN
                 have RL := RLN
                 have bC := bC.trans (st2w.mono bC.size)
                 refine ⟨_, rfl, hK.out _ _ (hS8 _ bC) (fun _ => ?_)⟩
                 clear hK st2w
                 simp only [Act.put, List.setIfInBounds_toArray, List.set_cons_zero, List.set_cons_succ]
                 refine wpAnyH_take (i := 7) (oi := ⟨some 217, _, _, _, _, _⟩) (v := .tuple #[.agg dx.toArray, .slice B3 l2.length c3, .int .i64 code2]) rfl (by kernel_rfl) (by kernel_rfl) (by kernel_rfl) (fun _ _ _ h => h) (Or.inl ⟨by rfl, by intro W hS; go_simp⟩) (hS8 _ bC) ?_
                 simp only [Act.put, List.setIfInBounds_toArray, List.set_cons_zero, List.set_cons_succ]
                 refine wpAnyH_take (i := 8) (oi := ⟨some 225, _, _, _, _, _⟩) (v := .agg dx.toArray) rfl (by kernel_rfl) (by kernel_rfl) (by kernel_rfl) (fun _ _ _ h => h) (Or.inl ⟨by rfl, by intro W hS; go_simp⟩) (hS8 _ bC) ?_
                 simp only [Act.put, List.setIfInBounds_toArray, List.set_cons_zero, List.set_cons_succ]
                 refine wpAnyH_take (i := 9) (oi := ⟨some 226, _, _, _, _, _⟩) (v := .slice B3 l2.length c3) rfl (by kernel_rfl) (by kernel_rfl) (by kernel_rfl) (fun _ _ _ h => h) (Or.inl ⟨by rfl, by intro W hS; go_simp⟩) (hS8 _ bC) ?_
                 simp only [Act.put, List.setIfInBounds_toArray, List.set_cons_zero, List.set_cons_succ]
                 refine wpAnyH_take (i := 10) (oi := ⟨some 227, _, _, _, _, _⟩) (v := .int .i64 code2) rfl (by kernel_rfl) (by kernel_rfl) (by kernel_rfl) (fun _ _ _ h => h) (Or.inl ⟨by rfl, by intro W hS; go_simp⟩) (hS8 _ bC) ?_
                 simp only [Act.put, List.setIfInBounds_toArray, List.set_cons_zero, List.set_cons_succ])
            all_goals first
              | (refine wpAnyH_ready (rs := [11]) (by decide +kernel) (by simp) ?_; refine AllReadyH.cons (o := ⟨some 43, .alloc 33, _, _, _, _⟩) rfl (fun K' hK => ?_) (AllReadyH.nil))
              | (refine wpAnyH_ready (rs := [6]) (by decide +kernel) (by simp) ?_; refine AllReadyH.cons (o := ⟨some 224, .call { callee := .value (.func 18), args := #[.tmp 218, .tmp 219, .tmp 220, .tmp 221, .tmp 223], argTypes := #[33, 23, 3, 3, 42] }, _, _, _, _⟩) rfl (fun K' hK => ?_) (AllReadyH.nil))
            all_goals first
              | (refine step_alloc_run rfl (run_allocD _ _ rfl _) ?_
                 obtain ⟨pD, hpD⟩ : ∃ p, p = uC.heap.size := ⟨_, rfl⟩
                 have lD : w7.heap.size ≤ pD := by rw [hpD]; exact bC.size
                 obtain ⟨uC, huC, st2w, kN⟩ : ∃ u : World, u = uC.alloc (.cells ([.int .i64 0, .slice none 0 0, .slice none 0 0, .int .i64 0, .bool false, .slice none 0 0] : List Value).toArray 33) ∧ Below uC.heap.size uC u ∧ Blk u uC.heap.size 33 (([.int .i64 0, .slice none 0 0, .slice none 0 0, .int .i64 0, .bool false, .slice none 0 0] : List Value).toArray) := ⟨_, rfl, (Below.refl _ _).alloc (Nat.le_refl _) _, Blk.new _ _ _⟩
                 rw [← hpD] at kN
                 try (have kD := kD.below st2w kD.lt)
                 try (have oL := own_keep oL (fun b e => st2w.block b (World.ownsRow.lt oL b e).2); have RL := RL.keep (fun b hK => st2w.block b hK.lt))
                 have kD := kN
                 have bC := bC.trans (st2w.mono bC.size)
                 refine hK.out _ _ (by rw [← huC]; exact hS8 _ bC) (fun _ => ?_)
                 clear hK st2w
                 simp only [Act.put, List.setIfInBounds_toArray, List.set_cons_zero, List.set_cons_succ]
                 rw [← huC, ← hpD]
                 clear huC hpD)
              | (refine step_call_w (by rfl) 18 [_, _, _, _, _] _ rfl [.agg #[.int .i64 12, .slice Ad done.length cd, .slice Aw2 D3.way.length cw2, .int .i64 left, .bool D3.down, .slice Ao2 no co2], .agg (bs key2).toArray, .int .i64 (first : Int), .int .i64 (k : Int), .agg (stCells st2 ct2 tg2).toArray] rfl eref _ (hrl _ bC) ?_
                 rintro e uC ⟨dx, B3, c3, z3s, dxl, dxo, rfl, oLN, RLN, st2w⟩
                 try (have kD := kD.below st2w kD.lt)
                 try (have oL := own_keep oL (fun b e => st2w.block b (World.ownsRow.lt oL b e).2); have RL := RL.keep (fun b hK => st2w.block b hK.lt))
                 have oL := oLN
                 have RL := RLN
                 have bC := bC.trans (st2w.mono bC.size)
                 refine ⟨_, rfl, hK.out _ _ (hS8 _ bC) (fun _ => ?_)⟩
                 clear hK st2w
                 simp only [Act.put, List.setIfInBounds_toArray, List.set_cons_zero, List.set_cons_succ]
                 refine wpAnyH_take (i := 7) (oi := ⟨some 217, _, _, _, _, _⟩) (v := .tuple #[.agg dx.toArray, .slice B3 l2.length c3, .int .i64 code2]) rfl (by kernel_rfl) (by kernel_rfl) (by kernel_rfl) (fun _ _ _ h => h) (Or.inl ⟨by rfl, by intro W hS; go_simp⟩) (hS8 _ bC) ?_
                 simp only [Act.put, List.setIfInBounds_toArray, List.set_cons_zero, List.set_cons_succ]
                 refine wpAnyH_take (i := 8) (oi := ⟨some 225, _, _, _, _, _⟩) (v := .agg dx.toArray) rfl (by kernel_rfl) (by kernel_rfl) (by kernel_rfl) (fun _ _ _ h => h) (Or.inl ⟨by rfl, by intro W hS; go_simp⟩) (hS8 _ bC) ?_
                 simp only [Act.put, List.setIfInBounds_toArray, List.set_cons_zero, List.set_cons_succ]
                 refine wpAnyH_take (i := 9) (oi := ⟨some 226, _, _, _, _, _⟩) (v := .slice B3 l2.length c3) rfl (by kernel_rfl) (by kernel_rfl) (by kernel_rfl) (fun _ _ _ h => h) (Or.inl ⟨by rfl, by intro W hS; go_simp⟩) (hS8 _ bC) ?_
                 simp only [Act.put, List.setIfInBounds_toArray, List.set_cons_zero, List.set_cons_succ]
                 refine wpAnyH_take (i := 10) (oi := ⟨some 227, _, _, _, _, _⟩) (v := .int .i64 code2) rfl (by kernel_rfl) (by kernel_rfl) (by kernel_rfl) (fun _ _ _ h => h) (Or.inl ⟨by rfl, by intro W hS; go_simp⟩) (hS8 _ bC) ?_
                 simp only [Act.put, List.setIfInBounds_toArray, List.set_cons_zero, List.set_cons_succ])
            all_goals
              refine wpAnyH_listed (l' := #[true, true, true, true, true, true, true, true, true, true, true, true, false, false, false]) (by kernel_rfl) ?_
              exact hcont dx B3 c3 pD uC ⟨bC, dxl, dxo, kD, lD, z3s, _, oL, RL⟩
          intro dx B3 c3 pD v3 ⟨bv3, dxl, dxo, kD, lD, z3s, bb, oL, RL⟩
          have gF : v3.grownBy (v3.setCells pD 0 dx) (some pD) := grownBy_setCells _ _ _ (World.grownBy.refl _ _)
          have thD : v3.there pD 0 dx.length := kD.there (by rw [dxl]; exact Nat.le_refl _)
          obtain ⟨uF, huF⟩ : ∃ uF : World, uF = v3.setCells pD 0 dx := ⟨_, rfl⟩
          rw [← huF] at gF
          have b7F : Below w7.heap.size w7 uF := bv3.grown gF bv3.size (fun k e => by injection e with e; omega)
          refine wpAnyH_ready (rs := [12]) (by kernel_rfl) (by simp) ?_
          refine AllReadyH.cons (o := ⟨none, .store 33 (.tmp 43) (.tmp 225), _, _, _, _⟩) rfl (fun K' hK => ?_) AllReadyH.nil
          rw [if_pos (by rfl)]
          refine wp_store_mid _ _ _ rfl _ _ (List.toArray _) rfl rfl ?_ ?_ (all_oneCell_toArray dxo) ?_
          · simpa using thD
          · rw [List.size_toArray]; exact (by rw [dxl]; kernel_rfl)
          simp only [Act.put]
          refine hK.out _ _ (by rw [← huF]; exact hS8 _ b7F) (fun _ => ?_)
          clear hK
          rw [← huF]
          clear huF
          refine wpAnyH_take (i := 13) (oi := ⟨some 44, _, _, _, _, _⟩) (v := .slice B3 l2.length c3) rfl (by kernel_rfl) (by kernel_rfl) (by kernel_rfl) (fun _ _ _ h => h) (Or.inl ⟨by rfl, by intro W hS; go_simp⟩) (hS8 _ b7F) ?_
          simp only [Act.put, List.setIfInBounds_toArray, List.set_cons_zero, List.set_cons_succ]
          refine wpAnyH_take (i := 14) (oi := ⟨some 45, _, _, _, _, _⟩) (v := .int .i64 code2) rfl (by kernel_rfl) (by kernel_rfl) (by kernel_rfl) (fun _ _ _ h => h) (Or.inl ⟨by rfl, by intro W hS; go_simp⟩) (hS8 _ b7F) ?_
          simp only [Act.put, List.setIfInBounds_toArray, List.set_cons_zero, List.set_cons_succ]
          refine wpAnyH_done (by kernel_rfl) ?_ _
          have hy7 := y7.size
          have yF : Below w.heap.size w uF := y7.trans (b7F.mono hy7)
          have oL2 := own_keep (w' := uF) oL (fun b e => gF.block b (World.ownsRow.lt oL b e).2 (fun h => by injection h with h; subst h; exact absurd ((own_kind oL e).uniq kD.kind) (by decide)))
          have RL2 := RL.keep (w' := uF) (fun b hK => gF.block b hK.lt (fun h => by injection h with h; subst h; exact absurd (hK.uniq kD.kind) (by decide)))
          have hal := allOf_any A8 l2.length c8 y8s l2 uF (Reads.of_own (own_keep o8 (fun b e => b7F.block b (World.ownsRow.lt o8 b e).2))) (own_spotc (own_keep o8 (fun b e => b7F.block b (World.ownsRow.lt o8 b e).2))) rfl (R8.keep b7F.size (fun k hK => b7F.block k hK.lt) (fun k hK => b7F.block k hK.lt)) (by omega) (fun l hl => by have := hl2' l hl; omega)
          have hcc2 : (code2 == code2) = true := by simp
          clear hS8 hrl oL RL kD gF thD b7F kM7 k377 k407 od7 ow7 oo7 esto eref
          go_wp2_with (first | (go_at_call 20; refine hal.mono ?_; rintro e x1 ⟨A9, c9, y9s, rfl, o9, R9, b9⟩; have hsm := sameAll_yes A9 B3 l2.length c9 c3 _ _ _ _ y9s z3s l2 x1 rfl o9 R9 (own_keep oL2 (fun b e => b9.block b (World.ownsRow.lt oL2 b e).2)) (RL2.keep (fun b hK => b9.block b hK.lt)) (by omega) (fun l hl => by have := hl2' l hl; omega); clear hal) | (go_at_call 19; refine hsm.mono ?_; rintro e x2w ⟨rfl, q9, rfl⟩; clear hsm))
          go_ret
          exact ⟨rfl, yF.trans ((below_drewN b9 q9).mono yF.size)⟩
        rw [hl1] at HC2
        simp only [List.take_succ_cons, List.take_zero, List.drop_succ_cons, List.drop_zero, List.cons_append, List.nil_append] at HC2
        have HCC2 := Lib.hid HC2
        clear HC2 hKc
        have kM6' : Blk w6 gm 33 #[.int .i64 12, .slice Ad done.length cd, .slice Aw2 D3.way.length cw2, .int .i64 (-1), .bool D3.down, .slice Ao2 no co2] := by rw [hdown]; exact kM6
        have ndd : ∀ {V : World} {row : Nat}, w6.grownBy V (some row) → ∀ {T : TypeId} {cs : Array Value}, Blk w6 row T cs → T ≠ 33 → T ≠ 142 → T ≠ 169 → T ∉ wet → T ≠ 5 → w.heap.size ≤ row → Disk V gd (fun k => w.heap.size ≤ k ∧ k ≠ gj) D3 ∧ Blk V gm 33 #[.int .i64 12, .slice Ad done.length cd, .slice Aw2 D3.way.length cw2, .int .i64 (-1), .bool D3.down, .slice Ao2 no co2] ∧ (V.ownsRow 0 142 2 (.slice Ad done.length cd) done.length (encW done) ∧ V.ownsRow 0 142 2 (.slice Aw2 D3.way.length cw2) D3.way.length (encW D3.way) ∧ V.ownsRow 0 169 2 (.slice Ao2 no co2) no xo2 ∧ (∀ u ∈ xo2, u.oneCell' = true) ∧ no ≤ 1000) ∧ Below w.heap.size w V := fun {V row} g {T cs} kb h1 h2 h3 h4 h5 h6 => by
          have hne : ∀ {b : Nat} {t : TypeId}, Kind w6 b t → t ≠ T → V.heap[b]? = w6.heap[b]? := fun hK ht => g.block _ hK.lt (fun e => by injection e with e; subst e; exact ht (hK.uniq kb.kind))
          exact ⟨D6.beside g (fun j e => ⟨T, by injection e with e; subst e; exact kb.kind, h4, h5⟩), (hne kM6'.kind h1.symm).trans kM6', ⟨own_keep od6 (fun b e => hne (own_kind od6 e) h2.symm), own_keep ow6 (fun b e => hne (own_kind ow6 e) h2.symm), own_keep oo6 (fun b e => hne (own_kind oo6 e) h3.symm), hx2, hno⟩, y6.grown g y6.size (fun j e => by injection e with e; omega)⟩
        have ZS2 : Hid ((stCells st cc tg).toArray.size = (stCells start count stag).toArray.size) := Lib.hid (by rw [List.size_toArray, List.size_toArray, hsl0, Z2.out])
        have ZI2 : Hid ((Tryz.prog.info? 41).map (·.size) = some (stCells start count stag).toArray.size) := Lib.hid (by rw [List.size_toArray, Z2.out]; kernel_rfl)
        have ZO2 := Lib.hid (stCells_one start count stag)
        have n3740 : p37 ≠ p40 := fun e => by have h := k37.kind; rw [e] at h; exact absurd (h.uniq k40.kind) (by decide)
        have N34 := Lib.hid n3740
        have HD6 := Lib.hid D6
        clear n3740
        by_cases o1 : odd.toNat = 1
        · have q1 : ((odd.toNat : Int) == 1) = true := beq_iff_eq.2 (by omega)
          clear o1
          go_wp2_with (first | ((with_reducible refine wpList_load_blk (o := ⟨some 177, _, _, _, _, _⟩) rfl 41 _ rfl (w.heap.size + 1) rfl 41 _ _ ks6 Tryz.underlying41 rfl ZI2.out ?_)) | ((with_reducible refine wpList_store_blk (o := ⟨none, .store 41 (.tmp 37) (.tmp 177), _, _, _, _⟩) rfl 41 (.tmp 37) (.tmp 177) rfl p37 (stCells start count stag).toArray rfl rfl 41 _ k37 ZI2.out ZS2.out ZO2.out ?_); intro w10 k10 g10 s10))
          obtain ⟨d1', d2', d3', d4'⟩ := ndd g10 k37 (by decide) (by decide) (by decide) (by decide) (by decide) h37
          exact HCC2.out _ _ _ _ _ _ _ _ _ _ _ _ _ _ _ _ _ _ _ _ _ _ _ _ _ _ _ _ _ _ _ _ _ _ _ ⟨1, start, count, stag, key, D3, done, Ad, Aw2, Ao2, cd, cw2, no, co2, xo2, (-1), rfl, by omega, hk, hst, d1', GG.out, d2', d3', k10, (g10.block _ k40.lt (fun e => by injection e with e; exact N34.out e.symm)).trans k40, d4'⟩
        by_cases o2 : odd.toNat = 2
        · have q1 : ((odd.toNat : Int) == 1) = false := beq_eq_false_iff_ne.2 (by omega)
          have q2 : ((odd.toNat : Int) == 2) = true := beq_iff_eq.2 (by omega)
          clear o1 o2
          have c1 : w6.cell? ⟨w.heap.size + 1, 1, none⟩ = some (.int .u64 (count : Int)) := ks6.cell 1
          have c2 : w6.cell? ⟨p37, 1, none⟩ = some (.int .u64 (cc : Int)) := k37.cell 1
          have f2 := k37.frozen 1
          have hrem : (count : Int).tmod 12 = ((count % 12 : Nat) : Int) := rfl
          have hrem2 : (count : Int) % 12 = ((count % 12 : Nat) : Int) := by simp
          obtain ⟨cm, hcm⟩ : ∃ cm, cm = count % 12 := ⟨_, rfl⟩
          rw [← hcm] at hrem hrem2
          have kS := k37.set_ 1 (.int .u64 (cm : Int))
          have gS : w6.grownBy (w6.setCell ⟨p37, 1, none⟩ (.int .u64 (cm : Int))) (some p37) := only_setCell (World.grownBy.refl _ _) (.inl rfl) _
          clear hcm
          go_wp2
          obtain ⟨d1', d2', d3', d4'⟩ := ndd gS k37 (by decide) (by decide) (by decide) (by decide) (by decide) h37
          exact HCC2.out _ _ _ _ _ _ _ _ _ _ _ _ _ _ _ _ _ _ _ _ _ _ _ _ _ _ _ _ _ _ _ _ _ _ _ ⟨1, st, cm, tg, key, D3, done, Ad, Aw2, Ao2, cd, cw2, no, co2, xo2, (-1), rfl, by omega, hk, htg, d1', GG.out, d2', d3', kS, (gS.block _ k40.lt (fun e => by injection e with e; exact N34.out e.symm)).trans k40, d4'⟩
        by_cases o3 : odd.toNat = 3
        · have q1 : ((odd.toNat : Int) == 1) = false := beq_eq_false_iff_ne.2 (by omega)
          have q2 : ((odd.toNat : Int) == 2) = false := beq_eq_false_iff_ne.2 (by omega)
          have q3 : ((odd.toNat : Int) == 3) = true := beq_iff_eq.2 (by omega)
          clear o1 o2 o3
          go_wp2
          exact HCC2.out _ _ _ _ _ _ _ _ _ _ _ _ _ _ _ _ _ _ _ _ _ _ _ _ _ _ _ _ _ _ _ _ _ _ _ ⟨0, st, cc, tg, key, D3, done, Ad, Aw2, Ao2, cd, cw2, no, co2, xo2, (-1), rfl, by omega, hk, htg, HD6.out, GG.out, kM6', ⟨od6, ow6, oo6, hx2, hno⟩, k37, k40, y6⟩
        by_cases o4 : odd.toNat = 4
        · have q1 : ((odd.toNat : Int) == 1) = false := beq_eq_false_iff_ne.2 (by omega)
          have q2 : ((odd.toNat : Int) == 2) = false := beq_eq_false_iff_ne.2 (by omega)
          have q3 : ((odd.toNat : Int) == 3) = false := beq_eq_false_iff_ne.2 (by omega)
          have q4 : ((odd.toNat : Int) == 4) = true := beq_iff_eq.2 (by omega)
          clear o1 o2 o3 o4
          obtain ⟨b0, rest, hkey⟩ : ∃ b0 rest, key = b0 :: rest := by
            cases key with
            | nil => simp at hk
            | cons b0 rest => exact ⟨b0, rest, rfl⟩
          have c1 : w6.cell? ⟨p40, 0, none⟩ = some (.int .u8 (b0.toNat : Int)) := (k40.cell 0).trans (by rw [hkey]; rfl)
          have f2 := k40.frozen 0
          obtain ⟨u, hu⟩ : ∃ u : UInt8, u = b0 ^^^ 1 := ⟨_, rfl⟩
          have hx : bits .xor .u8 (b0.toNat : Int) 1 = (u.toNat : Int) := by rw [hu]; exact xor_u8 b0 1
          have kS := k40.set_ 0 (.int .u8 (u.toNat : Int))
          have eS : (bs key).toArray.setIfInBounds 0 (.int .u8 (u.toNat : Int)) = (bs (u :: rest)).toArray := by rw [hkey]; rfl
          rw [eS] at kS
          have gS : w6.grownBy (w6.setCell ⟨p40, 0, none⟩ (.int .u8 (u.toNat : Int))) (some p40) := only_setCell (World.grownBy.refl _ _) (.inl rfl) _
          have hk2 : (u :: rest).length = 32 := by rw [← hk, hkey]; rfl
          clear eS hu hkey
          go_wp2
          obtain ⟨d1', d2', d3', d4'⟩ := ndd gS k40 (by decide) (by decide) (by decide) (by decide) (by decide) h40
          exact HCC2.out _ _ _ _ _ _ _ _ _ _ _ _ _ _ _ _ _ _ _ _ _ _ _ _ _ _ _ _ _ _ _ _ _ _ _ ⟨1, st, cc, tg, (u :: rest), D3, done, Ad, Aw2, Ao2, cd, cw2, no, co2, xo2, (-1), rfl, by omega, hk2, htg, d1', GG.out, d2', d3', (gS.block _ k37.lt (fun e => by injection e with e; exact N34.out e)).trans k37, kS, d4'⟩
        by_cases o5 : odd.toNat = 5
        · have q1 : ((odd.toNat : Int) == 1) = false := beq_eq_false_iff_ne.2 (by omega)
          have q2 : ((odd.toNat : Int) == 2) = false := beq_eq_false_iff_ne.2 (by omega)
          have q3 : ((odd.toNat : Int) == 3) = false := beq_eq_false_iff_ne.2 (by omega)
          have q4 : ((odd.toNat : Int) == 4) = false := beq_eq_false_iff_ne.2 (by omega)
          have q5 : ((odd.toNat : Int) == 5) = true := beq_iff_eq.2 (by omega)
          clear o1 o2 o3 o4 o5
          have hmk := run_make192
          have hds := dstop_any gd _ D3 w6 HD6.out
          have hdw := fun (V : World) (h : Disk V gd (fun k => w.heap.size ≤ k ∧ k ≠ gj) { D3 with left := 0 }) (a : Nat) => dwrite_stop gd 0 _ { D3 with left := 0 } (some ⟨a, 0, none⟩) 192 V h hdown rfl (by have h := GG.out.1; show 0 < D3.places.length; omega)
          have hdw2 : ∀ (V : World), Disk V gd (fun k => w.heap.size ≤ k ∧ k ≠ gj) { D3 with left := 0 } → ∀ a : Nat, Calls Tryz.prog 27 #[.pointer (some ⟨gd, 0, none⟩), .int .i64 0, .slice (some ⟨a, 0, none⟩) 192 192] V fun e w' => e = .returned (.int .i64 13) ∧ Disk w' gd (fun k => w.heap.size ≤ k ∧ k ≠ gj) { D3 with left := 0, down := true } ∧ Only (fun k => w.heap.size ≤ k ∧ k ≠ gj) V w' := hdw
          have hrs : ∀ V : World, Calls Tryz.prog 28 #[.agg #[.int .i64 12, .slice Ad done.length cd, .slice Aw2 D3.way.length cw2, .int .i64 (-1), .bool false, .slice Ao2 no co2], .int .i64 0] V fun e w' => e = .returned (.agg #[.int .i64 12, .slice Ad done.length cd, .slice Aw2 D3.way.length cw2, .int .i64 0, .bool false, .slice Ao2 no co2]) ∧ Below V.heap.size V w' := fun V => rstop_any 12 done.length cd D3.way.length cw2 no co2 Ad Aw2 Ao2 (-1) false V
          have hrw : ∀ V : World, Calls Tryz.prog 29 #[.agg #[.int .i64 12, .slice Ad done.length cd, .slice Aw2 D3.way.length cw2, .int .i64 0, .bool false, .slice Ao2 no co2], .int .i64 0, .string ⟨zeros192.toArray⟩] V fun e w' => e = .returned (.tuple #[.agg #[.int .i64 12, .slice Ad done.length cd, .slice Aw2 D3.way.length cw2, .int .i64 0, .bool true, .slice Ao2 no co2], .int .i64 13]) ∧ Below V.heap.size V w' := fun V => rwrite_stop 12 done.length cd D3.way.length cw2 no co2 Ad Aw2 Ao2 0 zeros192 V (by omega) List.length_replicate
          have kM0 : Blk w6 gm 33 #[.int .i64 12, .slice Ad done.length cd, .slice Aw2 D3.way.length cw2, .int .i64 (-1), .bool false, .slice Ao2 no co2] := by have h := kM6'; rwa [hdown] at h
          clear hdw
          go_wp2_with (first | (go_at_call 26; refine hds.mono ?_; rintro e w10 ⟨rfl, D10, O10⟩; clear hds; have D11 := D10.under ((Below.refl _ w10).alloc (Nat.le_refl _) (.cells (bs zeros192).toArray 5))) | (go_at_call 27; refine (hdw2 _ D11 _).mono ?_; rintro e w12 ⟨rfl, D12, O12⟩; clear hdw2; have kM12 := O12.blk ((O10.blk kM0 (.inr (by decide))).alloc (.cells (bs zeros192).toArray 5)) (.inr (by decide))) | ((with_reducible refine wpList_load_blk (o := ⟨some 199, _, _, _, _, _⟩) rfl 33 _ rfl gm rfl 33 _ _ kM12 Tryz.underlying33 rfl (by kernel_rfl) ?_)) | (go_at_call 28; refine (hrs _).mono ?_; rintro e w13 ⟨rfl, b13⟩; clear hrs; have kM13 := kM12.below b13 kM12.lt) | ((with_reducible refine wpList_store_blk (o := ⟨none, .store 33 (.tmp 21) (.tmp 200), _, _, _, _⟩) rfl 33 (.tmp 21) (.tmp 200) rfl gm #[.int .i64 12, .slice Ad done.length cd, .slice Aw2 D3.way.length cw2, .int .i64 0, .bool false, .slice Ao2 no co2] rfl rfl 33 _ kM13 (by kernel_rfl) (by simp) (by simp [Value.oneCell']) ?_); intro w14 k14 g14 s14))
          have s1011 := size_alloc' w10 (.cells (bs zeros192).toArray 5)
          have z10 := O10.size
          have z12 := O12.size
          have z13 := b13.size
          have z14 := g14.size
          have E14 : ∀ (b : Nat) (t : TypeId), Kind w6 b t → t ∉ wet → t ≠ 33 → w14.heap[b]? = w6.heap[b]? := fun b t hK h1 h2 => by
            have hl := hK.lt
            have a1 := O10.kind hK (.inr h1)
            have a2 : (w10.alloc (.cells (bs zeros192).toArray 5)).heap[b]? = w10.heap[b]? := Below.heap_alloc _ _ b (by omega)
            have a3 := O12.kind (hK.same (a2.trans a1)) (.inr h1)
            exact (g14.block b (by omega) (fun e => by injection e with e; subst e; exact h2 (hK.uniq kM0.kind))).trans ((b13.block b (by omega)).trans (a3.trans (a2.trans a1)))
          have kM14 : Blk w14 gm 33 #[.int .i64 12, .slice Ad done.length cd, .slice Aw2 D3.way.length cw2, .int .i64 0, .bool false, .slice Ao2 no co2] := k14
          have D14 := (D12.under b13).beside g14 (fun j e => ⟨_, by injection e with e; subst e; exact kM13.kind, by decide, by decide⟩)
          have hy6 := y6.size
          have y14 : Below w.heap.size w w14 := ((((y6.trans (O10.below (by omega) (fun k h => h.1))).alloc (by omega) _).trans (O12.below (by omega) (fun k h => h.1))).trans (b13.mono (by omega))).grown g14 (by omega) (fun j e => by injection e with e; omega)
          have z614 : w6.heap.size ≤ w14.heap.size := by omega
          have uD := Tryz.underlying33
          have iD0 : (Tryz.prog.info? 33).map (·.size) = some ([.int .i64 12, .slice Ad done.length cd, .slice Aw2 D3.way.length cw2, .int .i64 0, .bool false, .slice Ao2 no co2] : List Value).length := by kernel_rfl
          have erw : ∀ args w, (callFunc 29 args).run Tryz.prog w = .ok (.enter 29 args) w := enters_of Tryz.func29 (by kernel_rfl) rfl
          have hcv : ∀ (V : World) (a : Nat), Blk V a 5 (bs zeros192).toArray → (convert 55 9 (.slice (some ⟨a, 0, none⟩) 192 192)).run Tryz.prog V = .ok (.string ⟨zeros192.toArray⟩) V := fun V a h => by
            have h2 := run_string V (some ⟨a, 0, none⟩) 192 zeros192 ⟨by rw [bs_length]; omega, fun _ => ⟨_, rfl, h.lt, fun j u hu => by
              rw [add_head]
              exact (h.cell j).trans (by rw [List.getElem?_toArray]; exact hu)⟩⟩
            rw [show zeros192.length = 192 from List.length_replicate] at h2
            exact h2
          clear g14 k14 kM13 kM12 D12 D11 D10 O10 O12 b13 kM0 z10 z12 z13 s1011 hmk
          apply cont_two (fun pZ uT => Below w14.heap.size w14 uT)
          · intro hcont
            refine wp_region_held_drew (S := fun _ => True) (by kernel_rfl) trivial (fun _ => ?_)
            obtain ⟨uC, bC, huC⟩ : ∃ u : World, Below w14.heap.size w14 u ∧ u = w14.drew := ⟨_, (Below.refl _ w14).drew, rfl⟩
            rw [← huC]
            clear huC
            all_goals first
              | (refine wpAnyH_ready (rs := [0, 1]) (by decide +kernel) (by simp) ?_; refine AllReadyH.cons (o := ⟨some 202, .load 33 (.tmp 21), _, _, _, _⟩) rfl (fun K' hK => ?_) (AllReadyH.cons (o := ⟨some 203, .makeSlice 55 (.const (.int .i64 192)) (.const (.int .i64 192)), _, _, _, _⟩) rfl (fun K' hK => ?_) (AllReadyH.nil)))
            all_goals first
              | (refine step_load_mid rfl 33 _ rfl gm 0 (by rfl) ([.int .i64 12, .slice Ad done.length cd, .slice Aw2 D3.way.length cw2, .int .i64 0, .bool false, .slice Ao2 no co2] : List Value) _ (Blk.range (kM14.below bC kM14.lt)) uD rfl iD0 ?_
                 refine hK.out _ _ trivial (fun _ => ?_)
                 clear hK
                 simp only [Act.put, List.setIfInBounds_toArray, List.set_cons_zero, List.set_cons_succ])
              | (refine step_mk192 rfl rfl ?_
                 obtain ⟨pZ, hpZ⟩ : ∃ p, p = uC.heap.size := ⟨_, rfl⟩
                 obtain ⟨uC, huC, st2w, kZ⟩ : ∃ u : World, u = uC.alloc (.cells (bs zeros192).toArray 5) ∧ Below uC.heap.size uC u ∧ Blk u uC.heap.size 5 (bs zeros192).toArray := ⟨_, rfl, (Below.refl _ _).alloc (Nat.le_refl _) _, Blk.new _ _ _⟩
                 rw [← hpZ] at kZ
                 have bC := bC.trans (st2w.mono bC.size)
                 refine hK.out _ _ trivial (fun _ => ?_)
                 clear hK st2w
                 simp only [Act.put, List.setIfInBounds_toArray, List.set_cons_zero, List.set_cons_succ]
                 rw [← huC, ← hpZ]
                 clear huC hpZ)
            all_goals first
              | (refine wpAnyH_ready (rs := [1]) (by decide +kernel) (by simp) ?_; refine AllReadyH.cons (o := ⟨some 203, .makeSlice 55 (.const (.int .i64 192)) (.const (.int .i64 192)), _, _, _, _⟩) rfl (fun K' hK => ?_) (AllReadyH.nil))
              | (refine wpAnyH_ready (rs := [0, 2]) (by decide +kernel) (by simp) ?_; refine AllReadyH.cons (o := ⟨some 202, .load 33 (.tmp 21), _, _, _, _⟩) rfl (fun K' hK => ?_) (AllReadyH.cons (o := ⟨some 204, .convert 55 9 (.tmp 203), _, _, _, _⟩) rfl (fun K' hK => ?_) (AllReadyH.nil)))
            all_goals first
              | (refine step_load_mid rfl 33 _ rfl gm 0 (by rfl) ([.int .i64 12, .slice Ad done.length cd, .slice Aw2 D3.way.length cw2, .int .i64 0, .bool false, .slice Ao2 no co2] : List Value) _ (Blk.range (kM14.below bC kM14.lt)) uD rfl iD0 ?_
                 refine hK.out _ _ trivial (fun _ => ?_)
                 clear hK
                 simp only [Act.put, List.setIfInBounds_toArray, List.set_cons_zero, List.set_cons_succ])
              | (refine step_mk192 rfl rfl ?_
                 obtain ⟨pZ, hpZ⟩ : ∃ p, p = uC.heap.size := ⟨_, rfl⟩
                 obtain ⟨uC, huC, st2w, kZ⟩ : ∃ u : World, u = uC.alloc (.cells (bs zeros192).toArray 5) ∧ Below uC.heap.size uC u ∧ Blk u uC.heap.size 5 (bs zeros192).toArray := ⟨_, rfl, (Below.refl _ _).alloc (Nat.le_refl _) _, Blk.new _ _ _⟩
                 rw [← hpZ] at kZ
                 have bC := bC.trans (st2w.mono bC.size)
                 refine hK.out _ _ trivial (fun _ => ?_)
                 clear hK st2w
                 simp only [Act.put, List.setIfInBounds_toArray, List.set_cons_zero, List.set_cons_succ]
                 rw [← huC, ← hpZ]
                 clear huC hpZ)
              | (refine step_cv rfl (.tmp 203) rfl (.slice (some ⟨pZ, 0, none⟩) 192 192) (.string ⟨zeros192.toArray⟩) rfl (hcv _ _ kZ) ?_
                 refine hK.out _ _ trivial (fun _ => ?_)
                 clear hK
                 simp only [Act.put, List.setIfInBounds_toArray, List.set_cons_zero, List.set_cons_succ])
            all_goals first
              | (refine wpAnyH_ready (rs := [2]) (by decide +kernel) (by simp) ?_; refine AllReadyH.cons (o := ⟨some 204, .convert 55 9 (.tmp 203), _, _, _, _⟩) rfl (fun K' hK => ?_) (AllReadyH.nil))
              | (refine wpAnyH_ready (rs := [0]) (by decide +kernel) (by simp) ?_; refine AllReadyH.cons (o := ⟨some 202, .load 33 (.tmp 21), _, _, _, _⟩) rfl (fun K' hK => ?_) (AllReadyH.nil))
            all_goals first
              | (refine step_load_mid rfl 33 _ rfl gm 0 (by rfl) ([.int .i64 12, .slice Ad done.length cd, .slice Aw2 D3.way.length cw2, .int .i64 0, .bool false, .slice Ao2 no co2] : List Value) _ (Blk.range (kM14.below bC kM14.lt)) uD rfl iD0 ?_
                 refine hK.out _ _ trivial (fun _ => ?_)
                 clear hK
                 simp only [Act.put, List.setIfInBounds_toArray, List.set_cons_zero, List.set_cons_succ])
              | (refine step_cv rfl (.tmp 203) rfl (.slice (some ⟨pZ, 0, none⟩) 192 192) (.string ⟨zeros192.toArray⟩) rfl (hcv _ _ kZ) ?_
                 refine hK.out _ _ trivial (fun _ => ?_)
                 clear hK
                 simp only [Act.put, List.setIfInBounds_toArray, List.set_cons_zero, List.set_cons_succ])
            all_goals first
              | (refine wpAnyH_ready (rs := [3]) (by decide +kernel) (by simp) ?_; refine AllReadyH.cons (o := ⟨some 205, .call { callee := .value (.func 29), args := #[.tmp 202, .const (.int .i64 0), .tmp 204], argTypes := #[33, 3, 9] }, _, _, _, _⟩) rfl (fun K' hK => ?_) (AllReadyH.nil))
            all_goals first
              | (refine step_call_w (by rfl) 29 [_, _, _] _ rfl [.agg #[.int .i64 12, .slice Ad done.length cd, .slice Aw2 D3.way.length cw2, .int .i64 0, .bool false, .slice Ao2 no co2], .int .i64 0, .string ⟨zeros192.toArray⟩] rfl erw _ (hrw _) ?_
                 rintro e uC ⟨rfl, st2w⟩
                 have bC := bC.trans (st2w.mono bC.size)
                 refine ⟨_, rfl, hK.out _ _ trivial (fun _ => ?_)⟩
                 clear hK st2w
                 simp only [Act.put, List.setIfInBounds_toArray, List.set_cons_zero, List.set_cons_succ]
                 refine wpAnyH_take (i := 4) (oi := ⟨some 201, _, _, _, _, _⟩) (v := .tuple #[.agg #[.int .i64 12, .slice Ad done.length cd, .slice Aw2 D3.way.length cw2, .int .i64 0, .bool true, .slice Ao2 no co2], .int .i64 13]) rfl (by kernel_rfl) (by kernel_rfl) (by kernel_rfl) (fun _ _ _ h => h) (Or.inl ⟨by rfl, by intro W hS; go_simp⟩) trivial ?_
                 simp only [Act.put, List.setIfInBounds_toArray, List.set_cons_zero, List.set_cons_succ]
                 refine wpAnyH_take (i := 5) (oi := ⟨some 206, _, _, _, _, _⟩) (v := .agg #[.int .i64 12, .slice Ad done.length cd, .slice Aw2 D3.way.length cw2, .int .i64 0, .bool true, .slice Ao2 no co2]) rfl (by kernel_rfl) (by kernel_rfl) (by kernel_rfl) (fun _ _ _ h => h) (Or.inl ⟨by rfl, by intro W hS; go_simp⟩) trivial ?_
                 simp only [Act.put, List.setIfInBounds_toArray, List.set_cons_zero, List.set_cons_succ]
                 refine wpAnyH_take (i := 6) (oi := ⟨some 207, _, _, _, _, _⟩) (v := .int .i64 13) rfl (by kernel_rfl) (by kernel_rfl) (by kernel_rfl) (fun _ _ _ h => h) (Or.inl ⟨by rfl, by intro W hS; go_simp⟩) trivial ?_
                 simp only [Act.put, List.setIfInBounds_toArray, List.set_cons_zero, List.set_cons_succ])
            all_goals
              refine wpAnyH_listed (l' := #[true, true, true, true, true, true, true, false]) (by kernel_rfl) ?_
              exact hcont pZ uC bC
          intro pZ uT bT
          have kMT := kM14.below bT kM14.lt
          have gF : uT.grownBy (uT.setCells gm 0 ([.int .i64 12, .slice Ad done.length cd, .slice Aw2 D3.way.length cw2, .int .i64 0, .bool true, .slice Ao2 no co2] : List Value)) (some gm) := grownBy_setCells _ _ _ (World.grownBy.refl _ _)
          have kF : Blk (uT.setCells gm 0 ([.int .i64 12, .slice Ad done.length cd, .slice Aw2 D3.way.length cw2, .int .i64 0, .bool true, .slice Ao2 no co2] : List Value)) gm 33 ([.int .i64 12, .slice Ad done.length cd, .slice Aw2 D3.way.length cw2, .int .i64 0, .bool true, .slice Ao2 no co2] : List Value).toArray := by
            have h := Blk.put (t := 33) ([.int .i64 12, .slice Ad done.length cd, .slice Aw2 D3.way.length cw2, .int .i64 0, .bool true, .slice Ao2 no co2] : List Value) [] ([.int .i64 12, .slice Ad done.length cd, .slice Aw2 D3.way.length cw2, .int .i64 0, .bool false, .slice Ao2 no co2] : List Value) [] uT rfl (by simpa using kMT)
            simpa using h
          have thF : uT.there gm 0 ([.int .i64 12, .slice Ad done.length cd, .slice Aw2 D3.way.length cw2, .int .i64 0, .bool true, .slice Ao2 no co2] : List Value).length := kMT.there (by exact Nat.le_refl _)
          have do2 : ∀ v ∈ ([.int .i64 12, .slice Ad done.length cd, .slice Aw2 D3.way.length cw2, .int .i64 0, .bool true, .slice Ao2 no co2] : List Value), v.oneCell' = true := by
            intro v hv
            simp only [List.mem_cons, List.not_mem_nil, or_false] at hv
            rcases hv with rfl | rfl | rfl | rfl | rfl | rfl <;> rfl
          obtain ⟨uF, huF⟩ : ∃ v : World, v = uT.setCells gm 0 ([.int .i64 12, .slice Ad done.length cd, .slice Aw2 D3.way.length cw2, .int .i64 0, .bool true, .slice Ao2 no co2] : List Value) := ⟨_, rfl⟩
          rw [← huF] at gF kF
          refine wpAnyH_ready (rs := [7]) (by kernel_rfl) (by simp) ?_
          refine AllReadyH.cons (o := ⟨none, .store 33 (.tmp 21) (.tmp 206), _, _, _, _⟩) rfl (fun K' hK => ?_) AllReadyH.nil
          rw [if_pos (by rfl)]
          refine wp_store_mid _ _ _ rfl _ _ (List.toArray _) rfl rfl ?_ ?_ (all_oneCell_toArray do2) ?_
          · simpa using thF
          · rw [List.size_toArray]; exact iD0
          simp only [Act.put]
          refine hK.out _ _ trivial (fun _ => ?_)
          clear hK
          rw [← huF]
          clear huF
          refine wpAnyH_done (by kernel_rfl) ?_ _
          have zT := bT.size
          have zF := gF.size
          have DF := (D14.under bT).beside gF (fun j e => ⟨_, by injection e with e; subst e; exact kMT.kind, by decide, by decide⟩)
          have yF : Below w.heap.size w uF := (y14.trans (bT.mono (by omega))).grown gF (by omega) (fun j e => by injection e with e; omega)
          have EF : ∀ (b : Nat) (t : TypeId), Kind w6 b t → t ∉ wet → t ≠ 33 → uF.heap[b]? = w6.heap[b]? := fun b t hK h1 h2 => by
            have hl := hK.lt
            have e14 := E14 b t hK h1 h2
            exact (gF.block b (by omega) (fun e => by injection e with e; subst e; exact h2 (hK.uniq kM6'.kind))).trans ((bT.block b (by omega)).trans e14)
          go_wp2
          exact HCC2.out _ _ _ _ _ _ _ _ _ _ _ _ _ _ _ _ _ _ _ _ _ _ _ _ _ _ _ _ _ _ _ _ _ _ _ ⟨1, st, cc, tg, key, { D3 with left := 0, down := true }, done, Ad, Aw2, Ao2, cd, cw2, no, co2, xo2, 0, rfl, by omega, hk, htg, DF, GG.out, kF, ⟨own_keep od6 (fun b e => EF b _ (own_kind od6 e) (by decide) (by decide)), own_keep ow6 (fun b e => EF b _ (own_kind ow6 e) (by decide) (by decide)), own_keep oo6 (fun b e => EF b _ (own_kind oo6 e) (by decide) (by decide)), hx2, hno⟩, (EF _ _ k37.kind (by decide) (by decide)).trans k37, (EF _ _ k40.kind (by decide) (by decide)).trans k40, yF⟩
        have q1 : ((odd.toNat : Int) == 1) = false := beq_eq_false_iff_ne.2 (by omega)
        have q2 : ((odd.toNat : Int) == 2) = false := beq_eq_false_iff_ne.2 (by omega)
        have q3 : ((odd.toNat : Int) == 3) = false := beq_eq_false_iff_ne.2 (by omega)
        have q4 : ((odd.toNat : Int) == 4) = false := beq_eq_false_iff_ne.2 (by omega)
        have q5 : ((odd.toNat : Int) == 5) = false := beq_eq_false_iff_ne.2 (by omega)
        clear o1 o2 o3 o4 o5
        go_wp2
        exact HCC2.out _ _ _ _ _ _ _ _ _ _ _ _ _ _ _ _ _ _ _ _ _ _ _ _ _ _ _ _ _ _ _ _ _ _ _ ⟨1, st, cc, tg, key, D3, done, Ad, Aw2, Ao2, cd, cw2, no, co2, xo2, (-1), rfl, by omega, hk, htg, HD6.out, GG.out, kM6', ⟨od6, ow6, oo6, hx2, hno⟩, k37, k40, y6⟩
      rw [hl0] at HC
      simp only [List.take_succ_cons, List.take_zero, List.drop_succ_cons, List.drop_zero, List.cons_append, List.nil_append] at HC
      have HCC := Lib.hid HC
      clear HC hKa
      have J2 := Jr.keep (w' := w2) (O2.block gj Jr.blk.lt (.inl fun h => h.2 rfl))
      have kM2 := O2.blk kMr (.inr (by decide))
      have kk2 := O2.blk kkr (.inr (by decide))
      have ks2 := O2.blk ksr (.inr (by decide))
      have ow2 := O2.own owr (.inr (by decide))
      have oo2 := O2.own oor (.inr (by decide))
      have y2 := hw.trans (O2.below hwr (fun k h => h.1))
      rcases hcase with ⟨hc0, s, hs, hs12, hOw, hDF⟩ | hc0
      · obtain ⟨pl, wy, lf, dn, op⟩ := D2
        simp only at dp dw dl dd dops
        have dw := dw.symm
        subst dp dl dd dw
        have hbl : (readAt (dkL ws) s).length = 192 := readAt_len (dkL ws) s (by show s < (List.replicate 12 zeros192).length; rw [List.length_replicate]; omega) (fun b hb => by rw [(List.mem_replicate.1 hb).2]; exact List.length_replicate) h192
        obtain ⟨Ab, cb, hvs⟩ := hOw.shape
        rw [hbl] at hvs
        subst hvs hc0 hs
        generalize readAt (dkL ws) s = b at *
        have hOw' : w2.ownsRow wr.heap.size 5 1 (.slice Ab 192 cb) 192 (bs b) := by have h := hOw; unfold Owns at h; rwa [hbl] at h
        obtain ⟨gb, cap, hv, hgb1, hgb2⟩ := hOw'.form (by omega)
        injection hv with hA _ hc
        subst hA
        clear hc
        obtain ⟨ix, hix⟩ : ∃ ix : Nat, ix = ((pat % 65536) % 192).toNat := ⟨_, rfl⟩
        have hixl : ix < 192 := by omega
        have hand := i64_and65535 pat
        have htm2 : (pat % 65536).tmod 192 = (ix : Int) := by rw [Int.tmod_eq_emod_of_nonneg (by omega)]; omega
        have htm3 : (pat % 65536) % 192 = (ix : Int) := by omega
        obtain ⟨b0, hb0⟩ : ∃ b0, b[ix]? = some b0 := ⟨_, List.getElem?_eq_getElem (by omega)⟩
        have c0 : w2.cell? ⟨gb, ix, none⟩ = some (.int .u8 (b0.toNat : Int)) := by
          rw [World.ownsRow.cellAt hOw' ix (by omega)]
          unfold bs
          rw [List.getElem?_map, hb0]
          rfl
        have f0 := World.ownsRow.frozenAt hOw' ix
        obtain ⟨u, hu⟩ : ∃ u : UInt8, u = b0 ^^^ over := ⟨_, rfl⟩
        have hx : bits .xor .u8 (b0.toNat : Int) (over.toNat : Int) = (u.toNat : Int) := by rw [hu]; exact xor_u8 b0 over
        have hS := World.ownsRow.stored hOw' ix (.int .u8 (u.toNat : Int))
        rw [bs_set] at hS
        have hbl2 : (b.set ix u).length = 192 := by rw [List.length_set]; exact hbl
        have kgb : Kind w2 gb 5 := own_kind hOw' rfl
        have D5 : Disk (w2.setCell ⟨gb, ix, none⟩ (.int .u8 (u.toNat : Int))) gd (fun k => w.heap.size ≤ k ∧ k ≠ gj) ⟨List.replicate 12 zeros192, ws, -1, false, op⟩ := hDF.keep O2 (by simp [World.setCell]) (fun k t hK h => Below.heap_setCell _ _ _ _ (fun e => by
          subst e
          rcases h with h | h
          · exact h (hK.uniq kgb)
          · omega))
        have htam := dtamper_any gd s _ ⟨List.replicate 12 zeros192, ws, -1, false, op⟩ (some ⟨gb, 0, none⟩) cb (b.set ix u) _ D5 (by show s < (List.replicate 12 zeros192).length; rw [List.length_replicate]; exact hs12) (Reads.of_own hS.1) (by show ws.length ≤ 1048576; omega) (by show (List.replicate 12 zeros192).length ≤ 1048576; rw [List.length_replicate]; omega)
        have hg3 := hS.2
        obtain ⟨W5, hW5⟩ : ∃ V : World, V = w2.setCell ⟨gb, ix, none⟩ (.int .u8 (u.toNat : Int)) := ⟨_, rfl⟩
        rw [← hW5] at hS D5 htam hg3
        have oB := hS.1
        have HW5 := Lib.hid hW5
        have hst2 : ∀ V : World, V.ownsRow wr.heap.size 5 1 (.slice (some ⟨gb, 0, none⟩) 192 cb) 192 (bs (b.set ix u)) → (convert 55 9 (.slice (some ⟨gb, 0, none⟩) 192 cb)).run Tryz.prog V = .ok (.string ⟨(b.set ix u).toArray⟩) V := fun V h => by
          have h2 := run_string V (some ⟨gb, 0, none⟩) cb (b.set ix u) (by rw [hbl2]; exact Reads.of_own h)
          rw [hbl2] at h2
          exact h2
        clear hS hDF hu hb0 hW5 hix D2r hOw
        have hrt := fun V h1 h2 => rtamper_any 12 s 0 0 cc cw cc co none Aw Ao (-1) (b.set ix u) [] ws V h1 (by omega) h2 hws (by omega) hs12 hbl2
        have mv5 : ∀ {b : Nat} {t : TypeId}, Kind w2 b t → t ≠ 5 → W5.heap[b]? = w2.heap[b]? := fun hK ht => hg3.block _ hK.lt (fun e => by injection e with e; subst e; exact ht (hK.uniq kgb))
        have J5 := J2.keep (w' := W5) (mv5 J2.blk.kind (by decide))
        have kM5 : Blk W5 gm 33 _ := (mv5 kM2.kind (by decide)).trans kM2
        have kk5 : Blk W5 w.heap.size 23 _ := (mv5 kk2.kind (by decide)).trans kk2
        have ks5 : Blk W5 (w.heap.size + 1) 41 _ := (mv5 ks2.kind (by decide)).trans ks2
        have ow5 := own_keep (w' := W5) ow2 (fun b e => mv5 (own_kind ow2 e) (by decide))
        have oo5 := own_keep (w' := W5) oo2 (fun b e => mv5 (own_kind oo2 e) (by decide))
        have hy2 := y2.size
        have y5 : Below w.heap.size w W5 := y2.grown hg3 hy2 (fun k e => by injection e with e; omega)
        have hT1 : ∀ x ∈ (List.replicate 12 zeros192).set s (b.set ix u), x.length = 192 := fun x hx => by
          rcases List.mem_or_eq_of_mem_set hx with h | h
          · rw [(List.mem_replicate.1 h).2]; exact List.length_replicate
          · rw [h]; exact hbl2
        have hT2 : ∀ p ∈ ws.filter (fun p => p.1 != s), p.2.length = 192 := fun p hp => h192 p (List.mem_filter.1 hp).1
        have hT3 : (ws.filter fun p => p.1 != s).length ≤ 1000 := Nat.le_trans (List.length_filter_le _ _) (by omega)
        have hdn := World.ownsRow_nil W5 0 142 2
        have HM := Lib.hid (And.intro hT1 (And.intro hT2 hT3))
        have HPQ := Lib.hid (And.intro hws hbl2)
        clear mv5 J2 kM2 kk2 ks2 ow2 oo2 y2 hT1 hT2 hT3 hg3 hdn
        go_wp2_with (first | (go_at_call 23; rw [← HW5.out]; refine htam.mono ?_; rintro e w6 ⟨rfl, D6, O6⟩; clear htam; have kM6 := O6.blk kM5 (.inr (by decide)); have ow6 := O6.own ow5 (.inr (by decide)); have hcv6 := hst2 w6 (O6.own oB (.inr (by decide)))) | ((with_reducible refine wpList_load_blk (o := ⟨some 161, _, _, _, _, _⟩) rfl 33 _ rfl gm rfl 33 _ _ kM6 Tryz.underlying33 rfl (by kernel_rfl) ?_)) | (go_at_call 24; refine (hrt w6 (World.ownsRow_nil _ _ _ _) ow6).mono ?_; rintro e w7 ⟨A1, c1, A2, c2, rfl, o71, o72, b7⟩; have kM7 := kM6.below b7 kM6.lt) | ((with_reducible refine wpList_store_blk (o := ⟨none, .store 33 (.tmp 21) (.tmp 166), _, _, _, _⟩) rfl 33 (.tmp 21) (.tmp 166) rfl gm #[.int .i64 12, .slice A1 1 c1, .slice A2 (ws.filter fun p => p.1 != s).length c2, .int .i64 (-1), .bool false, .slice Ao cc co] rfl rfl 33 _ kM7 (by kernel_rfl) (by simp) (by simp [Value.oneCell']) ?_); intro w8 k8 g8 s8))
        obtain ⟨hT1, hT2, hT3⟩ := HM.out
        have hbl2 := HPQ.out.2
        have z6 := O6.size
        have z7 := b7.size
        have z8 := g8.size
        have hj5 := J5.blk.lt
        have nj : gm ≠ gj := fun e => by rw [e] at kM5; exact absurd (kM5.kind.uniq J5.blk.kind) (by decide)
        have mv8 : ∀ {b : Nat} {t : TypeId}, Kind W5 b t → t ∉ wet → t ≠ 33 → w8.heap[b]? = W5.heap[b]? := fun {b t} hK h1 h2 => (g8.block b (by have := hK.lt; omega) (fun e => by injection e with e; subst e; exact h2 (hK.uniq kM5.kind))).trans ((b7.block b (by have := hK.lt; omega)).trans (O6.kind hK (.inr h1)))
        have J8 := J5.keep (w' := w8) ((g8.block gj (by omega) (fun e => by injection e with e; exact nj e.symm)).trans ((b7.block gj (by omega)).trans (O6.block gj hj5 (.inl fun h => h.2 rfl))))
        have kk8 : Blk w8 w.heap.size 23 _ := (mv8 kk5.kind (by decide) (by decide)).trans kk5
        have ks8 : Blk w8 (w.heap.size + 1) 41 _ := (mv8 ks5.kind (by decide) (by decide)).trans ks5
        have oo8 := own_keep (w' := w8) oo5 (fun b e => mv8 (own_kind oo5 e) (by decide) (by decide))
        have kM7' : Kind w7 gm 33 := kM7.kind
        have od8 := own_keep (w' := w8) (ownsRow_lower o71 (Nat.zero_le _)) (fun b e => g8.block b (World.ownsRow.lt o71 b e).2 (fun h => by injection h with h; subst h; exact absurd ((own_kind o71 e).uniq kM7') (by decide)))
        have ow8 := own_keep (w' := w8) (ownsRow_lower o72 (Nat.zero_le _)) (fun b e => g8.block b (World.ownsRow.lt o72 b e).2 (fun h => by injection h with h; subst h; exact absurd ((own_kind o72 e).uniq kM7') (by decide)))
        have D8 := (D6.under b7).beside g8 (fun j e => ⟨_, by injection e with e; subst e; exact kM7', by decide, by decide⟩)
        have hy5 := y5.size
        have y8 : Below w.heap.size w w8 := ((y5.trans (O6.below hy5 (fun k h => h.1))).trans (b7.mono (by omega))).grown g8 (by omega) (fun k e => by injection e with e; have := kM5.lt; omega)
        exact HCC.out _ _ _ _ _ _ _ _ _ _ _ _ _ _ _ _ _ _ _ _ _ _ _ _ _ ⟨⟨(List.replicate 12 zeros192).set s (b.set ix u), ws.filter fun p => p.1 != s, -1, false, op⟩, [(s, b.set ix u)], A1, A2, Ao, c1, c2, cc, co, xo, D8, by rw [List.length_set]; exact List.length_replicate, hT1, hT2, hT3, by show op ≤ 1000; omega, by show 1 ≤ 1; omega, fun p hp => by rw [List.mem_singleton.1 hp]; exact hbl2, fun j hj => tam_rel s _ hs12 j hj, rfl, rfl, k8, od8, ow8, oo8, hxo, by omega, J8, kk8, ks8, y8⟩
      · have hcb : (code == 0) = false := beq_eq_false_iff_ne.2 hc0
        clear hc0
        go_wp2
        exact HCC.out _ _ _ _ _ _ _ _ _ _ _ _ _ _ _ _ _ _ _ _ _ _ _ _ _ ⟨D2, [], none, Aw, Ao, 0, cw, cc, co, xo, D2r, by rw [dp]; exact List.length_replicate, fun b hb => by rw [dp] at hb; rw [(List.mem_replicate.1 hb).2]; exact List.length_replicate, fun p hp => h192 p (by rw [← dw]; exact hp), by rw [dw]; omega, by omega, by show 0 ≤ 1; omega, fun p hp => (by cases hp), fun j hj => by rw [dp]; exact dkL_rel ws j hj, dl, dd, (by rw [dw, hws]; exact kM2), World.ownsRow_nil _ _ _ _, by rw [dw, hws]; exact ow2, oo2, hxo, by omega, J2, kk2, ks2, y2⟩
end Go.Proofs.YtkhebllmnagkmaaGreatDoor
