/- Contracts and lemmas under the statements of this seat, one behind the other. Conditions: what each names. -/
import Derived.Test.YtkhebllmnagkmaaGreatDoorG19
/- Contract of the reference's block of SHA-256. Conditions: what it names. -/
namespace Go.Proofs.YtkhebllmnagkmaaGreatDoor
open Go.RowKit
set_option linter.unusedVariables false

def part64 (p : List UInt8) (a : Nat) : List UInt8 := (p.drop a).take 64
theorem part64_length (p : List UInt8) (a : Nat) (h : a + 64 ≤ p.length) : (part64 p a).length = 64 := by unfold part64; rw [List.length_take, List.length_drop]; omega
theorem part64_get (p : List UInt8) (a i : Nat) (h : i < 64) : (part64 p a)[i]? = p[a + i]? := by
  unfold part64
  rw [List.getElem?_take, if_pos h, List.getElem?_drop]
theorem be4_part (p : List UInt8) (a t b0 b1 b2 b3 : Nat) (ht : t < 16) (ha : a + 64 ≤ p.length) (f0 : p[a + 4 * t + 0]?.map (·.toNat) = some b0) (f1 : p[a + 4 * t + 1]?.map (·.toNat) = some b1) (f2 : p[a + 4 * t + 2]?.map (·.toNat) = some b2) (f3 : p[a + 4 * t + 3]?.map (·.toNat) = some b3) :
    be (chunk4 (part64 p a) t) = ((b0 * 256 + b1) * 256 + b2) * 256 + b3 := by
  have hl := part64_length p a ha
  have key : ∀ j (hj : j < 4) b, p[a + 4 * t + j]?.map (·.toNat) = some b → ((part64 p a)[4 * t + j]'(by omega)).toNat = b := fun j hj b hb => by
    have h := part64_get p a (4 * t + j) (by omega)
    rw [List.getElem?_eq_getElem (by omega)] at h
    rw [← Nat.add_assoc] at h
    rw [← h] at hb
    simpa using hb
  have h4 : (chunk4 (part64 p a) t).take 4 = chunk4 (part64 p a) t := List.take_of_length_le (by unfold chunk4; rw [List.length_take]; omega)
  rw [← h4, chunk4_succ _ t 3 (by omega) (by omega), be_snoc, chunk4_succ _ t 2 (by omega) (by omega), be_snoc, chunk4_succ _ t 1 (by omega) (by omega), be_snoc, chunk4_succ _ t 0 (by omega) (by omega), be_snoc, key 0 (by omega) b0 f0, key 1 (by omega) b1 f1, key 2 (by omega) b2 f2, key 3 (by omega) b3 f3]
  simp [be]
theorem shaRounds_ok (l : List UInt8) (s : Sha) (hs : s.ok) : ∀ t, (shaRounds l s t).ok
  | 0 => hs
  | t + 1 => step_ok _ _ _ (shaRounds_ok l s hs t)
/-- A state of which the words above j are those one ahead. -/
def shiftF (u : Sha) (j q : Nat) : Nat := if j < q then u.list.getD (q - 1) 0 else u.list.getD q 0
theorem shift_start (u : Sha) : fw 8 (shiftF u 7) = shaCells u := by
  show fw 8 (shiftF u 7) = fw 8 (fun q => u.list.getD q 0)
  refine fw_congr fun q hq => ?_
  unfold shiftF
  rw [if_neg (by omega)]
theorem shift_get (u : Sha) (j : Nat) (hj : j < 8) (h0 : 0 < j) : shiftF u j (j - 1) = u.list.getD (j - 1) 0 := by
  unfold shiftF
  rw [if_neg (by omega)]
theorem shift_step (u : Sha) (j : Nat) (h0 : 0 < j) : (fw 8 (shiftF u j)).setIfInBounds j (.int .u32 ((u.list.getD (j - 1) 0 : Nat) : Int)) = fw 8 (shiftF u (j - 1)) := by
  rw [fw_set]
  refine fw_congr fun q _ => ?_
  unfold shiftF
  by_cases h : q = j
  · subst h; rw [if_pos rfl, if_pos (by omega)]
  · rw [if_neg h]
    by_cases h2 : j < q
    · rw [if_pos h2, if_pos (by omega)]
    · rw [if_neg h2, if_neg (by omega)]
theorem shift_fin (U : Sha) (kt wt : Nat) : ((fw 8 (shiftF U 0)).setIfInBounds 4 (.int .u32 (((U.d + U.t1 kt wt) % 4294967296 : Nat) : Int))).setIfInBounds 0 (.int .u32 (((U.t1 kt wt + U.t2) % 4294967296 : Nat) : Int)) = shaCells (U.step kt wt) := by
  obtain ⟨a, b, c, d, e, f, g, h⟩ := U
  rfl
theorem shaAdd_swap (l : List UInt8) (s : Sha) : fw 8 (shaAdd (shaRounds l s 64) s 8) = shaCells (shaMix l s) := by
  rw [show shaCells (shaMix l s) = fw 8 (shaAdd s (shaRounds l s 64) 8) from (sha_fin l s).symm]
  refine fw_congr fun q hq => ?_
  unfold shaAdd
  rw [if_pos hq, if_pos hq, Nat.add_comm]
theorem shaAdd_at (l : List UInt8) (s : Sha) (t : Nat) (h : t = 64) : fw 8 (shaAdd (shaRounds l s t) s 8) = shaCells (shaMix l s) := by
  rw [h]
  exact shaAdd_swap l s
set_option maxRecDepth 100000 in
set_option maxHeartbeats 4000000 in
theorem refBlock_any (s : Sha) (g a c : Nat) (p : List UInt8) (w : World) (hs : s.ok) (ha : a + 64 ≤ p.length) (hp : p.length ≤ 1099511627776) (hr : Reads w w.heap.size 1 (some ⟨g, 0, none⟩) p.length (bs p)) :
    Calls Tryz.prog 92 #[.agg (shaCells s), .slice (some ⟨g, 0, none⟩) p.length c, .int .i64 (a : Int)] w fun e w' => e = .returned (.agg (shaCells (shaMix (part64 p a) s))) ∧ Below w.heap.size w w' := by
  obtain ⟨ad, e, hb, hcell⟩ := hr.2 (by omega)
  injection e with e
  subst e
  have hsz := shaCells_size s
  generalize hS : shaCells s = S at *
  have HS := Lib.hid hS
  clear hS
  go_enter Tryz.func92, Tryz.ntmps92
  go_wp2
  generalize hW : ((w.alloc (Obj.cells S 179)).alloc _).alloc _ = W0
  have yW : Below w.heap.size w W0 := by rw [← hW]; exact (((Below.refl _ _).alloc (Nat.le_refl _) _).alloc (by simp) _).alloc (by simp; omega) _
  have k0 : Blk W0 w.heap.size 179 S := by rw [← hW]; exact ((Blk.new_of rfl rfl).alloc _).alloc _
  have k1 : Blk W0 (w.heap.size + 1) 179 (fw 8 fun _ => 0) := by rw [← hW]; exact (Blk.new_of (by simp) rfl).alloc _
  have k2 : Blk W0 (w.heap.size + 2) 205 (fw 64 (wfirst (part64 p a) 0)) := by rw [← hW]; exact Blk.new_of (by simp) rfl
  clear hW
  go_loopw [8] (fun ix wr => ∃ t : Nat, t ≤ 16 ∧ ix = .int .i64 t ∧ Blk wr (w.heap.size + 2) 205 (fw 64 (wfirst (part64 p a) t)) ∧ Blk wr (w.heap.size + 1) 179 (fw 8 fun _ => 0) ∧ Blk wr w.heap.size 179 S ∧ Below w.heap.size w wr) (fun ix _ => 16 - (intOf ix).toNat)
  case atStart => exact ⟨0, by omega, rfl, k2, k1, k0, yW⟩
  case round =>
    clear k0 k1 k2 yW
    obtain ⟨t, ht, rfl, k2, k1, k0, hw⟩ := hrel
    by_cases hlt : t < 16
    · obtain ⟨q, hq⟩ : ∃ q : Nat, q = a + 4 * t := ⟨_, rfl⟩
      have hqi : (a : Int) + 4 * (t : Int) = (q : Int) := by omega
      have hql : q + 4 ≤ p.length := by omega
      have byte : ∀ j, j < 4 → ∃ b : Nat, b < 256 ∧ wr.cell? ⟨g, q + j, none⟩ = some (.int .u8 (b : Int)) ∧ p[q + j]?.map (·.toNat) = some b := fun j hj => by
        have hpj : p[q + j]? = some (p[q + j]'(by omega)) := List.getElem?_eq_getElem (by omega)
        have hc := hcell (q + j) _ (by rw [bs_get, hpj]; rfl)
        rw [add_head] at hc
        exact ⟨_, UInt8.toNat_lt _, (hw.cell (p := ⟨g, q + j, none⟩) hb).trans hc, by rw [hpj]; rfl⟩
      obtain ⟨b0, l0, c0, f0⟩ := byte 0 (by omega)
      obtain ⟨b1, l1, c1, f1⟩ := byte 1 (by omega)
      obtain ⟨b2, l2, c2, f2⟩ := byte 2 (by omega)
      obtain ⟨b3, l3, c3, f3⟩ := byte 3 (by omega)
      rw [Nat.add_zero] at c0
      have ct := (k2.cell t).trans (fw_get 64 _ t (by omega))
      have ft := k2.frozen t
      have m1 : IntKind.i64.wrap (4 * (t : Int)) = 4 * (t : Int) := by rw [IntKind.wrap_i64]; omega
      have m2 : IntKind.i64.wrap (q : Int) = (q : Int) := by rw [IntKind.wrap_i64]; omega
      have m3 : IntKind.i64.wrap ((q : Int) + 1) = (q : Int) + 1 := by rw [IntKind.wrap_i64]; omega
      have m4 : IntKind.i64.wrap ((q : Int) + 2) = (q : Int) + 2 := by rw [IntKind.wrap_i64]; omega
      have m5 : IntKind.i64.wrap ((q : Int) + 3) = (q : Int) + 3 := by rw [IntKind.wrap_i64]; omega
      have n1 : ((q : Int) + 1).toNat = q + 1 := by omega
      have n2 : ((q : Int) + 2).toNat = q + 2 := by omega
      have n3 : ((q : Int) + 3).toNat = q + 3 := by omega
      have u0 : (0 : Int) ≤ (q : Int) ∧ (q : Int) < (p.length : Int) := by omega
      have u1 : (0 : Int) ≤ (q : Int) + 1 ∧ (q : Int) + 1 < (p.length : Int) := by omega
      have u2 : (0 : Int) ≤ (q : Int) + 2 ∧ (q : Int) + 2 < (p.length : Int) := by omega
      have u3 : (0 : Int) ≤ (q : Int) + 3 ∧ (q : Int) + 3 < (p.length : Int) := by omega
      have t1 : (0 : Int) ≤ (t : Int) := by omega
      have t2 : (t : Int) < 64 := by omega
      generalize wfirst (part64 p a) t t = v0 at *
      have HQ := Lib.hid hq
      have F0 := Lib.hid f0
      have F1 := Lib.hid f1
      have F2 := Lib.hid f2
      have F3 := Lib.hid f3
      clear hq f0 f1 f2 f3 byte hcell
      have r0 : IntKind.u32.wrap (b0 : Int) = (b0 : Int) := by rw [IntKind.wrap_u32]; omega
      have r1 : IntKind.u32.wrap (b1 : Int) = (b1 : Int) := by rw [IntKind.wrap_u32]; omega
      have r2 : IntKind.u32.wrap (b2 : Int) = (b2 : Int) := by rw [IntKind.wrap_u32]; omega
      have r3 : IntKind.u32.wrap (b3 : Int) = (b3 : Int) := by rw [IntKind.wrap_u32]; omega
      have z0 : IntKind.u32.wrap ((b0 : Int) * 16777216) = (b0 : Int) * 16777216 := by rw [IntKind.wrap_u32]; omega
      have z1 : IntKind.u32.wrap ((b1 : Int) * 65536) = (b1 : Int) * 65536 := by rw [IntKind.wrap_u32]; omega
      have z2 : IntKind.u32.wrap ((b2 : Int) * 256) = (b2 : Int) * 256 := by rw [IntKind.wrap_u32]; omega
      have z3 : IntKind.u32.wrap ((b0 : Int) * 16777216 + (b1 : Int) * 65536) = (b0 : Int) * 16777216 + (b1 : Int) * 65536 := by rw [IntKind.wrap_u32]; omega
      have z4 : IntKind.u32.wrap ((b0 : Int) * 16777216 + (b1 : Int) * 65536 + (b2 : Int) * 256) = (b0 : Int) * 16777216 + (b1 : Int) * 65536 + (b2 : Int) * 256 := by rw [IntKind.wrap_u32]; omega
      have z5 : IntKind.u32.wrap ((b0 : Int) * 16777216 + (b1 : Int) * 65536 + (b2 : Int) * 256 + (b3 : Int)) = (b0 : Int) * 16777216 + (b1 : Int) * 65536 + (b2 : Int) * 256 + (b3 : Int) := by rw [IntKind.wrap_u32]; omega
      go_wp2
      have hgB : g ≠ w.heap.size + 2 := by omega
      have c0 : wr.drew.cell? ⟨g, q, none⟩ = some (.int .u8 (b0 : Int)) := c0
      have c1 : wr.drew.cell? ⟨g, q + 1, none⟩ = some (.int .u8 (b1 : Int)) := c1
      have c2 : wr.drew.cell? ⟨g, q + 2, none⟩ = some (.int .u8 (b2 : Int)) := c2
      have c3 : wr.drew.cell? ⟨g, q + 3, none⟩ = some (.int .u8 (b3 : Int)) := c3
      have ct : wr.drew.cell? ⟨w.heap.size + 2, t, none⟩ = some (.int .u32 (v0 : Int)) := ct
      have ft : wr.drew.frozen? ⟨w.heap.size + 2, t, none⟩ = false := ft
      have hk : ∀ (v : Value), (wr.drew.setCell ⟨w.heap.size + 2, t, none⟩ v).cell? ⟨g, q, none⟩ = some (.int .u8 (b0 : Int)) ∧ (wr.drew.setCell ⟨w.heap.size + 2, t, none⟩ v).cell? ⟨g, q + 1, none⟩ = some (.int .u8 (b1 : Int)) ∧ (wr.drew.setCell ⟨w.heap.size + 2, t, none⟩ v).cell? ⟨g, q + 2, none⟩ = some (.int .u8 (b2 : Int)) ∧ (wr.drew.setCell ⟨w.heap.size + 2, t, none⟩ v).cell? ⟨g, q + 3, none⟩ = some (.int .u8 (b3 : Int)) := fun v => ⟨(World.cell?_of_block (a := ⟨g, q, none⟩) (Below.heap_setCell wr.drew ⟨w.heap.size + 2, t, none⟩ v g hgB)).trans c0, (World.cell?_of_block (a := ⟨g, q + 1, none⟩) (Below.heap_setCell wr.drew ⟨w.heap.size + 2, t, none⟩ v g hgB)).trans c1, (World.cell?_of_block (a := ⟨g, q + 2, none⟩) (Below.heap_setCell wr.drew ⟨w.heap.size + 2, t, none⟩ v g hgB)).trans c2, (World.cell?_of_block (a := ⟨g, q + 3, none⟩) (Below.heap_setCell wr.drew ⟨w.heap.size + 2, t, none⟩ v g hgB)).trans c3⟩
      go_region_held3 (fun w' => w'.cell? ⟨g, q, none⟩ = some (.int .u8 (b0 : Int)) ∧ w'.cell? ⟨g, q + 1, none⟩ = some (.int .u8 (b1 : Int)) ∧ w'.cell? ⟨g, q + 2, none⟩ = some (.int .u8 (b2 : Int)) ∧ w'.cell? ⟨g, q + 3, none⟩ = some (.int .u8 (b3 : Int))) (first | (exact ⟨c0, c1, c2, c3⟩) | (exact hk _)) (fail)
      clear hk c0 c1 c2 c3 ct ft m1 m2 m3 m4 m5 n1 n2 n3 r0 r1 r2 r3 z0 z1 z2 z3 z4 z5
      go_wp2
      go_roundw
      case rel =>
        have hbe := be4_part p a t b0 b1 b2 b3 hlt ha (by rw [← HQ.out]; exact F0.out) (by rw [← HQ.out]; exact F1.out) (by rw [← HQ.out]; exact F2.out) (by rw [← HQ.out]; exact F3.out)
        have e : (b0 : Int) * 16777216 + (b1 : Int) * 65536 + (b2 : Int) * 256 + (b3 : Int) = ((be (chunk4 (part64 p a) t) : Nat) : Int) := by rw [hbe]; omega
        have h := k2.set_ t (.int .u32 ((be (chunk4 (part64 p a) t) : Nat) : Int))
        rw [fw_set, show fw 64 (fun i => if i = t then be (chunk4 (part64 p a) t) else wfirst (part64 p a) t i) = fw 64 (wfirst (part64 p a) (t + 1)) from fw_congr (fun i _ => by
          unfold wfirst
          by_cases h2 : i = t
          · subst h2; rw [if_pos rfl, if_pos (by omega)]
          · rw [if_neg h2]
            by_cases h3 : i < t
            · rw [if_pos h3, if_pos (by omega)]
            · rw [if_neg h3, if_neg (by omega)])] at h
        rw [e]
        exact ⟨t + 1, by omega, by go_num, h.drew, (k1.far (p := ⟨w.heap.size + 2, t, none⟩) (by simp) _).drew, (k0.far (p := ⟨w.heap.size + 2, t, none⟩) (by simp) _).drew, (hw.setCell (p := ⟨w.heap.size + 2, t, none⟩) (by simp) _).drew⟩
      case measure => simp [intOf]; omega
    · have e16 : t = 16 := by omega
      rw [e16] at k2
      clear e16
      rw [show fw 64 (wfirst (part64 p a) 16) = fw 64 (fun i => (shaW (part64 p a) 0).getD i 0) from fw_congr (fun i hi => by simp [wfirst, shaW, List.getD]; by_cases h : i < 16 <;> simp [h])] at k2
      go_wp2
      clear hcell hlt ht
      obtain ⟨wo, rfl⟩ : ∃ wo : World, wo = wr := ⟨_, rfl⟩
      generalize hl : part64 p a = l at *
      go_loopw [9, 10, 11] (fun ix _ _ wr => ∃ i : Nat, 16 ≤ i ∧ i ≤ 64 ∧ ix = .int .i64 i ∧ Blk wr (w.heap.size + 2) 205 (fw 64 fun q => (shaW l (i - 16)).getD q 0) ∧ Blk wr (w.heap.size + 1) 179 (fw 8 fun _ => 0) ∧ Blk wr w.heap.size 179 S ∧ Below w.heap.size w wr) (fun ix _ _ _ => 64 - (intOf ix).toNat)
      case atStart => exact ⟨16, by omega, by omega, rfl, k2, k1, k0, hw⟩
      case round =>
        clear k0 k1 k2 hw
        obtain ⟨i, hi16, hi64, rfl, k2, k1, k0, hw⟩ := hrel
        by_cases hml : i < 64
        · have x15 := (k2.cell (i - 15)).trans (fw_get 64 _ (i - 15) (by omega))
          have x2 := (k2.cell (i - 2)).trans (fw_get 64 _ (i - 2) (by omega))
          have x16 := (k2.cell (i - 16)).trans (fw_get 64 _ (i - 16) (by omega))
          have x7 := (k2.cell (i - 7)).trans (fw_get 64 _ (i - 7) (by omega))
          have xi := (k2.cell i).trans (fw_get 64 _ i (by omega))
          have hfi := k2.frozen i
          have hlt : ∀ q, (shaW l (i - 16)).getD q 0 < 4294967296 := shaW_lt l (i - 16)
          have l15 := hlt (i - 15)
          have l2 := hlt (i - 2)
          have l16 := hlt (i - 16)
          have l7 := hlt (i - 7)
          have hnx := shaW_next l i hi16
          rw [show shaNext (shaW l (i - 16)) = ((shaW l (i - 16)).getD (i - 16) 0 + sig0 ((shaW l (i - 16)).getD (i - 15) 0) + (shaW l (i - 16)).getD (i - 7) 0 + sig1 ((shaW l (i - 16)).getD (i - 2) 0)) % 4294967296 by unfold shaNext; rw [shaW_length, show 16 + (i - 16) = i by omega]] at hnx
          have HN := Lib.hid hnx
          clear hnx hlt
          generalize (shaW l (i - 16)).getD (i - 15) 0 = a15 at *
          generalize (shaW l (i - 16)).getD (i - 2) 0 = a2 at *
          generalize (shaW l (i - 16)).getD (i - 16) 0 = a16 at *
          generalize (shaW l (i - 16)).getD (i - 7) 0 = a7 at *
          generalize (shaW l (i - 16)).getD i 0 = ai at *
          have t15 : ((i : Int) - 15).toNat = i - 15 := by omega
          have t2 : ((i : Int) - 2).toNat = i - 2 := by omega
          have t16 : ((i : Int) - 16).toNat = i - 16 := by omega
          have t7 : ((i : Int) - 7).toNat = i - 7 := by omega
          go_wp2
          go_quiet ((go_at_call 115; exact quiet_left (refRight_int a15 _ _ l15 (by omega) (by omega))))
          go_wp2
          obtain ⟨w1, hw1⟩ : ∃ w1 : World, w1 = wr.drewN nq := ⟨_, rfl⟩
          rw [← hw1]
          have x2 : w1.cell? ⟨w.heap.size + 2, i - 2, none⟩ = some (.int .u32 (a2 : Int)) := by rw [hw1]; exact x2
          have x16 : w1.cell? ⟨w.heap.size + 2, i - 16, none⟩ = some (.int .u32 (a16 : Int)) := by rw [hw1]; exact x16
          have x7 : w1.cell? ⟨w.heap.size + 2, i - 7, none⟩ = some (.int .u32 (a7 : Int)) := by rw [hw1]; exact x7
          have k2 : Blk w1 (w.heap.size + 2) 205 (fw 64 fun q => (shaW l (i - 16)).getD q 0) := by rw [hw1]; exact k2
          have k1 : Blk w1 (w.heap.size + 1) 179 (fw 8 fun _ => 0) := by rw [hw1]; exact k1
          have k0 : Blk w1 w.heap.size 179 S := by rw [hw1]; exact k0
          have hw : Below w.heap.size w w1 := by rw [hw1]; exact below_drewN hw nq
          clear hw1 x15 xi hfi
          go_quiet ((go_at_call 115; exact quiet_left (refRight_int a2 _ _ l2 (by omega) (by omega))))
          go_wp2
          rename_i nq0 _
          obtain ⟨w2, hw2⟩ : ∃ w2 : World, w2 = (w1.drewN nq).drew := ⟨_, rfl⟩
          have x16 : w2.cell? ⟨w.heap.size + 2, i - 16, none⟩ = some (.int .u32 (a16 : Int)) := by rw [hw2]; exact x16
          have x7 : w2.cell? ⟨w.heap.size + 2, i - 7, none⟩ = some (.int .u32 (a7 : Int)) := by rw [hw2]; exact x7
          have k2 : Blk w2 (w.heap.size + 2) 205 (fw 64 fun q => (shaW l (i - 16)).getD q 0) := by rw [hw2]; exact k2
          have k1 : Blk w2 (w.heap.size + 1) 179 (fw 8 fun _ => 0) := by rw [hw2]; exact k1
          have k0 : Blk w2 w.heap.size 179 S := by rw [hw2]; exact k0
          have hw : Below w.heap.size w w2 := by rw [hw2]; exact (below_drewN hw nq).drew
          refine wp_region_still_tail 15 (by kernel_rfl) (by kernel_rfl) ?_
          simp only [List.take_succ_cons, List.take_zero, List.drop_succ_cons, List.drop_zero]
          change wpStill _ _ (w1.drewN nq).drew _ _ _
          rw [← hw2]
          have HW := Lib.hid hw2
          clear hw2 x2
          have s16 : IntKind.i64.wrap ((i : Int) - 16) = (i : Int) - 16 := IntWalk.i64_in _ (by omega)
          have s7 : IntKind.i64.wrap ((i : Int) - 7) = (i : Int) - 7 := IntWalk.i64_in _ (by omega)
          have b16 : (16 : Int) ≤ (i : Int) := by omega
          have b7 : (7 : Int) ≤ (i : Int) := by omega
          have c16 : (i : Int) - 16 < 64 := by omega
          have c7 : (i : Int) - 7 < 64 := by omega
          have ci : (i : Int) < 64 := by omega
          have ti : ((i : Int)).toNat = i := by omega
          repeat still_step
          refine wpStill_nil ?_
          change wpList _ _ _ _ _ (w1.drewN nq).drew
          rw [← HW.out]
          clear s16 s7 b16 b7 c16 c7 ci ti
          have zfi : w2.frozen? ⟨w.heap.size + 2, i, none⟩ = false := k2.frozen i
          have zci : w2.cell? ⟨w.heap.size + 2, i, none⟩ = _ := (k2.cell i).trans (fw_get 64 _ i (by omega))
          go_wp2
          go_roundw
          case rel =>
            refine ⟨i + 1, by omega, by omega, by go_num, ?_, k1.far (p := ⟨w.heap.size + 2, i, none⟩) (by simp) _, k0.far (p := ⟨w.heap.size + 2, i, none⟩) (by simp) _, hw.setCell (show w.heap.size ≤ w.heap.size + 2 by omega) _⟩
            have h := k2.set_ i (.int .u32 (((a16 + sig0 a15 + a7 + sig1 a2) % 4294967296 : Nat) : Int))
            rw [HN.out] at h
            rw [sig0_eq a15 l15, sig1_eq a2 l2]
            simpa using h
          case measure => simp [intOf]; omega
        · have e64 : i = 64 := by omega
          rw [e64] at k2
          clear e64
          have k2 : Blk wr (w.heap.size + 2) 205 (shaWords l) := by
            rw [show shaWords l = fw 64 (fun q => (shaW l (64 - 16)).getD q 0) from fw_congr (fun q _ => by unfold shaWord; rfl)]
            exact k2
          have hiK := info154
          have h1K := fw_one 64 shaK
          have h0K : (fw 64 (fun _ => 0)).size = (fw 64 shaK).size := by rw [fw_size, fw_size]
          have hci : (Tryz.prog.info? 179).map (·.size) = some (shaCells s).size := by rw [shaCells_size]; kernel_rfl
          have hc1 := shaCells_one s
          have hc0 : (fw 8 fun _ => 0).size = (shaCells s).size := rfl
          rw [HS.out] at hci hc1 hc0
          have hg2 := k2.lt
          have HC0 := Lib.hid hc0
          have H0K := Lib.hid h0K
          have HIK := Lib.hid hiK
          have HCI := Lib.hid hci
          clear hc0 h0K hiK hci
          have HSZ := Lib.hid hsz
          clear hsz
          have hfk : ∀ i, i < 64 → (fw 64 shaK)[i]? = some (.int .u32 (shaK i : Int)) := fun i hi => fw_get 64 _ i hi
          generalize hKK : fw 64 shaK = KK at *
          have HKK := Lib.hid hKK
          clear hKK
          have hfw : ∀ i, i < 64 → (shaWords l)[i]? = some (.int .u32 (shaWord l i : Int)) := fun i hi => fw_get 64 _ i hi
          generalize shaWords l = SW at *
          go_wp2_with (first | (go_at_call 116; refine (refRounds_any _).mono ?_; rw [HKK.out]; rintro e w3 ⟨rfl, b3⟩; have q2 := k2.below b3 k2.lt; have q1 := k1.below b3 k1.lt; have q0 := k0.below b3 k0.lt; have y3 := hw.trans (b3.mono hw.size); have hs3 := b3.size) | ((with_reducible refine wpList_store_blk (o := ⟨none, .store 205 (.tmp 12) (.tmp 124), _, _, _, _⟩) rfl 205 (.tmp 12) (.tmp 124) rfl w3.heap.size KK rfl rfl 205 (fw 64 (fun _ => 0)) (Blk.new_of rfl rfl) HIK.out H0K.out h1K ?_); intro w4 k4 g4 s4; have S4 := Lib.hid s4; clear s4; have p2 := (q2.alloc (.cells (fw 64 fun _ => 0) 205)).grown g4 (by intro e; injection e with e; have := q2.lt; omega); have p1 := (q1.alloc (.cells (fw 64 fun _ => 0) 205)).grown g4 (by intro e; injection e with e; have := q1.lt; omega); have p0 := (q0.alloc (.cells (fw 64 fun _ => 0) 205)).grown g4 (by intro e; injection e with e; have := q0.lt; omega)) | ((with_reducible refine wpList_load_blk (o := ⟨some 125, _, _, _, _, _⟩) rfl 179 _ rfl w.heap.size rfl 179 _ _ p0 Tryz.underlying179 rfl HCI.out ?_)) | ((with_reducible refine wpList_store_blk (o := ⟨none, .store 179 (.tmp 13) (.tmp 125), _, _, _, _⟩) rfl 179 (.tmp 13) (.tmp 125) rfl w4.heap.size S rfl rfl 179 (fw 8 (fun _ => 0)) (Blk.new_of rfl rfl) HCI.out HC0.out hc1 ?_); intro w6 k6 g6 s6; have S6 := Lib.hid s6; clear s6))
          obtain ⟨gk, hgk⟩ : ∃ gk, gk = w3.heap.size := ⟨_, rfl⟩
          obtain ⟨gv, hgv⟩ : ∃ gv, gv = w4.heap.size := ⟨_, rfl⟩
          have e4 : w4.heap.size = w3.heap.size + 1 := by rw [S4.out, size_alloc']
          have gkl : w.heap.size + 3 ≤ gk := by omega
          have gvl : gk < gv := by omega
          have o2 := (p2.alloc (.cells (fw 8 fun _ => 0) 179)).grown g6 (by intro e; injection e with e; have := p2.lt; omega)
          have o1 := (p1.alloc (.cells (fw 8 fun _ => 0) 179)).grown g6 (by intro e; injection e with e; have := p1.lt; omega)
          have o0 := (p0.alloc (.cells (fw 8 fun _ => 0) 179)).grown g6 (by intro e; injection e with e; have := p0.lt; omega)
          have ok := (k4.alloc (.cells (fw 8 fun _ => 0) 179)).grown g6 (by intro e; injection e with e; omega)
          have y4 : Below w.heap.size w w4 := (y3.alloc y3.size _).grown g4 (by rw [size_alloc']; have := y3.size; omega) (fun k e => by injection e with e; have := y3.size; omega)
          have y6 : Below w.heap.size w w6 := (y4.alloc y4.size _).grown g6 (by rw [size_alloc']; have := y4.size; omega) (fun k e => by injection e with e; have := y4.size; omega)
          rw [← hgk] at ok
          rw [← hgv] at k6
          rw [← hgk, ← hgv]
          clear g6 g4 S4 S6 k4 p0 p1 p2 q0 q1 q2 y3 y4 e4 hgk hgv hs3 k2 k1 k0 hw
          obtain ⟨wp, rfl⟩ : ∃ wp : World, wp = w6 := ⟨_, rfl⟩
          go_loopw [14] (fun ix wr => ∃ (t : Nat) (u : Sha), t ≤ 64 ∧ u = shaRounds l s t ∧ u.ok ∧ ix = .int .i64 t ∧ Blk wr gv 179 (shaCells u) ∧ Blk wr gk 205 KK ∧ Blk wr (w.heap.size + 2) 205 SW ∧ Blk wr (w.heap.size + 1) 179 (fw 8 fun _ => 0) ∧ Blk wr w.heap.size 179 S ∧ Below w.heap.size w wr) (fun ix _ => 64 - (intOf ix).toNat)
          case atStart => exact ⟨0, s, by omega, rfl, hs, rfl, by rw [← HS.out] at k6; exact k6, ok, o2, o1, o0, y6⟩
          case round =>
            clear k6 ok o2 o1 o0 y6
            obtain ⟨t, u, ht, hu, hok, rfl, kv, kk, kw, kr, kh, hw⟩ := hrel
            by_cases hlt : t < 64
            · have hsr : shaRounds l s (t + 1) = u.step (shaK t) (shaWord l t) := by rw [hu]; exact rfl
              have HUU := Lib.hid hu
              clear hu
              have ck := (kk.cell t).trans (hfk t hlt)
              have cw := (kw.cell t).trans (hfw t hlt)
              have lk := shaK_lt t
              have lw := shaWord_lt l t
              generalize shaWord l t = wt at *
              generalize shaK t = kt at *
              have HSR := Lib.hid hsr
              have HFK := Lib.hid hfk
              have HFW := Lib.hid hfw
              clear hsr hfk hfw
              obtain ⟨U, hU⟩ : ∃ U, U = u := ⟨_, rfl⟩
              rw [← hU] at HSR
              have E1 := sha_t1 u kt wt hok
              have E2 := sha_t2 u hok
              rw [← hU] at E1 E2
              have HOK := Lib.hid hok
              rw [← hU] at HOK
              obtain ⟨sa, sb, sc, sd, se, sf, sg, sh⟩ := u
              obtain ⟨la, lb, lc, ld, le, lf, lg, lh⟩ := hok
              simp only at la lb lc ld le lf lg lh
              have kU : Blk wr gv 179 (fw 8 (shiftF U 7)) := by rw [shift_start, hU]; exact kv
              have c0 : wr.cell? ⟨gv, 0, none⟩ = some (.int .u32 (sa : Int)) := kv.cell 0
              have c1 : wr.cell? ⟨gv, 1, none⟩ = some (.int .u32 (sb : Int)) := kv.cell 1
              have c2 : wr.cell? ⟨gv, 2, none⟩ = some (.int .u32 (sc : Int)) := kv.cell 2
              have c4 : wr.cell? ⟨gv, 4, none⟩ = some (.int .u32 (se : Int)) := kv.cell 4
              have c5 : wr.cell? ⟨gv, 5, none⟩ = some (.int .u32 (sf : Int)) := kv.cell 5
              have c6 : wr.cell? ⟨gv, 6, none⟩ = some (.int .u32 (sg : Int)) := kv.cell 6
              have c7 : wr.cell? ⟨gv, 7, none⟩ = some (.int .u32 (sh : Int)) := kv.cell 7
              have u0 : U.list.getD 0 0 = sa := by rw [hU]; rfl
              have u3 : U.list.getD 3 0 = sd := by rw [hU]; rfl
              have HU := Lib.hid hU
              have HE1 := Lib.hid E1
              have HE2 := Lib.hid E2
              have HU0 := Lib.hid u0
              have HU3 := Lib.hid u3
              clear hU E1 E2 u0 u3
              have ct : (t : Int) < 64 := by omega
              have tt : ((t : Int)).toNat = t := by omega
              go_wp2_with (go_at_call 115; refine (refRight_int _ _ _ (by assumption) (by omega) (by omega)).mono ?_; rintro e w' ⟨rfl, rfl⟩)
              go_quiet (fail)
              obtain ⟨w7, hw7⟩ : ∃ w7 : World, w7 = wr.drewN nq := ⟨_, rfl⟩
              rw [← hw7]
              have c1 : w7.cell? ⟨gv, 1, none⟩ = some (.int .u32 (sb : Int)) := by rw [hw7]; exact c1
              have c2 : w7.cell? ⟨gv, 2, none⟩ = some (.int .u32 (sc : Int)) := by rw [hw7]; exact c2
              have kU : Blk w7 gv 179 (fw 8 (shiftF U 7)) := by rw [hw7]; exact kU
              have kk : Blk w7 gk 205 KK := by rw [hw7]; exact kk
              have kw : Blk w7 (w.heap.size + 2) 205 SW := by rw [hw7]; exact kw
              have kr : Blk w7 (w.heap.size + 1) 179 (fw 8 fun _ => 0) := by rw [hw7]; exact kr
              have kh : Blk w7 w.heap.size 179 S := by rw [hw7]; exact kh
              have hw : Below w.heap.size w w7 := by rw [hw7]; exact below_drewN hw nq
              clear hw7 c0 c4 c5 c6 c7 ck cw kv ct tt
              have hmx : (if IntKind.u32.signed = true then (-1 : Int) else IntKind.u32.max) = IntKind.u32.max := rfl
              have ET : (((sh : Int) + bits .xor .u32 (bits .xor .u32 (rotl se 26 : Int) (rotl se 21 : Int)) (rotl se 7 : Int) + bits .xor .u32 (bits .and .u32 (se : Int) (sf : Int)) (bits .and .u32 (bits .xor .u32 IntKind.u32.max (se : Int)) (sg : Int)) + (kt : Int)) % 4294967296 + (wt : Int)) % 4294967296 = (U.t1 kt wt : Int) := by
                have h := HE1.out
                rw [HU.out] at h
                rw [HU.out]
                simp only [hmx] at h
                generalize bits .xor .u32 (bits .xor .u32 (rotl se 26 : Int) (rotl se 21 : Int)) (rotl se 7 : Int) = x1 at *
                generalize bits .xor .u32 (bits .and .u32 (se : Int) (sf : Int)) (bits .and .u32 (bits .xor .u32 IntKind.u32.max (se : Int)) (sg : Int)) = x2 at *
                omega
              rw [ET]
              clear ET hmx
              have ht1 : U.t1 kt wt < 4294967296 := Nat.mod_lt _ (by omega)
              generalize hT1 : U.t1 kt wt = T1 at *
              have HT1 := Lib.hid hT1
              clear hT1
              go_wp2_with (go_at_call 115; refine (refRight_int _ _ _ (by assumption) (by omega) (by omega)).mono ?_; rintro e w' ⟨rfl, rfl⟩)
              clear c1 c2
              obtain ⟨w8, rfl⟩ : ∃ w8 : World, w8 = w7 := ⟨_, rfl⟩
              go_loopw [22] (fun jx wi => ∃ j : Nat, j ≤ 7 ∧ jx = .int .i64 j ∧ Blk wi gv 179 (fw 8 (shiftF U j)) ∧ Blk wi gk 205 KK ∧ Blk wi (w.heap.size + 2) 205 SW ∧ Blk wi (w.heap.size + 1) 179 (fw 8 fun _ => 0) ∧ Blk wi w.heap.size 179 S ∧ Below w.heap.size w wi) (fun jx _ => (intOf jx).toNat)
              case atStart => exact ⟨7, by omega, rfl, kU, kk, kw, kr, kh, hw⟩
              case round =>
                clear kU kk kw kr kh hw
                obtain ⟨j, hj, rfl, kU, kk, kw, kr, kh, hw⟩ := hrel
                by_cases hj0 : 0 < j
                · have d1 := (kU.cell (j - 1)).trans (fw_get 8 _ (j - 1) (by omega))
                  rw [shift_get U j (by omega) hj0] at d1
                  have d2 := (kU.cell j).trans (fw_get 8 _ j (by omega))
                  have f2 := kU.frozen j
                  have hss := shift_step U j hj0
                  have HSS := Lib.hid hss
                  clear hss
                  generalize U.list.getD (j - 1) 0 = x at *
                  generalize shiftF U j j = y at *
                  have tj : ((j : Int) - 1).toNat = j - 1 := by omega
                  go_wp2
                  go_roundw
                  case rel =>
                    have h := kU.set_ j (.int .u32 (x : Int))
                    rw [HSS.out] at h
                    exact ⟨j - 1, by omega, by go_num, h, kk.far (p := ⟨gv, j, none⟩) (by show gk ≠ gv; omega) _, kw.far (p := ⟨gv, j, none⟩) (by show w.heap.size + 2 ≠ gv; omega) _, kr.far (p := ⟨gv, j, none⟩) (by show w.heap.size + 1 ≠ gv; omega) _, kh.far (p := ⟨gv, j, none⟩) (by show w.heap.size ≠ gv; omega) _, hw.setCell (by show w.heap.size ≤ gv; omega) _⟩
                  case measure => simp [intOf]; omega
                · have ej : j = 0 := by omega
                  rw [ej] at kU
                  clear ej
                  have d4 : wr.cell? ⟨gv, 4, none⟩ = some (.int .u32 (sd : Int)) := by
                    have h := (kU.cell 4).trans (fw_get 8 _ 4 (by omega))
                    rw [show shiftF U 0 4 = U.list.getD 3 0 from rfl, HU3.out] at h
                    exact h
                  have d0 := (kU.cell 0).trans (fw_get 8 _ 0 (by omega))
                  have f4 := kU.frozen 4
                  have f0 := kU.frozen 0
                  go_wp2
                  have EA : ((T1 : Int) + bits .xor .u32 (bits .xor .u32 (rotl sa 30 : Int) (rotl sa 19 : Int)) (rotl sa 10 : Int) + bits .xor .u32 (bits .xor .u32 (bits .and .u32 (sa : Int) (sb : Int)) (bits .and .u32 (sa : Int) (sc : Int))) (bits .and .u32 (sb : Int) (sc : Int))) % 4294967296 = (((T1 + U.t2) % 4294967296 : Nat) : Int) := by
                    have h := HE2.out
                    rw [HU.out] at h
                    rw [HU.out]
                    generalize bits .xor .u32 (bits .xor .u32 (rotl sa 30 : Int) (rotl sa 19 : Int)) (rotl sa 10 : Int) = x1 at *
                    generalize bits .xor .u32 (bits .xor .u32 (bits .and .u32 (sa : Int) (sb : Int)) (bits .and .u32 (sa : Int) (sc : Int))) (bits .and .u32 (sb : Int) (sc : Int)) = x2 at *
                    omega
                  rw [EA]
                  clear EA
                  go_roundw
                  case rel =>
                    have h := (kU.set_ 4 (.int .u32 (((sd + T1) % 4294967296 : Nat) : Int))).set_ 0 (.int .u32 (((T1 + U.t2) % 4294967296 : Nat) : Int))
                    have e := shift_fin U kt wt
                    rw [HT1.out, show U.d = sd by rw [HU.out]] at e
                    rw [e] at h
                    exact ⟨t + 1, _, by omega, HSR.out.symm, step_ok _ _ _ HOK.out, by go_num, by simpa using h, (kk.far (p := ⟨gv, 4, none⟩) (by show gk ≠ gv; omega) _).far (p := ⟨gv, 0, none⟩) (by show gk ≠ gv; omega) _, (kw.far (p := ⟨gv, 4, none⟩) (by show w.heap.size + 2 ≠ gv; omega) _).far (p := ⟨gv, 0, none⟩) (by show w.heap.size + 2 ≠ gv; omega) _, (kr.far (p := ⟨gv, 4, none⟩) (by show w.heap.size + 1 ≠ gv; omega) _).far (p := ⟨gv, 0, none⟩) (by show w.heap.size + 1 ≠ gv; omega) _, (kh.far (p := ⟨gv, 4, none⟩) (by show w.heap.size ≠ gv; omega) _).far (p := ⟨gv, 0, none⟩) (by show w.heap.size ≠ gv; omega) _, (hw.setCell (by show w.heap.size ≤ gv; omega) _).setCell (by show w.heap.size ≤ gv; omega) _⟩
                  case measure => simp [intOf]; omega
            · have e64 : t = 64 := by omega
              have hfin : fw 8 (shaAdd u s 8) = shaCells (shaMix l s) := by rw [hu]; exact shaAdd_at l s t e64
              clear e64 hu
              have hstp := fun i => shaAdd_step u s i
              have k8 : Blk wr gv 179 (fw 8 (shaAdd u s 0)) := kv
              have hsok := hs
              have hh : ∀ i, i < 8 → S[i]? = some (.int .u32 (s.list.getD i 0 : Int)) := by rw [← HS.out]; exact fun i hi => shaCells_get s i hi
              have HH := Lib.hid hh
              have HF := Lib.hid hfin
              have HSTP := Lib.hid hstp
              clear kv hh hfin hstp kk kw
              go_wp2
              obtain ⟨wq, rfl⟩ : ∃ wq : World, wq = wr := ⟨_, rfl⟩
              go_loopw [23] (fun jx wi => ∃ j : Nat, j ≤ 8 ∧ jx = .int .i64 j ∧ Blk wi gv 179 (fw 8 (shaAdd u s j)) ∧ Blk wi (w.heap.size + 1) 179 (fw 8 fun _ => 0) ∧ Blk wi w.heap.size 179 S ∧ Below w.heap.size w wi) (fun jx _ => 8 - (intOf jx).toNat)
              case atStart => exact ⟨0, by omega, rfl, k8, kr, kh, hw⟩
              case round =>
                clear k8 kr kh hw
                obtain ⟨j, hj, rfl, kU, kr, kh, hw⟩ := hrel
                by_cases hj8 : j < 8
                · have hst := HSTP.out j
                  have x1 := (kU.cell j).trans (fw_get 8 _ j hj8)
                  have x2 := (kh.cell j).trans (HH.out j hj8)
                  have HST := Lib.hid hst
                  clear hst
                  generalize shaAdd u s j j = x at *
                  generalize s.list.getD j 0 = y at *
                  have tj : ((j : Int)).toNat = j := by omega
                  have cj : (j : Int) < 8 := by omega
                  go_wp2
                  obtain ⟨w9, hw9⟩ : ∃ w9 : World, w9 = wr.drew := ⟨_, rfl⟩
                  have x1 : w9.cell? ⟨gv, j, none⟩ = some (.int .u32 (x : Int)) := by rw [hw9]; exact x1
                  have x2 : w9.cell? ⟨w.heap.size, j, none⟩ = some (.int .u32 (y : Int)) := by rw [hw9]; exact x2
                  have kU : Blk w9 gv 179 (fw 8 (shaAdd u s j)) := by rw [hw9]; exact kU
                  have kr : Blk w9 (w.heap.size + 1) 179 (fw 8 fun _ => 0) := by rw [hw9]; exact kr
                  have kh : Blk w9 w.heap.size 179 S := by rw [hw9]; exact kh
                  have hw : Below w.heap.size w w9 := by rw [hw9]; exact hw.drew
                  refine wp_region_still_tail 8 (by kernel_rfl) (by kernel_rfl) ?_
                  simp only [List.take_succ_cons, List.take_zero, List.drop_succ_cons, List.drop_zero]
                  change wpStill _ _ wr.drew _ _ _
                  rw [← hw9]
                  have HW := Lib.hid hw9
                  clear hw9
                  repeat still_step
                  refine wpStill_nil ?_
                  change wpList _ _ _ _ _ wr.drew
                  rw [← HW.out]
                  have f1 : w9.frozen? ⟨gv, j, none⟩ = false := kU.frozen j
                  go_wp2
                  go_roundw
                  case rel =>
                    have h := kU.set_ j (.int .u32 (((x + y) % 4294967296 : Nat) : Int))
                    rw [HST.out] at h
                    exact ⟨j + 1, by omega, by go_num, by simpa using h, kr.far (p := ⟨gv, j, none⟩) (by show w.heap.size + 1 ≠ gv; omega) _, kh.far (p := ⟨gv, j, none⟩) (by show w.heap.size ≠ gv; omega) _, hw.setCell (by show w.heap.size ≤ gv; omega) _⟩
                  case measure => simp [intOf]; omega
                · have e8 : j = 8 := by omega
                  rw [e8, HF.out] at kU
                  have z1 : (Tryz.prog.info? 179).map (·.size) = some (shaCells (shaMix l s)).size := by rw [shaCells_size]; kernel_rfl
                  have z2 : (fw 8 fun _ => 0).size = (shaCells (shaMix l s)).size := by rw [fw_size, shaCells_size]
                  have z3 := shaCells_one (shaMix l s)
                  generalize hfe : shaCells (shaMix l s) = fin at *
                  have HFE := Lib.hid hfe
                  clear hfe
                  have Z1 := Lib.hid z1
                  have Z2 := Lib.hid z2
                  clear e8 z1 z2
                  go_wp2_with (first | ((with_reducible refine wpList_load_blk (o := ⟨some 222, _, _, _, _, _⟩) rfl 179 _ rfl gv rfl 179 _ _ kU Tryz.underlying179 rfl Z1.out ?_)) | ((with_reducible refine wpList_store_blk (o := ⟨none, .store 179 (.tmp 6) (.tmp 222), _, _, _, _⟩) rfl 179 (.tmp 6) (.tmp 222) rfl (w.heap.size + 1) fin rfl rfl 179 (fw 8 (fun _ => 0)) kr Z1.out Z2.out z3 ?_); intro w10 k10 g10 s10; have S10 := Lib.hid s10; clear s10))
                  exact ret_cell 6 179 rfl rfl (w.heap.size + 1) 179 _ _ rfl k10 Tryz.underlying179 rfl Z1.out ⟨by rw [hl, HFE.out], hw.grown g10 hw.size (fun k e => by injection e with e; omega)⟩
end Go.Proofs.YtkhebllmnagkmaaGreatDoor
