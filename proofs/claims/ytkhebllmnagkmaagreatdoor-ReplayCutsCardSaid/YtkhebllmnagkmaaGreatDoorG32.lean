/- Contracts and lemmas under the statements of this seat, one behind the other. Conditions: what each names. -/
import Derived.Test.YtkhebllmnagkmaaGreatDoorG31
import Derived.Test.YtkhebllmnagkmaaGreatDoorG25
import Derived.Test.YtkhebllmnagkmaaGreatDoorG17
/- The law ReplayCuts, walked: it returns true. Conditions: the arguments read as a key and a change, the tables lie in memory. -/
namespace Go.Proofs.YtkhebllmnagkmaaGreatDoor
open Go.RowKit
set_option linter.unusedVariables false
attribute [local irreducible] sealB linkB recB

abbrev z32c : List UInt8 := List.replicate 32 0
def dk8 : Dk := ⟨List.replicate 8 zeros192, [], -1, false, 0⟩
def jr8 (key : List UInt8) : Jr := ⟨0, 8, 0, 0, 1, 100, key, List.replicate 32 0⟩
theorem own_spotc {W : World} {base n c : Nat} {A : Option Addr} {e : TypeId} {sz : Nat} {zs : List Value} (h : W.ownsRow base e sz (.slice A n c) n zs) : ∀ ad, A = some ad → ad.spot = none := fun ad e' => by
  rcases h.2 with ⟨hv, _⟩ | ⟨g, cap, cur, hv, _⟩
  · injection hv with hv; rw [hv] at e'; cases e'
  · injection hv with hv; rw [hv] at e'; injection e' with e'; subst e'; rfl
theorem cont_intro {G0 : Prop} (F : Option Addr → Nat → Option Addr → Nat → Option Addr → Nat → Nat → Nat → World → Prop) {G : Option Addr → Nat → Option Addr → Nat → Option Addr → Nat → Nat → Nat → World → Prop} (f : (∀ Am cm A2 c2 B2 d2 pJ pS u, F Am cm A2 c2 B2 d2 pJ pS u → G Am cm A2 c2 B2 d2 pJ pS u) → G0) (p : ∀ Am cm A2 c2 B2 d2 pJ pS u, F Am cm A2 c2 B2 d2 pJ pS u → G Am cm A2 c2 B2 d2 pJ pS u) : G0 := f p
theorem wpAnyH_listed {P : Program} {md : Region.Mode} {ops : Array Oper} {Q : Exit → Act → World → Prop} {S : World → Prop} {fuel : Nat} {l l' : Array Bool} {a : Act} {w : World} (h : l = l') (H : wpAnyH P md ops Q S fuel l' a w) : wpAnyH P md ops Q S fuel l a w := h ▸ H
theorem run_allocJ (ev : Operand → Value) (o : Oper) (ho : o.op = .alloc 44) (w : World) : (execOp ev o).run Tryz.prog w = .ok (.value (.pointer (some ⟨w.heap.size, 0, none⟩))) (w.alloc (.cells Tryz.zeroCells44 44)) := by
  unfold execOp
  simp only [ho]
  go_simp
theorem run_allocD (ev : Operand → Value) (o : Oper) (ho : o.op = .alloc 33) (w : World) : (execOp ev o).run Tryz.prog w = .ok (.value (.pointer (some ⟨w.heap.size, 0, none⟩))) (w.alloc (.cells ([.int .i64 0, .slice none 0 0, .slice none 0 0, .int .i64 0, .bool false, .slice none 0 0] : List Value).toArray 33)) := by
  unfold execOp
  simp only [ho]
  go_simp
theorem chg_rows (l : List Rec) : (chg l).out.length ≤ l.length ∧ ∀ x ∈ (chg l).out, x.length ≤ l.length := by
  refine ⟨chg_len l, ?_⟩
  have h : ∀ m, m ≤ l.length → ∀ x ∈ (chg (l.take m)).out, x.length ≤ m := by
    intro m
    induction m with
    | zero => intro _ x hx; simp [chg] at hx
    | succ m ih =>
      intro hm x hx
      have hp : l[m]? = some (l[m]'(by omega)) := List.getElem?_eq_getElem (by omega)
      cases hr : (l[m]'(by omega)).2 with
      | true =>
        rw [(nowV_yes l m _ hp hr).2] at hx
        rcases List.mem_append.1 hx with hx | hx
        · have := ih (by omega) x hx
          omega
        · rw [List.mem_singleton.1 hx, List.length_append]
          have h1 := nowV_le (l.take m)
          rw [List.length_take] at h1
          simp only [List.length_singleton]
          omega
      | false =>
        rw [(nowV_no l m _ hp hr).2] at hx
        have := ih (by omega) x hx
        omega
  have h2 := h l.length (Nat.le_refl _)
  rw [List.take_of_length_le (Nat.le_refl _)] at h2
  exact h2
theorem popAll_length (key : List UInt8) : ∀ (l : List (Nat × List UInt8)) (rs : List Rec), popAll key l = some rs → rs.length = l.length
  | [], rs, h => by simp only [popAll] at h; injection h with h; subst h; rfl
  | p :: l, rs, h => by
    unfold popAll at h
    split at h
    · rename_i r rs2 h1 h2
      injection h with h
      subst h
      rw [List.length_cons, List.length_cons, popAll_length key l rs2 h2]
    · cases h
theorem loadV_small {key tag : List UInt8} {sl : List (Nat × List UInt8)} {ll : List (List Img)} {m : Nat} (h : loadV key tag sl = some ll) (hm : sl.length ≤ m) : ll.length ≤ m ∧ ∀ l ∈ ll, l.length ≤ m := by
  unfold loadV at h
  split at h
  · cases hp : popAll key sl with
    | none => rw [hp] at h; cases h
    | some rs =>
      rw [hp] at h
      have hl := popAll_length key sl rs hp
      have h : chgV rs = some ll := h
      unfold chgV at h
      split at h
      · injection h with h
        subst h
        have hc := chg_rows rs
        exact ⟨by omega, fun l hl2 => by have := hc.2 l hl2; omega⟩
      · cases h
  · cases h
theorem run_allocS (ev : Operand → Value) (o : Oper) (ho : o.op = .alloc 42) (w : World) : (execOp ev o).run Tryz.prog w = .ok (.value (.pointer (some ⟨w.heap.size, 0, none⟩))) (w.alloc (.cells st0.toArray 42)) := by
  unfold execOp
  simp only [ho]
  go_simp
  rfl
theorem step_alloc_run {P : Program} {ops : Array Oper} {o : Oper} {a : Act} {w w' : World} {v : Value} {K : Act → World → Prop} {Q : Exit → Act → World → Prop} {E : Prop} (hgd : o.guard = none) (hrun : (execOp a.eval o).run P w = .ok (.value v) w')
    (h : K (a.put o.dst v) w') : if Region.wanted o (yielded ops a.tmps) = true then Oper.wp P o a w K Q else E := by
  have hw : Region.wanted o (yielded ops a.tmps) = true := by simp [Region.wanted, hgd]
  rw [if_pos hw]
  unfold Oper.wp
  rw [hrun]
  exact h
set_option maxRecDepth 100000 in
set_option maxHeartbeats 8000000 in
theorem replayCuts_any (key : List UInt8) (A : Option Addr) (n c : Nat) (xs : List Value) (l : List Img) (cnt : UInt8) (link : Bool) (w : World) (hk : key.length = 32) (hr : Reads w w.heap.size 2 A n xs) (hl : l.length = n) (hi : RowA w xs l) (h64 : ∀ p ∈ l, p.1 < 18446744073709551616) (hn : n ≤ 9223372036854775807) (hT : Tabs w) :
    Calls Tryz.prog 3 #[.agg (bs key).toArray, .slice A n c, .int .u8 (cnt.toNat : Int), .bool link] w fun e w' => e = .returned (.bool true) ∧ Below w.heap.size w w' := by
  obtain ⟨W0, hW0⟩ : ∃ W0 : World, W0 = w.alloc (.cells (bs key).toArray 23) := ⟨_, rfl⟩
  have y0 : Below w.heap.size w W0 := by rw [hW0]; exact (Below.refl _ _).alloc (Nat.le_refl _) _
  have kk0 : Blk W0 w.heap.size 23 (bs key).toArray := by rw [hW0]; exact Blk.new_of rfl rfl
  have haw := awake_any W0 (hT.under y0)
  have hTs := hT.size
  rw [hW0] at haw
  have z1 : (bs key).toArray.size = 32 := by simp [bs_length, hk]
  have Z1 := Lib.hid z1
  have HW0 := Lib.hid hW0
  clear hW0 z1
  by_cases h0 : n = 0
  · have d1 : (n : Int) = 0 := by omega
    have d2 : ((n : Int) == 0) = true := by rw [d1]; rfl
    clear hr hi hl
    go_enter Tryz.func3, Tryz.ntmps3
    go_wp2_with (first | (go_at_call 5; refine haw.mono ?_; rintro e w1 ⟨rfl, b1⟩; rw [← HW0.out] at b1))
    go_ret
    exact ⟨rfl, y0.trans (b1.mono y0.size)⟩
  · by_cases h5 : 5 < n
    · have d1 : ¬ (n : Int) = 0 := by omega
      have d2 : ((n : Int) == 0) = false := beq_eq_false_iff_ne.2 d1
      have d3 : (5 : Int) < (n : Int) := by omega
      clear hr hi hl
      go_enter Tryz.func3, Tryz.ntmps3
      go_wp2_with (first | (go_at_call 5; refine haw.mono ?_; rintro e w1 ⟨rfl, b1⟩; rw [← HW0.out] at b1))
      go_ret
      exact ⟨rfl, y0.trans (b1.mono y0.size)⟩
    · have d1 : ¬ (n : Int) = 0 := by omega
      have d2 : ((n : Int) == 0) = false := beq_eq_false_iff_ne.2 d1
      have d3 : ¬ (5 : Int) < (n : Int) := by omega
      have n1 : 1 ≤ n := by omega
      have n5 : n ≤ 5 := by omega
      clear h0 h5 hn
      have hjn := fun gd F W h => jnew_any gd F dk8 (jr8 key) W h hk (by show (List.replicate 32 (0 : UInt8)).length = 32; exact List.length_replicate) (by show 1 ≤ 8; omega) (by show 0 + 8 ≤ (List.replicate 8 zeros192).length; rw [List.length_replicate]; omega) (by show (List.replicate 8 zeros192).length ≤ 1048576; rw [List.length_replicate]; omega) (by show 0 < 8; omega) (by show 0 ≤ 8; omega) (by show 1 ≤ 1; omega) (by show 100 ≤ 9223372036854775807; omega)
      have hrj := fun W => rjnew_any 8 (jr8 key) W hk (by show (List.replicate 32 (0 : UInt8)).length = 32; exact List.length_replicate) (by show 1 ≤ 8; omega) (by show 0 + 8 ≤ 8; omega) (by omega) (by show 0 < 8; omega) (by show 0 ≤ 8; omega) (by show 1 ≤ 1; omega) (by show 100 ≤ 9223372036854775807; omega)
      have hrn := fun W => rnew_any 8 W (by omega) (by omega)
      have hjcl := rjCells_length (jr8 key) hk (by show (List.replicate 32 (0 : UInt8)).length = 32; exact List.length_replicate)
      have hjo := rjCells_one (jr8 key)
      have hji : (Tryz.prog.info? 44).map (·.size) = some (rjCells (jr8 key)).toArray.size := by rw [List.size_toArray, hjcl]; kernel_rfl
      have hjz : Tryz.zeroCells44.size = (rjCells (jr8 key)).toArray.size := by rw [show (rjCells (jr8 key)).toArray.size = 70 by rw [List.size_toArray, hjcl]]; kernel_rfl
      have HJO := Lib.hid hjo
      have HJI := Lib.hid hji
      have HJZ := Lib.hid hjz
      have HJCL := Lib.hid hjcl
      clear hjcl hjo hji hjz
      go_enter Tryz.func3, Tryz.ntmps3
      have d4 : decide ((5 : Int) < (n : Int)) = false := decide_eq_false d3
      have him := fun W (hb : Below w.heap.size w W) => images_any A n c xs l W ((hr.below hb).more hb.size) hl (fun i p hp => by
        obtain ⟨h0, A2, c2, h1, h2, h3⟩ := hi i p hp
        exact ⟨h0, A2, c2, h1, h2, (h3.below hb).more hb.size⟩) (by omega)
      go_wp2_with (first | (go_at_call 5; refine haw.mono ?_; rintro e w1 ⟨rfl, b1⟩; rw [← HW0.out] at b1; have y1 := y0.trans (b1.mono y0.size); have k1 := kk0.below b1 kk0.lt; have hd := dnew_any 8 w1 (by omega) (by omega); clear haw) | (go_at_call 6; refine hd.mono ?_; rintro e w2 ⟨rfl, D2, b2⟩; have y2 := y1.trans (b2.mono y1.size); have k2 := k1.below b2 k1.lt; clear hd) | (go_at_call 7; refine (hrn _).mono ?_; rintro e w3 ⟨rfl, b3⟩; have y3 := y2.trans (b3.mono y2.size); have k3 := k2.below b3 k2.lt; have D3 := D2.under b3; have kM4 : Blk (w3.alloc (.cells #[.int .i64 8, .slice none 0 0, .slice none 0 0, .int .i64 (-1), .bool false, .slice none 0 0] 33)) w3.heap.size 33 #[.int .i64 8, .slice none 0 0, .slice none 0 0, .int .i64 (-1), .bool false, .slice none 0 0] := Blk.new_of rfl rfl; have y4 := y3.alloc y3.size (.cells #[.int .i64 8, .slice none 0 0, .slice none 0 0, .int .i64 (-1), .bool false, .slice none 0 0] 33); have k4 := k3.alloc (.cells #[.int .i64 8, .slice none 0 0, .slice none 0 0, .int .i64 (-1), .bool false, .slice none 0 0] 33); have D4 := D3.bound.alloc (.cells #[.int .i64 8, .slice none 0 0, .slice none 0 0, .int .i64 (-1), .bool false, .slice none 0 0] 33); have hjn4 := hjn _ _ _ D4; have s12 := b2.size; have s23 := b3.size; clear hrn hjn) | ((with_reducible refine wpList_load_blk (o := ⟨some 54, _, _, _, _, _⟩) rfl 23 _ rfl w.heap.size rfl 23 _ _ k4 Tryz.underlying23 rfl (by rw [Z1.out]; kernel_rfl) ?_)) | (go_at_call 8; refine hjn4.mono ?_; rintro e w5 ⟨gj, rfl, hgj, J5, b5⟩; have y5 := y4.trans (b5.mono y4.size); have k5 := k4.below b5 k4.lt; have kM5 := kM4.below b5 kM4.lt; have D5 := D4.under b5; have s45 := b5.size; have hgl := J5.blk.lt; clear hjn4) | ((with_reducible refine wpList_load_blk (o := ⟨some 60, _, _, _, _, _⟩) rfl 23 _ rfl w.heap.size rfl 23 _ _ k5 Tryz.underlying23 rfl (by rw [Z1.out]; kernel_rfl) ?_)) | (go_at_call 9; refine (hrj _).mono ?_; rintro e w6 ⟨rfl, b6⟩; have y6 := y5.trans (b6.mono y5.size); have s56 := b6.size; clear hrj) | ((with_reducible refine wpList_store_blk (o := ⟨none, .store 44 (.tmp 16) (.tmp 63), _, _, _, _⟩) rfl 44 (.tmp 16) (.tmp 63) rfl w6.heap.size (rjCells (jr8 key)).toArray rfl rfl 44 Tryz.zeroCells44 (Blk.new _ _ _) HJI.out HJZ.out HJO.out ?_); intro w7 k7 g7 s7; have b67 : Below w6.heap.size w6 w7 := ((Below.refl _ w6).alloc (Nat.le_refl _) (.cells Tryz.zeroCells44 44)).grown g7 (by rw [size_alloc']; omega) (fun k e => by injection e with e; omega); have b57 := b6.trans (b67.mono s56); have y7 := y5.trans (b57.mono y5.size); have k17 := k5.below b57 k5.lt; have kM7 := kM5.below b57 kM5.lt; have D7 := D5.under b57; have J7 := J5.under b57; have him7 := him w7 y7; have s7' : w7.heap.size = w6.heap.size + 1 := s7.trans (size_alloc' _ _); have S7 := Lib.hid s7'; clear s7 s7' g7 b67 him) | (go_at_call 10; refine him7.mono ?_; rintro e w8 ⟨A8, c8, ys8, rfl, ho8, hR8, b8⟩; clear him7))
      obtain ⟨g8, c8', hv8, _, hg8l⟩ := ho8.form (by omega)
      injection hv8 with hA8 _ hc8
      subst hA8 hc8
      have hlp : (l.map imgPad).length = n := by rw [List.length_map]; exact hl
      have hpp : ∀ p ∈ l.map imgPad, p.2.length = 160 ∧ p.1 < 18446744073709551616 := fun p hp => by
        obtain ⟨q, hq, rfl⟩ := List.mem_map.1 hp
        exact ⟨padB_length _ _, h64 q hq⟩
      rw [size_alloc'] at hgj s45
      generalize l.map imgPad = lp at *
      have s67 := S7.out
      have s78 := b8.size
      have hy1 := y1.size
      have y8 := y7.trans (b8.mono y7.size)
      have J8 := J7.under b8
      have D8 : Disk w8 w1.heap.size (fun k => w1.heap.size ≤ k ∧ k < w3.heap.size) dk8 := D7.under b8
      have k18 := k17.below b8 k17.lt
      have kM8 := kM7.below b8 kM7.lt
      have kr8 := k7.below b8 k7.lt
      have T8 := hT.under y8
      clear hr hi hl h64 k1 k2 k3 k4 k5 kM4 kM5 D2 D3 D4 D5 J5 J7 D7 kk0 k17 kM7 k7 b57 b6 b5 b3 b2 b1 T8
      generalize w1.heap.size = gd at *
      generalize w3.heap.size = gm at *
      generalize w6.heap.size = gr at *
      have hap := append_any gj gd _ _ (jr8 key) g8 0 n c8 ys8 lp w8 J8 D8 (fun h => by have h2 : gj < gm := h.2; omega) rfl (by decide) (by show 0 + n ≤ 1048576; omega) (by show 0 + n ≤ 1048576; omega) (by show (List.replicate 8 zeros192).length ≤ 1048576; rw [List.length_replicate]; omega) (Reads.of_own ho8) hlp hR8.rowI (fun p hp => (hpp p hp).1) (fun p hp => (hpp p hp).2) n1 (by omega) (by show 1 ≤ 8; omega) (by show 0 + 8 ≤ (List.replicate 8 zeros192).length; rw [List.length_replicate]; omega) (by show 0 < 8; omega) (by show 0 + n ≤ 8; omega) (by show 1 ≤ 1; omega) (by show 1 + n ≤ 100; omega) (by show 100 ≤ 9223372036854775807; omega) (hT.under y8) (by omega) (fun k hk => by have h1 : gd ≤ k := hk.1; omega)
      have hS1 := slotsOf_length (jr8 key) lp
      have hS2 : ∀ p ∈ slotsOf (jr8 key) lp, p.2.length = 192 := fun p hp => by
        unfold slotsOf at hp
        obtain ⟨k, hk, rfl⟩ := List.mem_mapIdx.1 hp
        exact sealB_length _ _ _ _
      have htgl := tagOf_length (List.replicate 32 0) (slotsOf (jr8 key) lp) List.length_replicate
      obtain ⟨S, hS⟩ : ∃ S, S = slotsOf (jr8 key) lp := ⟨_, rfl⟩
      obtain ⟨tg, htg⟩ : ∃ tg, tg = tagOf (List.replicate 32 0) S := ⟨_, rfl⟩
      rw [← hS] at hS1 hS2 htgl
      rw [← htg] at htgl
      have hap2 : Calls Tryz.prog 11 #[.pointer (some ⟨gj, 0, none⟩), .slice (some ⟨g8, 0, none⟩) n c8] w8 fun e w' => e = .returned (.tuple #[.agg (stCells 0 n tg).toArray, .int .i64 0]) ∧ Disk w' gd (fun k => gd ≤ k ∧ k ≠ gm) ⟨List.replicate 8 zeros192, S, -1, false, n⟩ ∧ Only (fun k => gd ≤ k) w8 w' := hap.mono fun e w' h => by
        obtain ⟨h1, _, h3, h4⟩ := h
        refine ⟨?_, ?_, h4.mono (fun k _ hf => hf.elim (fun h => h.1) (fun e => by omega))⟩
        · rw [h1, htg, hS]
          show Ending.returned (.tuple #[.agg (stCells 0 (0 + n) _).toArray, _]) = _
          rw [Nat.zero_add]
          rfl
        · rw [hS]
          have h5 : ({ dk8 with way := dk8.way ++ slotsOf (jr8 key) lp, ops := dk8.ops + n } : Dk) = ⟨List.replicate 8 zeros192, slotsOf (jr8 key) lp, -1, false, n⟩ := by
            show Dk.mk _ ([] ++ _) _ _ (0 + n) = _
            rw [List.nil_append, Nat.zero_add]
            rfl
          rw [h5] at h3
          exact h3.mono (fun k _ hf => hf.elim (fun h => ⟨h.1, by have h2 : k < gm := h.2; omega⟩) (fun h => ⟨by omega, by have := kM8.lt; omega⟩))
      have hst1 := stCells_one 0 n tg
      have hstl := stCells_length 0 n tg
      rw [htgl] at hstl
      have zi : (Tryz.prog.info? 41).map (·.size) = some (stCells 0 n tg).toArray.size := by rw [List.size_toArray, hstl]; kernel_rfl
      have zs : st0.toArray.size = (stCells 0 n tg).toArray.size := by rw [List.size_toArray, List.size_toArray, hstl]; rfl
      have ZI := Lib.hid zi
      have ZS := Lib.hid zs
      have HSO := Lib.hid hst1
      have HTGL := Lib.hid htgl
      have HTG := Lib.hid htg
      have HSS := Lib.hid hS
      have HS1 := Lib.hid hS1
      have HS2 := Lib.hid hS2
      clear hap hst1 hstl zi zs htgl htg hS hS1 hS2
      go_wp2_with (first | (go_at_call 11; refine hap2.mono ?_; rintro e w9 ⟨rfl, D9, O9⟩; clear hap2) | ((with_reducible refine wpList_store_blk (o := ⟨none, .store 41 (.tmp 19) (.tmp 71), _, _, _, _⟩) rfl 41 (.tmp 19) (.tmp 71) rfl w9.heap.size (stCells 0 n tg).toArray rfl rfl 41 st0.toArray (Blk.new_of rfl rfl) ZI.out ZS.out HSO.out ?_); intro w10 k10 g10 s10; have S10 := Lib.hid s10; clear s10))
      have s10 : w10.heap.size = w9.heap.size + 1 := S10.out.trans (size_alloc' _ _)
      have s89 := O9.size
      have b910 : Below w9.heap.size w9 w10 := ((Below.refl _ w9).alloc (Nat.le_refl _) (.cells st0.toArray 41)).grown g10 (by rw [size_alloc']; omega) (fun k e => by injection e with e; omega)
      have kM10 := (O9.blk kM8 (.inr (by decide))).below b910 (by have := kM8.lt; omega)
      have k110 := (O9.blk k18 (.inr (by decide))).below b910 (by have := k18.lt; omega)
      have kr10 := (O9.blk kr8 (.inr (by decide))).below b910 (by have := kr8.lt; omega)
      have ho10 := own_keep (O9.own ho8 (.inr (by decide))) (fun b e => b910.block b (by have := (World.ownsRow.lt (O9.own ho8 (.inr (by decide))) b e).2; omega))
      have hR10 := (hR8.keep (fun b hK => O9.kind hK (.inr dry_u8))).keep (w' := w10) (fun b hK => b910.block b hK.lt)
      have D10 := D9.under b910
      have y9 : Below w.heap.size w w9 := y8.trans (O9.below y8.size (fun k h => by omega))
      have y10 := y9.trans (b910.mono y9.size)
      have hmo := fun W (hb : Below w10.heap.size w10 W) => modelOf_any (some ⟨g8, 0, none⟩) n c8 ys8 lp W (Reads.of_own (own_keep ho10 (fun b e => hb.block b (World.ownsRow.lt ho10 b e).2))) (own_spotc (own_keep ho10 (fun b e => hb.block b (World.ownsRow.lt ho10 b e).2))) hlp ((hR10.keep (fun b hK => hb.block b hK.lt)).rowI) (by omega)
      have happ : ∀ (W : World) (A : Option Addr) (ca : Nat), W.ownsRow 0 105 2 (.slice A n ca) n (encM lp) → Calls Tryz.prog 12 #[.agg #[.int .i64 8, .slice none 0 0, .slice none 0 0, .int .i64 (-1), .bool false, .slice none 0 0], .agg (rjCells (jr8 key)).toArray, .slice A n ca] W fun e w' => ∃ A2 c2 B2 d2 x2, e = .returned (.tuple #[.agg #[.int .i64 8, .slice none 0 0, .slice A2 n c2, .int .i64 (-1), .bool false, .slice B2 n d2], .agg (rjCells { jr8 key with next := 1 + n }).toArray, .agg (stCells 0 n tg).toArray, .int .i64 0]) ∧ w'.ownsRow 0 142 2 (.slice A2 n c2) n (encW S) ∧ w'.ownsRow 0 169 2 (.slice B2 n d2) n x2 ∧ (∀ u ∈ x2, u.oneCell' = true) ∧ Below W.heap.size W w' := fun W A ca hI => by
        have h := rappend_any 8 0 0 0 0 0 0 none none none [] [] (jr8 key) lp A ca W (World.ownsRow_nil _ _ _ _) (by omega) (World.ownsRow_nil _ _ _ _) (fun u hu => by cases hu) (by omega) hk List.length_replicate (by rw [hlp]; exact hI) (by omega) (fun p hp => (hpp p hp).1) (fun p hp => (hpp p hp).2) (by show 1 ≤ 8; omega) (by show 0 + 8 ≤ 8; omega) (by omega) (by show 0 < 8; omega) (by show 0 + lp.length ≤ 8; omega) (by show 1 ≤ 1; omega) (by show 1 + lp.length ≤ 100; omega) (by show 100 ≤ 9223372036854775807; omega)
        rw [hlp] at h
        refine h.mono fun e w' h2 => ?_
        obtain ⟨A2, c2, B2, d2, x2, h3, h4, h5, h6, h7⟩ := h2
        rw [Nat.zero_add] at h4 h5
        refine ⟨A2, c2, B2, d2, x2, ?_, by rw [HSS.out]; simpa using h4, h5, h6, h7⟩
        rw [h3, HTG.out, HSS.out]
        show Ending.returned (.tuple #[.agg #[_, _, .slice A2 (0 + n) c2, _, _, .slice B2 (0 + n) d2], _, .agg (stCells 0 (0 + n) _).toArray, _]) = _
        rw [Nat.zero_add]
        rfl
      clear kM8 k18 kr8 ho8 hR8 D9 O9 y9 g10 b910 D8 J8
      obtain ⟨u0, hu0⟩ : ∃ u0 : World, u0 = w10.drew := ⟨_, rfl⟩
      have hz0 : w10.heap.size ≤ u0.heap.size := by rw [hu0]; exact Nat.le_refl _
      have hu0b : Below w10.heap.size w10 u0 := by rw [hu0]; exact (Below.refl _ _).drew
      have hMo : ∀ W, Below u0.heap.size u0 W → W.rangeAt gm 0 ([.int .i64 8, .slice none 0 0, .slice none 0 0, .int .i64 (-1), .bool false, .slice none 0 0] : List Value) := fun W hb => Blk.range ((kM10.below hu0b kM10.lt).below hb (by have := kM10.lt; omega))
      have hSo : ∀ W, Below u0.heap.size u0 W → W.rangeAt gr 0 (rjCells (jr8 key)) := fun W hb => Blk.range ((kr10.below hu0b kr10.lt).below hb (by have := kr10.lt; omega))
      have uD := Tryz.underlying33
      have uJ := Tryz.underlying44
      have iD : (Tryz.prog.info? 33).map (·.size) = some ([.int .i64 8, .slice none 0 0, .slice none 0 0, .int .i64 (-1), .bool false, .slice none 0 0] : List Value).length := by kernel_rfl
      have iJ : (Tryz.prog.info? 44).map (·.size) = some (rjCells (jr8 key)).length := by rw [HJCL.out]; kernel_rfl
      have emod : ∀ args w, (callFunc 13 args).run Tryz.prog w = .ok (.enter 13 args) w := enters_of Tryz.func13 (by kernel_rfl) rfl
      have eapp : ∀ args w, (callFunc 12 args).run Tryz.prog w = .ok (.enter 12 args) w := enters_of Tryz.func12 (by kernel_rfl) rfl
      have bu0 : Below u0.heap.size u0 u0 := Below.refl _ _
      apply cont_intro (fun Am cm A2 c2 B2 d2 pJ pS u => ∃ x2 : List Value, Below u0.heap.size u0 u ∧ u.ownsRow 0 142 2 (.slice A2 n c2) n (encW S) ∧ u.ownsRow 0 169 2 (.slice B2 n d2) n x2 ∧ (∀ v ∈ x2, v.oneCell' = true) ∧ Blk u pJ 44 Tryz.zeroCells44 ∧ Blk u pS 42 st0.toArray ∧ u0.heap.size ≤ pJ ∧ u0.heap.size ≤ pS ∧ pJ ≠ pS)
      · intro hcont
        refine wp_region_held_drew (S := fun w' => w'.rangeAt gr 0 (rjCells (jr8 key))) (by kernel_rfl) (by rw [← hu0]; exact hSo _ bu0) (fun _ => ?_)
        rw [← hu0]
        refine wpAnyH_take (i := 1) (oi := ⟨some 75, _, _, _, _, _⟩) (v := .agg (rjCells (jr8 key)).toArray) rfl (by kernel_rfl) (by kernel_rfl) (by kernel_rfl) (fun _ _ _ h => h) (yieldsIf_load_mid (by rfl) 44 _ rfl gr 0 (by rfl) (rjCells (jr8 key)) _ (fun W h => h) uJ rfl iJ) (hSo _ bu0) ?_
        simp only [Act.put, List.setIfInBounds_toArray, List.set_cons_zero, List.set_cons_succ]
        refine wpAnyH_take (i := 2) (oi := ⟨some 76, _, _, _, _, _⟩) (v := .slice (some ⟨g8, 0, none⟩) n c8) rfl (by kernel_rfl) (by kernel_rfl) (by kernel_rfl) (fun _ _ _ h => h) (Or.inl ⟨by rfl, by intro W hS; go_simp⟩) (hSo _ bu0) ?_
        simp only [Act.put, List.setIfInBounds_toArray, List.set_cons_zero, List.set_cons_succ]
        obtain ⟨uC, bC, huC⟩ : ∃ u : World, Below u0.heap.size u0 u ∧ u = u0 := ⟨_, bu0, rfl⟩
        rw [← huC]
        clear huC
        all_goals first
          | (refine wpAnyH_ready (rs := [0, 3, 10, 11]) (by decide +kernel) (by simp) ?_; refine AllReadyH.cons (o := ⟨some 74, .load 33 (.tmp 12), _, _, _, _⟩) rfl (fun K' hK => ?_) (AllReadyH.cons (o := ⟨some 77, .call { callee := .value (.func 13), args := #[.tmp 76], argTypes := #[24] }, _, _, _, _⟩) rfl (fun K' hK => ?_) (AllReadyH.cons (o := ⟨some 21, .alloc 44, _, _, _, _⟩) rfl (fun K' hK => ?_) (AllReadyH.cons (o := ⟨some 22, .alloc 42, _, _, _, _⟩) rfl (fun K' hK => ?_) (AllReadyH.nil)))))
        all_goals first
          | (refine step_alloc_run rfl (run_allocJ _ _ rfl _) ?_
             obtain ⟨pJ, hpJ⟩ : ∃ p, p = uC.heap.size := ⟨_, rfl⟩
             have lJ : u0.heap.size ≤ pJ := by rw [hpJ]; exact bC.size
             obtain ⟨uC, huC, st, kN⟩ : ∃ u : World, u = uC.alloc (.cells Tryz.zeroCells44 44) ∧ Below uC.heap.size uC u ∧ Blk u uC.heap.size 44 Tryz.zeroCells44 := ⟨_, rfl, (Below.refl _ _).alloc (Nat.le_refl _) _, Blk.new _ _ _⟩
             rw [← hpJ] at kN
             try (have om := own_keep om (fun b e => st.block b (World.ownsRow.lt om b e).2))
             try (have oW := own_keep oW (fun b e => st.block b (World.ownsRow.lt oW b e).2); have oO := own_keep oO (fun b e => st.block b (World.ownsRow.lt oO b e).2))
             try (have kJ := kJ.below st kJ.lt)
             try (have kS := kS.below st kS.lt)
             have kJ := kN
             have bC := bC.trans (st.mono bC.size)
             refine hK.out _ _ (by rw [← huC]; exact hSo _ bC) (fun _ => ?_)
             clear hK st
             simp only [Act.put, List.setIfInBounds_toArray, List.set_cons_zero, List.set_cons_succ]
             rw [← huC, ← hpJ]
             clear huC hpJ)
          | (refine step_alloc_run rfl (run_allocS _ _ rfl _) ?_
             obtain ⟨pS, hpS⟩ : ∃ p, p = uC.heap.size := ⟨_, rfl⟩
             have lS : u0.heap.size ≤ pS := by rw [hpS]; exact bC.size
             obtain ⟨uC, huC, st, kN⟩ : ∃ u : World, u = uC.alloc (.cells st0.toArray 42) ∧ Below uC.heap.size uC u ∧ Blk u uC.heap.size 42 st0.toArray := ⟨_, rfl, (Below.refl _ _).alloc (Nat.le_refl _) _, Blk.new _ _ _⟩
             rw [← hpS] at kN
             try (have om := own_keep om (fun b e => st.block b (World.ownsRow.lt om b e).2))
             try (have oW := own_keep oW (fun b e => st.block b (World.ownsRow.lt oW b e).2); have oO := own_keep oO (fun b e => st.block b (World.ownsRow.lt oO b e).2))
             try (have kJ := kJ.below st kJ.lt)
             try (have kS := kS.below st kS.lt)
             have kS := kN
             have bC := bC.trans (st.mono bC.size)
             refine hK.out _ _ (by rw [← huC]; exact hSo _ bC) (fun _ => ?_)
             clear hK st
             simp only [Act.put, List.setIfInBounds_toArray, List.set_cons_zero, List.set_cons_succ]
             rw [← huC, ← hpS]
             clear huC hpS)
          | (refine step_load_mid rfl 33 _ rfl gm 0 (by rfl) ([.int .i64 8, .slice none 0 0, .slice none 0 0, .int .i64 (-1), .bool false, .slice none 0 0] : List Value) _ (hMo _ bC) uD rfl iD ?_
             refine hK.out _ _ (hSo _ bC) (fun _ => ?_)
             clear hK
             simp only [Act.put, List.setIfInBounds_toArray, List.set_cons_zero, List.set_cons_succ])
          | (refine step_call_w (by rfl) 13 [_] _ rfl [.slice (some ⟨g8, 0, none⟩) n c8] rfl emod _ (hmo _ (hu0b.trans (bC.mono hz0))) ?_
             rintro e uC ⟨Am, cm, rfl, omN, st⟩
             try (have om := own_keep om (fun b e => st.block b (World.ownsRow.lt om b e).2))
             try (have oW := own_keep oW (fun b e => st.block b (World.ownsRow.lt oW b e).2); have oO := own_keep oO (fun b e => st.block b (World.ownsRow.lt oO b e).2))
             try (have kJ := kJ.below st kJ.lt)
             try (have kS := kS.below st kS.lt)
             have om := omN
             have bC := bC.trans (st.mono bC.size)
             refine ⟨_, rfl, hK.out _ _ (hSo _ bC) (fun _ => ?_)⟩
             clear hK st
             simp only [Act.put, List.setIfInBounds_toArray, List.set_cons_zero, List.set_cons_succ])
        all_goals first
          | (refine wpAnyH_ready (rs := [0, 10, 11]) (by decide +kernel) (by simp) ?_; refine AllReadyH.cons (o := ⟨some 74, .load 33 (.tmp 12), _, _, _, _⟩) rfl (fun K' hK => ?_) (AllReadyH.cons (o := ⟨some 21, .alloc 44, _, _, _, _⟩) rfl (fun K' hK => ?_) (AllReadyH.cons (o := ⟨some 22, .alloc 42, _, _, _, _⟩) rfl (fun K' hK => ?_) (AllReadyH.nil))))
          | (refine wpAnyH_ready (rs := [0, 3, 10]) (by decide +kernel) (by simp) ?_; refine AllReadyH.cons (o := ⟨some 74, .load 33 (.tmp 12), _, _, _, _⟩) rfl (fun K' hK => ?_) (AllReadyH.cons (o := ⟨some 77, .call { callee := .value (.func 13), args := #[.tmp 76], argTypes := #[24] }, _, _, _, _⟩) rfl (fun K' hK => ?_) (AllReadyH.cons (o := ⟨some 21, .alloc 44, _, _, _, _⟩) rfl (fun K' hK => ?_) (AllReadyH.nil))))
          | (refine wpAnyH_ready (rs := [0, 3, 11]) (by decide +kernel) (by simp) ?_; refine AllReadyH.cons (o := ⟨some 74, .load 33 (.tmp 12), _, _, _, _⟩) rfl (fun K' hK => ?_) (AllReadyH.cons (o := ⟨some 77, .call { callee := .value (.func 13), args := #[.tmp 76], argTypes := #[24] }, _, _, _, _⟩) rfl (fun K' hK => ?_) (AllReadyH.cons (o := ⟨some 22, .alloc 42, _, _, _, _⟩) rfl (fun K' hK => ?_) (AllReadyH.nil))))
          | (refine wpAnyH_ready (rs := [3, 10, 11]) (by decide +kernel) (by simp) ?_; refine AllReadyH.cons (o := ⟨some 77, .call { callee := .value (.func 13), args := #[.tmp 76], argTypes := #[24] }, _, _, _, _⟩) rfl (fun K' hK => ?_) (AllReadyH.cons (o := ⟨some 21, .alloc 44, _, _, _, _⟩) rfl (fun K' hK => ?_) (AllReadyH.cons (o := ⟨some 22, .alloc 42, _, _, _, _⟩) rfl (fun K' hK => ?_) (AllReadyH.nil))))
        all_goals first
          | (refine step_alloc_run rfl (run_allocJ _ _ rfl _) ?_
             obtain ⟨pJ, hpJ⟩ : ∃ p, p = uC.heap.size := ⟨_, rfl⟩
             have lJ : u0.heap.size ≤ pJ := by rw [hpJ]; exact bC.size
             obtain ⟨uC, huC, st, kN⟩ : ∃ u : World, u = uC.alloc (.cells Tryz.zeroCells44 44) ∧ Below uC.heap.size uC u ∧ Blk u uC.heap.size 44 Tryz.zeroCells44 := ⟨_, rfl, (Below.refl _ _).alloc (Nat.le_refl _) _, Blk.new _ _ _⟩
             rw [← hpJ] at kN
             try (have om := own_keep om (fun b e => st.block b (World.ownsRow.lt om b e).2))
             try (have oW := own_keep oW (fun b e => st.block b (World.ownsRow.lt oW b e).2); have oO := own_keep oO (fun b e => st.block b (World.ownsRow.lt oO b e).2))
             try (have kJ := kJ.below st kJ.lt)
             try (have kS := kS.below st kS.lt)
             have kJ := kN
             have bC := bC.trans (st.mono bC.size)
             refine hK.out _ _ (by rw [← huC]; exact hSo _ bC) (fun _ => ?_)
             clear hK st
             simp only [Act.put, List.setIfInBounds_toArray, List.set_cons_zero, List.set_cons_succ]
             rw [← huC, ← hpJ]
             clear huC hpJ)
          | (refine step_alloc_run rfl (run_allocS _ _ rfl _) ?_
             obtain ⟨pS, hpS⟩ : ∃ p, p = uC.heap.size := ⟨_, rfl⟩
             have lS : u0.heap.size ≤ pS := by rw [hpS]; exact bC.size
             obtain ⟨uC, huC, st, kN⟩ : ∃ u : World, u = uC.alloc (.cells st0.toArray 42) ∧ Below uC.heap.size uC u ∧ Blk u uC.heap.size 42 st0.toArray := ⟨_, rfl, (Below.refl _ _).alloc (Nat.le_refl _) _, Blk.new _ _ _⟩
             rw [← hpS] at kN
             try (have om := own_keep om (fun b e => st.block b (World.ownsRow.lt om b e).2))
             try (have oW := own_keep oW (fun b e => st.block b (World.ownsRow.lt oW b e).2); have oO := own_keep oO (fun b e => st.block b (World.ownsRow.lt oO b e).2))
             try (have kJ := kJ.below st kJ.lt)
             try (have kS := kS.below st kS.lt)
             have kS := kN
             have bC := bC.trans (st.mono bC.size)
             refine hK.out _ _ (by rw [← huC]; exact hSo _ bC) (fun _ => ?_)
             clear hK st
             simp only [Act.put, List.setIfInBounds_toArray, List.set_cons_zero, List.set_cons_succ]
             rw [← huC, ← hpS]
             clear huC hpS)
          | (refine step_load_mid rfl 33 _ rfl gm 0 (by rfl) ([.int .i64 8, .slice none 0 0, .slice none 0 0, .int .i64 (-1), .bool false, .slice none 0 0] : List Value) _ (hMo _ bC) uD rfl iD ?_
             refine hK.out _ _ (hSo _ bC) (fun _ => ?_)
             clear hK
             simp only [Act.put, List.setIfInBounds_toArray, List.set_cons_zero, List.set_cons_succ])
          | (refine step_call_w (by rfl) 13 [_] _ rfl [.slice (some ⟨g8, 0, none⟩) n c8] rfl emod _ (hmo _ (hu0b.trans (bC.mono hz0))) ?_
             rintro e uC ⟨Am, cm, rfl, omN, st⟩
             try (have om := own_keep om (fun b e => st.block b (World.ownsRow.lt om b e).2))
             try (have oW := own_keep oW (fun b e => st.block b (World.ownsRow.lt oW b e).2); have oO := own_keep oO (fun b e => st.block b (World.ownsRow.lt oO b e).2))
             try (have kJ := kJ.below st kJ.lt)
             try (have kS := kS.below st kS.lt)
             have om := omN
             have bC := bC.trans (st.mono bC.size)
             refine ⟨_, rfl, hK.out _ _ (hSo _ bC) (fun _ => ?_)⟩
             clear hK st
             simp only [Act.put, List.setIfInBounds_toArray, List.set_cons_zero, List.set_cons_succ])
        all_goals first
          | (refine wpAnyH_ready (rs := [4, 10, 11]) (by decide +kernel) (by simp) ?_; refine AllReadyH.cons (o := ⟨some 78, .call { callee := .value (.func 12), args := #[.tmp 74, .tmp 75, .tmp 77], argTypes := #[33, 44, 52] }, _, _, _, _⟩) rfl (fun K' hK => ?_) (AllReadyH.cons (o := ⟨some 21, .alloc 44, _, _, _, _⟩) rfl (fun K' hK => ?_) (AllReadyH.cons (o := ⟨some 22, .alloc 42, _, _, _, _⟩) rfl (fun K' hK => ?_) (AllReadyH.nil))))
          | (refine wpAnyH_ready (rs := [0, 10]) (by decide +kernel) (by simp) ?_; refine AllReadyH.cons (o := ⟨some 74, .load 33 (.tmp 12), _, _, _, _⟩) rfl (fun K' hK => ?_) (AllReadyH.cons (o := ⟨some 21, .alloc 44, _, _, _, _⟩) rfl (fun K' hK => ?_) (AllReadyH.nil)))
          | (refine wpAnyH_ready (rs := [0, 3]) (by decide +kernel) (by simp) ?_; refine AllReadyH.cons (o := ⟨some 74, .load 33 (.tmp 12), _, _, _, _⟩) rfl (fun K' hK => ?_) (AllReadyH.cons (o := ⟨some 77, .call { callee := .value (.func 13), args := #[.tmp 76], argTypes := #[24] }, _, _, _, _⟩) rfl (fun K' hK => ?_) (AllReadyH.nil)))
          | (refine wpAnyH_ready (rs := [0, 11]) (by decide +kernel) (by simp) ?_; refine AllReadyH.cons (o := ⟨some 74, .load 33 (.tmp 12), _, _, _, _⟩) rfl (fun K' hK => ?_) (AllReadyH.cons (o := ⟨some 22, .alloc 42, _, _, _, _⟩) rfl (fun K' hK => ?_) (AllReadyH.nil)))
          | (refine wpAnyH_ready (rs := [3, 10]) (by decide +kernel) (by simp) ?_; refine AllReadyH.cons (o := ⟨some 77, .call { callee := .value (.func 13), args := #[.tmp 76], argTypes := #[24] }, _, _, _, _⟩) rfl (fun K' hK => ?_) (AllReadyH.cons (o := ⟨some 21, .alloc 44, _, _, _, _⟩) rfl (fun K' hK => ?_) (AllReadyH.nil)))
          | (refine wpAnyH_ready (rs := [3, 11]) (by decide +kernel) (by simp) ?_; refine AllReadyH.cons (o := ⟨some 77, .call { callee := .value (.func 13), args := #[.tmp 76], argTypes := #[24] }, _, _, _, _⟩) rfl (fun K' hK => ?_) (AllReadyH.cons (o := ⟨some 22, .alloc 42, _, _, _, _⟩) rfl (fun K' hK => ?_) (AllReadyH.nil)))
        all_goals first
          | (refine step_alloc_run rfl (run_allocJ _ _ rfl _) ?_
             obtain ⟨pJ, hpJ⟩ : ∃ p, p = uC.heap.size := ⟨_, rfl⟩
             have lJ : u0.heap.size ≤ pJ := by rw [hpJ]; exact bC.size
             obtain ⟨uC, huC, st, kN⟩ : ∃ u : World, u = uC.alloc (.cells Tryz.zeroCells44 44) ∧ Below uC.heap.size uC u ∧ Blk u uC.heap.size 44 Tryz.zeroCells44 := ⟨_, rfl, (Below.refl _ _).alloc (Nat.le_refl _) _, Blk.new _ _ _⟩
             rw [← hpJ] at kN
             try (have om := own_keep om (fun b e => st.block b (World.ownsRow.lt om b e).2))
             try (have oW := own_keep oW (fun b e => st.block b (World.ownsRow.lt oW b e).2); have oO := own_keep oO (fun b e => st.block b (World.ownsRow.lt oO b e).2))
             try (have kJ := kJ.below st kJ.lt)
             try (have kS := kS.below st kS.lt)
             have kJ := kN
             have bC := bC.trans (st.mono bC.size)
             refine hK.out _ _ (by rw [← huC]; exact hSo _ bC) (fun _ => ?_)
             clear hK st
             simp only [Act.put, List.setIfInBounds_toArray, List.set_cons_zero, List.set_cons_succ]
             rw [← huC, ← hpJ]
             clear huC hpJ)
          | (refine step_alloc_run rfl (run_allocS _ _ rfl _) ?_
             obtain ⟨pS, hpS⟩ : ∃ p, p = uC.heap.size := ⟨_, rfl⟩
             have lS : u0.heap.size ≤ pS := by rw [hpS]; exact bC.size
             obtain ⟨uC, huC, st, kN⟩ : ∃ u : World, u = uC.alloc (.cells st0.toArray 42) ∧ Below uC.heap.size uC u ∧ Blk u uC.heap.size 42 st0.toArray := ⟨_, rfl, (Below.refl _ _).alloc (Nat.le_refl _) _, Blk.new _ _ _⟩
             rw [← hpS] at kN
             try (have om := own_keep om (fun b e => st.block b (World.ownsRow.lt om b e).2))
             try (have oW := own_keep oW (fun b e => st.block b (World.ownsRow.lt oW b e).2); have oO := own_keep oO (fun b e => st.block b (World.ownsRow.lt oO b e).2))
             try (have kJ := kJ.below st kJ.lt)
             try (have kS := kS.below st kS.lt)
             have kS := kN
             have bC := bC.trans (st.mono bC.size)
             refine hK.out _ _ (by rw [← huC]; exact hSo _ bC) (fun _ => ?_)
             clear hK st
             simp only [Act.put, List.setIfInBounds_toArray, List.set_cons_zero, List.set_cons_succ]
             rw [← huC, ← hpS]
             clear huC hpS)
          | (refine step_load_mid rfl 33 _ rfl gm 0 (by rfl) ([.int .i64 8, .slice none 0 0, .slice none 0 0, .int .i64 (-1), .bool false, .slice none 0 0] : List Value) _ (hMo _ bC) uD rfl iD ?_
             refine hK.out _ _ (hSo _ bC) (fun _ => ?_)
             clear hK
             simp only [Act.put, List.setIfInBounds_toArray, List.set_cons_zero, List.set_cons_succ])
          | (refine step_call_w (by rfl) 13 [_] _ rfl [.slice (some ⟨g8, 0, none⟩) n c8] rfl emod _ (hmo _ (hu0b.trans (bC.mono hz0))) ?_
             rintro e uC ⟨Am, cm, rfl, omN, st⟩
             try (have om := own_keep om (fun b e => st.block b (World.ownsRow.lt om b e).2))
             try (have oW := own_keep oW (fun b e => st.block b (World.ownsRow.lt oW b e).2); have oO := own_keep oO (fun b e => st.block b (World.ownsRow.lt oO b e).2))
             try (have kJ := kJ.below st kJ.lt)
             try (have kS := kS.below st kS.lt)
             have om := omN
             have bC := bC.trans (st.mono bC.size)
             refine ⟨_, rfl, hK.out _ _ (hSo _ bC) (fun _ => ?_)⟩
             clear hK st
             simp only [Act.put, List.setIfInBounds_toArray, List.set_cons_zero, List.set_cons_succ])
          | (refine step_call_w (by rfl) 12 [_, _, _] _ rfl [.agg #[.int .i64 8, .slice none 0 0, .slice none 0 0, .int .i64 (-1), .bool false, .slice none 0 0], .agg (rjCells (jr8 key)).toArray, .slice Am n cm] rfl eapp _ (happ _ _ _ (ownsRow_lower om (Nat.zero_le _))) ?_
             rintro e uC ⟨A2, c2, B2, d2, x2, rfl, oWN, oON, ox, st⟩
             try (have om := own_keep om (fun b e => st.block b (World.ownsRow.lt om b e).2))
             try (have oW := own_keep oW (fun b e => st.block b (World.ownsRow.lt oW b e).2); have oO := own_keep oO (fun b e => st.block b (World.ownsRow.lt oO b e).2))
             try (have kJ := kJ.below st kJ.lt)
             try (have kS := kS.below st kS.lt)
             have oW := oWN
             have oO := oON
             have bC := bC.trans (st.mono bC.size)
             refine ⟨_, rfl, hK.out _ _ (hSo _ bC) (fun _ => ?_)⟩
             clear hK st
             simp only [Act.put, List.setIfInBounds_toArray, List.set_cons_zero, List.set_cons_succ]
             refine wpAnyH_take (i := 5) (oi := ⟨some 73, _, _, _, _, _⟩) (v := .tuple #[.agg #[.int .i64 8, .slice none 0 0, .slice A2 n c2, .int .i64 (-1), .bool false, .slice B2 n d2], .agg (rjCells { jr8 key with next := 1 + n }).toArray, .agg (stCells 0 n tg).toArray, .int .i64 0]) rfl (by kernel_rfl) (by kernel_rfl) (by kernel_rfl) (fun _ _ _ h => h) (Or.inl ⟨by rfl, by intro W hS; go_simp⟩) (hSo _ bC) ?_
             simp only [Act.put, List.setIfInBounds_toArray, List.set_cons_zero, List.set_cons_succ]
             refine wpAnyH_take (i := 6) (oi := ⟨some 79, _, _, _, _, _⟩) (v := .agg #[.int .i64 8, .slice none 0 0, .slice A2 n c2, .int .i64 (-1), .bool false, .slice B2 n d2]) rfl (by kernel_rfl) (by kernel_rfl) (by kernel_rfl) (fun _ _ _ h => h) (Or.inl ⟨by rfl, by intro W hS; go_simp⟩) (hSo _ bC) ?_
             simp only [Act.put, List.setIfInBounds_toArray, List.set_cons_zero, List.set_cons_succ]
             refine wpAnyH_take (i := 7) (oi := ⟨some 80, _, _, _, _, _⟩) (v := .agg (rjCells { jr8 key with next := 1 + n }).toArray) rfl (by kernel_rfl) (by kernel_rfl) (by kernel_rfl) (fun _ _ _ h => h) (Or.inl ⟨by rfl, by intro W hS; go_simp⟩) (hSo _ bC) ?_
             simp only [Act.put, List.setIfInBounds_toArray, List.set_cons_zero, List.set_cons_succ]
             refine wpAnyH_take (i := 8) (oi := ⟨some 81, _, _, _, _, _⟩) (v := .agg (stCells 0 n tg).toArray) rfl (by kernel_rfl) (by kernel_rfl) (by kernel_rfl) (fun _ _ _ h => h) (Or.inl ⟨by rfl, by intro W hS; go_simp⟩) (hSo _ bC) ?_
             simp only [Act.put, List.setIfInBounds_toArray, List.set_cons_zero, List.set_cons_succ]
             refine wpAnyH_take (i := 9) (oi := ⟨some 82, _, _, _, _, _⟩) (v := .int .i64 0) rfl (by kernel_rfl) (by kernel_rfl) (by kernel_rfl) (fun _ _ _ h => h) (Or.inl ⟨by rfl, by intro W hS; go_simp⟩) (hSo _ bC) ?_
             simp only [Act.put, List.setIfInBounds_toArray, List.set_cons_zero, List.set_cons_succ])
        all_goals first
          | (refine wpAnyH_ready (rs := [4, 10]) (by decide +kernel) (by simp) ?_; refine AllReadyH.cons (o := ⟨some 78, .call { callee := .value (.func 12), args := #[.tmp 74, .tmp 75, .tmp 77], argTypes := #[33, 44, 52] }, _, _, _, _⟩) rfl (fun K' hK => ?_) (AllReadyH.cons (o := ⟨some 21, .alloc 44, _, _, _, _⟩) rfl (fun K' hK => ?_) (AllReadyH.nil)))
          | (refine wpAnyH_ready (rs := [4, 11]) (by decide +kernel) (by simp) ?_; refine AllReadyH.cons (o := ⟨some 78, .call { callee := .value (.func 12), args := #[.tmp 74, .tmp 75, .tmp 77], argTypes := #[33, 44, 52] }, _, _, _, _⟩) rfl (fun K' hK => ?_) (AllReadyH.cons (o := ⟨some 22, .alloc 42, _, _, _, _⟩) rfl (fun K' hK => ?_) (AllReadyH.nil)))
          | (refine wpAnyH_ready (rs := [10, 11]) (by decide +kernel) (by simp) ?_; refine AllReadyH.cons (o := ⟨some 21, .alloc 44, _, _, _, _⟩) rfl (fun K' hK => ?_) (AllReadyH.cons (o := ⟨some 22, .alloc 42, _, _, _, _⟩) rfl (fun K' hK => ?_) (AllReadyH.nil)))
          | (refine wpAnyH_ready (rs := [0]) (by decide +kernel) (by simp) ?_; refine AllReadyH.cons (o := ⟨some 74, .load 33 (.tmp 12), _, _, _, _⟩) rfl (fun K' hK => ?_) (AllReadyH.nil))
          | (refine wpAnyH_ready (rs := [3]) (by decide +kernel) (by simp) ?_; refine AllReadyH.cons (o := ⟨some 77, .call { callee := .value (.func 13), args := #[.tmp 76], argTypes := #[24] }, _, _, _, _⟩) rfl (fun K' hK => ?_) (AllReadyH.nil))
        all_goals first
          | (refine step_alloc_run rfl (run_allocJ _ _ rfl _) ?_
             obtain ⟨pJ, hpJ⟩ : ∃ p, p = uC.heap.size := ⟨_, rfl⟩
             have lJ : u0.heap.size ≤ pJ := by rw [hpJ]; exact bC.size
             obtain ⟨uC, huC, st, kN⟩ : ∃ u : World, u = uC.alloc (.cells Tryz.zeroCells44 44) ∧ Below uC.heap.size uC u ∧ Blk u uC.heap.size 44 Tryz.zeroCells44 := ⟨_, rfl, (Below.refl _ _).alloc (Nat.le_refl _) _, Blk.new _ _ _⟩
             rw [← hpJ] at kN
             try (have om := own_keep om (fun b e => st.block b (World.ownsRow.lt om b e).2))
             try (have oW := own_keep oW (fun b e => st.block b (World.ownsRow.lt oW b e).2); have oO := own_keep oO (fun b e => st.block b (World.ownsRow.lt oO b e).2))
             try (have kJ := kJ.below st kJ.lt)
             try (have kS := kS.below st kS.lt)
             have kJ := kN
             have bC := bC.trans (st.mono bC.size)
             refine hK.out _ _ (by rw [← huC]; exact hSo _ bC) (fun _ => ?_)
             clear hK st
             simp only [Act.put, List.setIfInBounds_toArray, List.set_cons_zero, List.set_cons_succ]
             rw [← huC, ← hpJ]
             clear huC hpJ)
          | (refine step_alloc_run rfl (run_allocS _ _ rfl _) ?_
             obtain ⟨pS, hpS⟩ : ∃ p, p = uC.heap.size := ⟨_, rfl⟩
             have lS : u0.heap.size ≤ pS := by rw [hpS]; exact bC.size
             obtain ⟨uC, huC, st, kN⟩ : ∃ u : World, u = uC.alloc (.cells st0.toArray 42) ∧ Below uC.heap.size uC u ∧ Blk u uC.heap.size 42 st0.toArray := ⟨_, rfl, (Below.refl _ _).alloc (Nat.le_refl _) _, Blk.new _ _ _⟩
             rw [← hpS] at kN
             try (have om := own_keep om (fun b e => st.block b (World.ownsRow.lt om b e).2))
             try (have oW := own_keep oW (fun b e => st.block b (World.ownsRow.lt oW b e).2); have oO := own_keep oO (fun b e => st.block b (World.ownsRow.lt oO b e).2))
             try (have kJ := kJ.below st kJ.lt)
             try (have kS := kS.below st kS.lt)
             have kS := kN
             have bC := bC.trans (st.mono bC.size)
             refine hK.out _ _ (by rw [← huC]; exact hSo _ bC) (fun _ => ?_)
             clear hK st
             simp only [Act.put, List.setIfInBounds_toArray, List.set_cons_zero, List.set_cons_succ]
             rw [← huC, ← hpS]
             clear huC hpS)
          | (refine step_load_mid rfl 33 _ rfl gm 0 (by rfl) ([.int .i64 8, .slice none 0 0, .slice none 0 0, .int .i64 (-1), .bool false, .slice none 0 0] : List Value) _ (hMo _ bC) uD rfl iD ?_
             refine hK.out _ _ (hSo _ bC) (fun _ => ?_)
             clear hK
             simp only [Act.put, List.setIfInBounds_toArray, List.set_cons_zero, List.set_cons_succ])
          | (refine step_call_w (by rfl) 13 [_] _ rfl [.slice (some ⟨g8, 0, none⟩) n c8] rfl emod _ (hmo _ (hu0b.trans (bC.mono hz0))) ?_
             rintro e uC ⟨Am, cm, rfl, omN, st⟩
             try (have om := own_keep om (fun b e => st.block b (World.ownsRow.lt om b e).2))
             try (have oW := own_keep oW (fun b e => st.block b (World.ownsRow.lt oW b e).2); have oO := own_keep oO (fun b e => st.block b (World.ownsRow.lt oO b e).2))
             try (have kJ := kJ.below st kJ.lt)
             try (have kS := kS.below st kS.lt)
             have om := omN
             have bC := bC.trans (st.mono bC.size)
             refine ⟨_, rfl, hK.out _ _ (hSo _ bC) (fun _ => ?_)⟩
             clear hK st
             simp only [Act.put, List.setIfInBounds_toArray, List.set_cons_zero, List.set_cons_succ])
          | (refine step_call_w (by rfl) 12 [_, _, _] _ rfl [.agg #[.int .i64 8, .slice none 0 0, .slice none 0 0, .int .i64 (-1), .bool false, .slice none 0 0], .agg (rjCells (jr8 key)).toArray, .slice Am n cm] rfl eapp _ (happ _ _ _ (ownsRow_lower om (Nat.zero_le _))) ?_
             rintro e uC ⟨A2, c2, B2, d2, x2, rfl, oWN, oON, ox, st⟩
             try (have om := own_keep om (fun b e => st.block b (World.ownsRow.lt om b e).2))
             try (have oW := own_keep oW (fun b e => st.block b (World.ownsRow.lt oW b e).2); have oO := own_keep oO (fun b e => st.block b (World.ownsRow.lt oO b e).2))
             try (have kJ := kJ.below st kJ.lt)
             try (have kS := kS.below st kS.lt)
             have oW := oWN
             have oO := oON
             have bC := bC.trans (st.mono bC.size)
             refine ⟨_, rfl, hK.out _ _ (hSo _ bC) (fun _ => ?_)⟩
             clear hK st
             simp only [Act.put, List.setIfInBounds_toArray, List.set_cons_zero, List.set_cons_succ]
             refine wpAnyH_take (i := 5) (oi := ⟨some 73, _, _, _, _, _⟩) (v := .tuple #[.agg #[.int .i64 8, .slice none 0 0, .slice A2 n c2, .int .i64 (-1), .bool false, .slice B2 n d2], .agg (rjCells { jr8 key with next := 1 + n }).toArray, .agg (stCells 0 n tg).toArray, .int .i64 0]) rfl (by kernel_rfl) (by kernel_rfl) (by kernel_rfl) (fun _ _ _ h => h) (Or.inl ⟨by rfl, by intro W hS; go_simp⟩) (hSo _ bC) ?_
             simp only [Act.put, List.setIfInBounds_toArray, List.set_cons_zero, List.set_cons_succ]
             refine wpAnyH_take (i := 6) (oi := ⟨some 79, _, _, _, _, _⟩) (v := .agg #[.int .i64 8, .slice none 0 0, .slice A2 n c2, .int .i64 (-1), .bool false, .slice B2 n d2]) rfl (by kernel_rfl) (by kernel_rfl) (by kernel_rfl) (fun _ _ _ h => h) (Or.inl ⟨by rfl, by intro W hS; go_simp⟩) (hSo _ bC) ?_
             simp only [Act.put, List.setIfInBounds_toArray, List.set_cons_zero, List.set_cons_succ]
             refine wpAnyH_take (i := 7) (oi := ⟨some 80, _, _, _, _, _⟩) (v := .agg (rjCells { jr8 key with next := 1 + n }).toArray) rfl (by kernel_rfl) (by kernel_rfl) (by kernel_rfl) (fun _ _ _ h => h) (Or.inl ⟨by rfl, by intro W hS; go_simp⟩) (hSo _ bC) ?_
             simp only [Act.put, List.setIfInBounds_toArray, List.set_cons_zero, List.set_cons_succ]
             refine wpAnyH_take (i := 8) (oi := ⟨some 81, _, _, _, _, _⟩) (v := .agg (stCells 0 n tg).toArray) rfl (by kernel_rfl) (by kernel_rfl) (by kernel_rfl) (fun _ _ _ h => h) (Or.inl ⟨by rfl, by intro W hS; go_simp⟩) (hSo _ bC) ?_
             simp only [Act.put, List.setIfInBounds_toArray, List.set_cons_zero, List.set_cons_succ]
             refine wpAnyH_take (i := 9) (oi := ⟨some 82, _, _, _, _, _⟩) (v := .int .i64 0) rfl (by kernel_rfl) (by kernel_rfl) (by kernel_rfl) (fun _ _ _ h => h) (Or.inl ⟨by rfl, by intro W hS; go_simp⟩) (hSo _ bC) ?_
             simp only [Act.put, List.setIfInBounds_toArray, List.set_cons_zero, List.set_cons_succ])
        all_goals first
          | (refine wpAnyH_ready (rs := [4]) (by decide +kernel) (by simp) ?_; refine AllReadyH.cons (o := ⟨some 78, .call { callee := .value (.func 12), args := #[.tmp 74, .tmp 75, .tmp 77], argTypes := #[33, 44, 52] }, _, _, _, _⟩) rfl (fun K' hK => ?_) (AllReadyH.nil))
          | (refine wpAnyH_ready (rs := [10]) (by decide +kernel) (by simp) ?_; refine AllReadyH.cons (o := ⟨some 21, .alloc 44, _, _, _, _⟩) rfl (fun K' hK => ?_) (AllReadyH.nil))
          | (refine wpAnyH_ready (rs := [11]) (by decide +kernel) (by simp) ?_; refine AllReadyH.cons (o := ⟨some 22, .alloc 42, _, _, _, _⟩) rfl (fun K' hK => ?_) (AllReadyH.nil))
        all_goals first
          | (refine step_alloc_run rfl (run_allocJ _ _ rfl _) ?_
             obtain ⟨pJ, hpJ⟩ : ∃ p, p = uC.heap.size := ⟨_, rfl⟩
             have lJ : u0.heap.size ≤ pJ := by rw [hpJ]; exact bC.size
             obtain ⟨uC, huC, st, kN⟩ : ∃ u : World, u = uC.alloc (.cells Tryz.zeroCells44 44) ∧ Below uC.heap.size uC u ∧ Blk u uC.heap.size 44 Tryz.zeroCells44 := ⟨_, rfl, (Below.refl _ _).alloc (Nat.le_refl _) _, Blk.new _ _ _⟩
             rw [← hpJ] at kN
             try (have om := own_keep om (fun b e => st.block b (World.ownsRow.lt om b e).2))
             try (have oW := own_keep oW (fun b e => st.block b (World.ownsRow.lt oW b e).2); have oO := own_keep oO (fun b e => st.block b (World.ownsRow.lt oO b e).2))
             try (have kJ := kJ.below st kJ.lt)
             try (have kS := kS.below st kS.lt)
             have kJ := kN
             have bC := bC.trans (st.mono bC.size)
             refine hK.out _ _ (by rw [← huC]; exact hSo _ bC) (fun _ => ?_)
             clear hK st
             simp only [Act.put, List.setIfInBounds_toArray, List.set_cons_zero, List.set_cons_succ]
             rw [← huC, ← hpJ]
             clear huC hpJ)
          | (refine step_alloc_run rfl (run_allocS _ _ rfl _) ?_
             obtain ⟨pS, hpS⟩ : ∃ p, p = uC.heap.size := ⟨_, rfl⟩
             have lS : u0.heap.size ≤ pS := by rw [hpS]; exact bC.size
             obtain ⟨uC, huC, st, kN⟩ : ∃ u : World, u = uC.alloc (.cells st0.toArray 42) ∧ Below uC.heap.size uC u ∧ Blk u uC.heap.size 42 st0.toArray := ⟨_, rfl, (Below.refl _ _).alloc (Nat.le_refl _) _, Blk.new _ _ _⟩
             rw [← hpS] at kN
             try (have om := own_keep om (fun b e => st.block b (World.ownsRow.lt om b e).2))
             try (have oW := own_keep oW (fun b e => st.block b (World.ownsRow.lt oW b e).2); have oO := own_keep oO (fun b e => st.block b (World.ownsRow.lt oO b e).2))
             try (have kJ := kJ.below st kJ.lt)
             try (have kS := kS.below st kS.lt)
             have kS := kN
             have bC := bC.trans (st.mono bC.size)
             refine hK.out _ _ (by rw [← huC]; exact hSo _ bC) (fun _ => ?_)
             clear hK st
             simp only [Act.put, List.setIfInBounds_toArray, List.set_cons_zero, List.set_cons_succ]
             rw [← huC, ← hpS]
             clear huC hpS)
          | (refine step_call_w (by rfl) 12 [_, _, _] _ rfl [.agg #[.int .i64 8, .slice none 0 0, .slice none 0 0, .int .i64 (-1), .bool false, .slice none 0 0], .agg (rjCells (jr8 key)).toArray, .slice Am n cm] rfl eapp _ (happ _ _ _ (ownsRow_lower om (Nat.zero_le _))) ?_
             rintro e uC ⟨A2, c2, B2, d2, x2, rfl, oWN, oON, ox, st⟩
             try (have om := own_keep om (fun b e => st.block b (World.ownsRow.lt om b e).2))
             try (have oW := own_keep oW (fun b e => st.block b (World.ownsRow.lt oW b e).2); have oO := own_keep oO (fun b e => st.block b (World.ownsRow.lt oO b e).2))
             try (have kJ := kJ.below st kJ.lt)
             try (have kS := kS.below st kS.lt)
             have oW := oWN
             have oO := oON
             have bC := bC.trans (st.mono bC.size)
             refine ⟨_, rfl, hK.out _ _ (hSo _ bC) (fun _ => ?_)⟩
             clear hK st
             simp only [Act.put, List.setIfInBounds_toArray, List.set_cons_zero, List.set_cons_succ]
             refine wpAnyH_take (i := 5) (oi := ⟨some 73, _, _, _, _, _⟩) (v := .tuple #[.agg #[.int .i64 8, .slice none 0 0, .slice A2 n c2, .int .i64 (-1), .bool false, .slice B2 n d2], .agg (rjCells { jr8 key with next := 1 + n }).toArray, .agg (stCells 0 n tg).toArray, .int .i64 0]) rfl (by kernel_rfl) (by kernel_rfl) (by kernel_rfl) (fun _ _ _ h => h) (Or.inl ⟨by rfl, by intro W hS; go_simp⟩) (hSo _ bC) ?_
             simp only [Act.put, List.setIfInBounds_toArray, List.set_cons_zero, List.set_cons_succ]
             refine wpAnyH_take (i := 6) (oi := ⟨some 79, _, _, _, _, _⟩) (v := .agg #[.int .i64 8, .slice none 0 0, .slice A2 n c2, .int .i64 (-1), .bool false, .slice B2 n d2]) rfl (by kernel_rfl) (by kernel_rfl) (by kernel_rfl) (fun _ _ _ h => h) (Or.inl ⟨by rfl, by intro W hS; go_simp⟩) (hSo _ bC) ?_
             simp only [Act.put, List.setIfInBounds_toArray, List.set_cons_zero, List.set_cons_succ]
             refine wpAnyH_take (i := 7) (oi := ⟨some 80, _, _, _, _, _⟩) (v := .agg (rjCells { jr8 key with next := 1 + n }).toArray) rfl (by kernel_rfl) (by kernel_rfl) (by kernel_rfl) (fun _ _ _ h => h) (Or.inl ⟨by rfl, by intro W hS; go_simp⟩) (hSo _ bC) ?_
             simp only [Act.put, List.setIfInBounds_toArray, List.set_cons_zero, List.set_cons_succ]
             refine wpAnyH_take (i := 8) (oi := ⟨some 81, _, _, _, _, _⟩) (v := .agg (stCells 0 n tg).toArray) rfl (by kernel_rfl) (by kernel_rfl) (by kernel_rfl) (fun _ _ _ h => h) (Or.inl ⟨by rfl, by intro W hS; go_simp⟩) (hSo _ bC) ?_
             simp only [Act.put, List.setIfInBounds_toArray, List.set_cons_zero, List.set_cons_succ]
             refine wpAnyH_take (i := 9) (oi := ⟨some 82, _, _, _, _, _⟩) (v := .int .i64 0) rfl (by kernel_rfl) (by kernel_rfl) (by kernel_rfl) (fun _ _ _ h => h) (Or.inl ⟨by rfl, by intro W hS; go_simp⟩) (hSo _ bC) ?_
             simp only [Act.put, List.setIfInBounds_toArray, List.set_cons_zero, List.set_cons_succ])
        all_goals (refine wpAnyH_listed (l' := #[true, true, true, true, true, true, true, true, true, true, true, true, false, false, false, false]) (by kernel_rfl) ?_; exact hcont Am cm A2 c2 B2 d2 pJ pS uC ⟨x2, bC, oW, oO, ox, kJ, kS, lJ, lS, (by intro h; subst h; exact absurd (kJ.kind.uniq kS.kind) (by decide))⟩)
      · rintro Am cm A2 c2 B2 d2 pJ pS u ⟨x2, bu, oW, oO, ox, kJ, kS, lJ, lS, nJS⟩
        have hu0h : ∀ j : Nat, u0.heap[j]? = w10.heap[j]? := fun j => by rw [hu0]; rfl
        have hu0s : u0.heap.size = w10.heap.size := by rw [hu0]; rfl
        have kMu : Blk u gm 33 ([.int .i64 8, .slice none 0 0, .slice none 0 0, .int .i64 (-1), .bool false, .slice none 0 0] : List Value).toArray := (bu.block gm (by rw [hu0s]; exact kM10.lt)).trans ((hu0h gm).trans kM10)
        have kru : Blk u gr 44 (rjCells (jr8 key)).toArray := (bu.block gr (by rw [hu0s]; exact kr10.lt)).trans ((hu0h gr).trans kr10)
        have lM := kM10.lt
        have lR := kr10.lt
        have jl1 := rjCells_length { jr8 key with next := 1 + n } hk List.length_replicate
        have jo1 := rjCells_one { jr8 key with next := 1 + n }
        have sl1 := stCells_length 0 n tg
        rw [HTGL.out] at sl1
        have so1 := HSO.out
        have hlz : (Tryz.zeroCells44).toList.length = 70 := by kernel_rfl
        obtain ⟨dl, hdl⟩ : ∃ dl : List Value, dl = ([.int .i64 8, .slice none 0 0, .slice A2 n c2, .int .i64 (-1), .bool false, .slice B2 n d2] : List Value) := ⟨_, rfl⟩
        have dl1 : dl.length = 6 := by rw [hdl]; rfl
        have do1 : ∀ v ∈ dl, v.oneCell' = true := by rw [hdl]; intro v hv; simp only [List.mem_cons, List.not_mem_nil, or_false] at hv; rcases hv with rfl | rfl | rfl | rfl | rfl | rfl <;> rfl
        rw [← hdl]
        have HDL := Lib.hid hdl
        clear hdl
        generalize hjl : rjCells { jr8 key with next := 1 + n } = jl at *
        have iD2 : (Tryz.prog.info? 33).map (·.size) = some dl.length := by rw [dl1]; kernel_rfl
        have iJ2 : (Tryz.prog.info? 44).map (·.size) = some jl.length := by rw [jl1]; kernel_rfl
        have iS2 : (Tryz.prog.info? 42).map (·.size) = some (stCells 0 n tg).length := by rw [sl1]; kernel_rfl
        have neM : gm ≠ pJ ∧ gm ≠ pS ∧ gr ≠ pJ ∧ gr ≠ pS ∧ gr ≠ gm := ⟨by omega, by omega, by omega, by omega, fun h => by subst h; exact absurd (kr10.kind.uniq kM10.kind) (by decide)⟩
        have th1 : u.there gm 0 dl.length := kMu.there (by rw [dl1]; exact Nat.le_refl _)
        have g1 : u.grownBy (u.setCells gm 0 dl) (some gm) := grownBy_setCells _ _ _ (World.grownBy.refl _ _)
        have p1 : Blk (u.setCells gm 0 dl) gm 33 dl.toArray := by
          have h := Blk.put (t := 33) dl [] ([.int .i64 8, .slice none 0 0, .slice none 0 0, .int .i64 (-1), .bool false, .slice none 0 0] : List Value) [] u (by rw [dl1]; rfl) (by simpa using kMu)
          simpa using h
        obtain ⟨u1, hu1⟩ : ∃ u1 : World, u1 = u.setCells gm 0 dl := ⟨_, rfl⟩
        rw [← hu1] at g1 p1
        have e1 : ∀ j : Nat, j < u.heap.size → j ≠ gm → u1.heap[j]? = u.heap[j]? := fun j hj hne => g1.block j hj (fun e => by injection e with e; omega)
        have kJ1 : Blk u1 pJ 44 (Tryz.zeroCells44).toList.toArray := by rw [Array.toArray_toList]; exact (e1 _ kJ.lt (fun h => neM.1 h.symm)).trans kJ
        have kS1 : Blk u1 pS 42 st0.toArray := (e1 _ kS.lt (fun h => neM.2.1 h.symm)).trans kS
        have kr1 : Blk u1 gr 44 (rjCells (jr8 key)).toArray := (e1 _ kru.lt neM.2.2.2.2).trans kru
        have th2 : u1.there pJ 0 jl.length := kJ1.there (by rw [jl1, List.size_toArray, hlz]; exact Nat.le_refl _)
        have g2 : u1.grownBy (u1.setCells pJ 0 jl) (some pJ) := grownBy_setCells _ _ _ (World.grownBy.refl _ _)
        obtain ⟨u2, hu2⟩ : ∃ u2 : World, u2 = u1.setCells pJ 0 jl := ⟨_, rfl⟩
        rw [← hu2] at g2
        have e2 : ∀ j : Nat, j < u1.heap.size → j ≠ pJ → u2.heap[j]? = u1.heap[j]? := fun j hj hne => g2.block j hj (fun e => by injection e with e; omega)
        have kM2 : Blk u2 gm 33 dl.toArray := (e2 _ p1.lt neM.1).trans p1
        have kS2 : Blk u2 pS 42 st0.toArray := (e2 _ kS1.lt (fun h => nJS h.symm)).trans kS1
        have kr2 : Blk u2 gr 44 (rjCells (jr8 key)).toArray := (e2 _ kr1.lt neM.2.2.1).trans kr1
        have th3 : u2.there pS 0 (stCells 0 n tg).length := kS2.there (by rw [sl1]; exact Nat.le_refl _)
        have g3 : u2.grownBy (u2.setCells pS 0 (stCells 0 n tg)) (some pS) := grownBy_setCells _ _ _ (World.grownBy.refl _ _)
        have p3 : Blk (u2.setCells pS 0 (stCells 0 n tg)) pS 42 (stCells 0 n tg).toArray := by
          have h := Blk.put (t := 42) (stCells 0 n tg) [] st0 [] u2 (by rw [sl1]; rfl) (by rw [List.append_nil]; exact kS2)
          rw [List.append_nil] at h
          exact h
        obtain ⟨u3, hu3⟩ : ∃ u3 : World, u3 = u2.setCells pS 0 (stCells 0 n tg) := ⟨_, rfl⟩
        rw [← hu3] at g3 p3
        have e3 : ∀ j : Nat, j < u2.heap.size → j ≠ pS → u3.heap[j]? = u2.heap[j]? := fun j hj hne => g3.block j hj (fun e => by injection e with e; omega)
        have kM3 : Blk u3 gm 33 dl.toArray := (e3 _ kM2.lt neM.2.1).trans kM2
        have kr3 : Blk u3 gr 44 (rjCells (jr8 key)).toArray := (e3 _ kr2.lt neM.2.2.2.1).trans kr2
        have s1r : u1.rangeAt gr 0 (rjCells (jr8 key)) := Blk.range kr1
        have s2r : u2.rangeAt gr 0 (rjCells (jr8 key)) := Blk.range kr2
        have s3r : u3.rangeAt gr 0 (rjCells (jr8 key)) := Blk.range kr3
        have z12 := g1.size
        have z23 := g2.size
        have z34 := g3.size
        have zu := bu.size
        have eu : ∀ j : Nat, j < u.heap.size → j ≠ gm → j ≠ pJ → j ≠ pS → u3.heap[j]? = u.heap[j]? := fun j hj h1 h2 h3 => (e3 j (by omega) h3).trans ((e2 j (by omega) h2).trans (e1 j hj h1))
        have ew : ∀ j : Nat, j < w10.heap.size → j ≠ gm → u3.heap[j]? = w10.heap[j]? := fun j hj h1 => (eu j (by omega) h1 (by omega) (by omega)).trans ((bu.block j (by omega)).trans (hu0h j))
        have oW3 := own_keep (w' := u3) oW (fun b e => eu b (World.ownsRow.lt oW b e).2 (fun h => by subst h; exact absurd ((own_kind oW e).uniq kMu.kind) (by decide)) (fun h => by subst h; exact absurd ((own_kind oW e).uniq kJ.kind) (by decide)) (fun h => by subst h; exact absurd ((own_kind oW e).uniq kS.kind) (by decide)))
        have oO3 := own_keep (w' := u3) oO (fun b e => eu b (World.ownsRow.lt oO b e).2 (fun h => by subst h; exact absurd ((own_kind oO e).uniq kMu.kind) (by decide)) (fun h => by subst h; exact absurd ((own_kind oO e).uniq kJ.kind) (by decide)) (fun h => by subst h; exact absurd ((own_kind oO e).uniq kS.kind) (by decide)))
        have k13 : Blk u3 w.heap.size 23 (bs key).toArray := (ew _ k110.lt (fun h => by rw [h] at k110; exact absurd (k110.kind.uniq kM10.kind) (by decide))).trans k110
        have k19 : Blk u3 w9.heap.size 41 (stCells 0 n tg).toArray := (ew _ k10.lt (fun h => by rw [h] at k10; exact absurd (k10.kind.uniq kM10.kind) (by decide))).trans k10
        have D3 : Disk u3 gd (fun k => gd ≤ k ∧ k ≠ gm) ⟨List.replicate 8 zeros192, S, -1, false, n⟩ := D10.keep (by omega) fun k t hK hf => ew k hK.lt (fun h => by
          rcases hf with hf | hf
          · exact hf.2 h
          · subst h hf; exact absurd (hK.uniq kM10.kind) (by decide))
        have yU : Below w.heap.size w u3 := (((y10.trans ((hu0b.trans (bu.mono hz0)).mono y10.size)).grown g1 (by omega) (fun k e => by injection e with e; omega)).grown g2 (by omega) (fun k e => by injection e with e; omega)).grown g3 (by omega) (fun k e => by injection e with e; omega)
        clear hmo happ hMo hSo kMu kru kJ1 kS1 kr1 kM2 kS2 kr2 g1 g2 g3 e1 e2 e3 ew eu bu oW oO kJ kS ho10 hR10 hu0h D10 k110 kr10 k10 y10 hu0b emod eapp
        refine wpAnyH_ready (rs := [12]) (by kernel_rfl) (by simp) ?_
        refine AllReadyH.cons (o := ⟨none, .store 33 (.tmp 12) (.tmp 79), _, _, _, _⟩) rfl (fun K' hK => ?_) AllReadyH.nil
        rw [if_pos (by rfl)]
        refine wp_store_mid _ _ _ rfl _ _ (List.toArray _) rfl rfl ?_ ?_ (all_oneCell_toArray do1) ?_
        · simpa using th1
        · rw [List.size_toArray]; exact iD2
        simp only [Act.put]
        refine hK.out _ _ (by rw [← hu1]; exact s1r) (fun _ => ?_)
        clear hK
        rw [← hu1]
        refine wpAnyH_ready (rs := [13]) (by kernel_rfl) (by simp) ?_
        refine AllReadyH.cons (o := ⟨none, .store 44 (.tmp 21) (.tmp 80), _, _, _, _⟩) rfl (fun K' hK => ?_) AllReadyH.nil
        rw [if_pos (by rfl)]
        refine wp_store_mid _ _ _ rfl _ _ (List.toArray _) rfl rfl ?_ ?_ jo1 ?_
        · simpa using th2
        · rw [List.size_toArray]; exact iJ2
        simp only [Act.put]
        refine hK.out _ _ (by rw [← hu2]; exact s2r) (fun _ => ?_)
        clear hK
        rw [← hu2]
        refine wpAnyH_ready (rs := [14]) (by kernel_rfl) (by simp) ?_
        refine AllReadyH.cons (o := ⟨none, .store 42 (.tmp 22) (.tmp 81), _, _, _, _⟩) rfl (fun K' hK => ?_) AllReadyH.nil
        rw [if_pos (by rfl)]
        refine wp_store_mid _ _ _ rfl _ _ (List.toArray _) rfl rfl ?_ ?_ so1 ?_
        · simpa using th3
        · rw [List.size_toArray]; exact iS2
        simp only [Act.put]
        refine hK.out _ _ (by rw [← hu3]; exact s3r) (fun _ => ?_)
        clear hK
        rw [← hu3]
        refine wpAnyH_take (i := 15) (oi := ⟨some 23, _, _, _, _, _⟩) (v := .int .i64 0) rfl (by kernel_rfl) (by kernel_rfl) (by kernel_rfl) (fun _ _ _ h => h) (Or.inl ⟨by rfl, by intro W hS; go_simp⟩) s3r ?_
        simp only [Act.put, List.setIfInBounds_toArray, List.set_cons_zero, List.set_cons_succ]
        refine wpAnyH_done (by kernel_rfl) ?_ _
        clear s1r s2r s3r th1 th2 th3 hu1 hu2 hu3
        go_wp2
        have hz3 : w10.heap.size ≤ u3.heap.size := by omega
        have hso := fun W => stateOf_any 0 n tg W HTGL.out
        have hneq := fun W => run_neq_state W 0 n tg HTGL.out
        have u41 := Tryz.underlying41
        have u42 := Tryz.underlying42
        have i41 : (Tryz.prog.info? 41).map (·.size) = some (stCells 0 n tg).length := by rw [sl1]; kernel_rfl
        have esto : ∀ args w, (callFunc 14 args).run Tryz.prog w = .ok (.enter 14 args) w := enters_of Tryz.func14 (by kernel_rfl) rfl
        have hS4 : ∀ W, Below u3.heap.size u3 W → W.rangeAt w9.heap.size 0 (stCells 0 n tg) ∧ W.rangeAt pS 0 (stCells 0 n tg) := fun W hb => ⟨Blk.range (k19.below hb k19.lt), Blk.range (p3.below hb p3.lt)⟩
        have bd3 : Below u3.heap.size u3 u3.drew := (Below.refl _ _).drew
        refine wp_region_held_drew (S := fun w' => w'.rangeAt w9.heap.size 0 (stCells 0 n tg) ∧ w'.rangeAt pS 0 (stCells 0 n tg)) (by kernel_rfl) (hS4 _ bd3) (fun _ => ?_)
        refine wpAnyH_take (i := 0) (oi := ⟨some 83, _, _, _, _, _⟩) (v := .int .i64 0) rfl (by kernel_rfl) (by kernel_rfl) (by kernel_rfl) (fun _ _ _ h => h) (Or.inl ⟨by rfl, by intro W hS; go_simp⟩) (hS4 _ bd3) ?_
        simp only [Act.put, List.setIfInBounds_toArray, List.set_cons_zero, List.set_cons_succ]
        refine wpAnyH_take (i := 1) (oi := ⟨some 84, _, _, _, _, _⟩) (v := .bool false) rfl (by kernel_rfl) (by kernel_rfl) (by kernel_rfl) (fun _ _ _ h => h) (Or.inl ⟨by rfl, by intro W hS; go_simp⟩) (hS4 _ bd3) ?_
        simp only [Act.put, List.setIfInBounds_toArray, List.set_cons_zero, List.set_cons_succ]
        refine wpAnyH_take (i := 2) (oi := ⟨some 85, _, _, _, _, _⟩) (v := .bool false) rfl (by kernel_rfl) (by kernel_rfl) (by kernel_rfl) (fun _ _ _ h => h) (Or.inl ⟨by rfl, by intro W hS; go_simp⟩) (hS4 _ bd3) ?_
        simp only [Act.put, List.setIfInBounds_toArray, List.set_cons_zero, List.set_cons_succ]
        refine wpAnyH_take (i := 3) (oi := ⟨some 86, _, _, _, _, _⟩) (v := .int .i64 0) rfl (by kernel_rfl) (by kernel_rfl) (by kernel_rfl) (fun _ _ _ h => h) (Or.inl ⟨by rfl, by intro W hS; go_simp⟩) (hS4 _ bd3) ?_
        simp only [Act.put, List.setIfInBounds_toArray, List.set_cons_zero, List.set_cons_succ]
        refine wpAnyH_take (i := 4) (oi := ⟨some 87, _, _, _, _, _⟩) (v := .bool false) rfl (by kernel_rfl) (by kernel_rfl) (by kernel_rfl) (fun _ _ _ h => h) (Or.inl ⟨by rfl, by intro W hS; go_simp⟩) (hS4 _ bd3) ?_
        simp only [Act.put, List.setIfInBounds_toArray, List.set_cons_zero, List.set_cons_succ]
        refine wpAnyH_take (i := 5) (oi := ⟨some 88, _, _, _, _, _⟩) (v := .bool false) rfl (by kernel_rfl) (by kernel_rfl) (by kernel_rfl) (fun _ _ _ h => h) (Or.inl ⟨by rfl, by intro W hS; go_simp⟩) (hS4 _ bd3) ?_
        simp only [Act.put, List.setIfInBounds_toArray, List.set_cons_zero, List.set_cons_succ]
        refine wpAnyH_take (i := 6) (oi := ⟨some 89, _, _, _, _, _⟩) (v := .bool false) rfl (by kernel_rfl) (by kernel_rfl) (by kernel_rfl) (fun _ _ _ h => h) (Or.inl ⟨by rfl, by intro W hS; go_simp⟩) (hS4 _ bd3) ?_
        simp only [Act.put, List.setIfInBounds_toArray, List.set_cons_zero, List.set_cons_succ]
        refine wpAnyH_take (i := 7) (oi := ⟨some 90, _, _, _, _, _⟩) (v := .agg (stCells 0 n tg).toArray) rfl (by kernel_rfl) (by kernel_rfl) (by kernel_rfl) (fun _ _ _ h => h) (yieldsIf_load_mid (by rfl) 41 _ rfl w9.heap.size 0 (by rfl) (stCells 0 n tg) _ (fun W h => h.1) u41 rfl i41) (hS4 _ bd3) ?_
        simp only [Act.put, List.setIfInBounds_toArray, List.set_cons_zero, List.set_cons_succ]
        refine wpAnyH_take (i := 9) (oi := ⟨some 92, _, _, _, _, _⟩) (v := .agg (stCells 0 n tg).toArray) rfl (by kernel_rfl) (by kernel_rfl) (by kernel_rfl) (fun _ _ _ h => h) (yieldsIf_load_mid (by rfl) 42 _ rfl pS 0 (by rfl) (stCells 0 n tg) _ (fun W h => h.2) u42 rfl iS2) (hS4 _ bd3) ?_
        simp only [Act.put, List.setIfInBounds_toArray, List.set_cons_zero, List.set_cons_succ]
        refine wpAnyH_ready (rs := [8]) (by kernel_rfl) (by simp) ?_
        refine AllReadyH.cons (o := ⟨some 91, .call { callee := .value (.func 14), args := #[.tmp 90], argTypes := #[41] }, _, _, _, _⟩) rfl (fun K' hK => ?_) AllReadyH.nil
        refine step_call_w (by rfl) 14 [_] _ rfl [.agg (stCells 0 n tg).toArray] rfl esto _ (hso _) ?_
        rintro e u5 ⟨rfl, b5⟩
        have b35 : Below u3.heap.size u3 u5 := bd3.trans b5
        refine ⟨_, rfl, hK.out _ _ (hS4 _ b35) (fun _ => ?_)⟩
        clear hK
        simp only [Act.put, List.setIfInBounds_toArray, List.set_cons_zero, List.set_cons_succ]
        refine wpAnyH_take (i := 10) (oi := ⟨some 93, _, _, _, _, _⟩) (v := .bool false) rfl (by kernel_rfl) (by kernel_rfl) (by kernel_rfl) (fun _ _ _ h => h) (Or.inl ⟨by rfl, by intro W hS; go_simp⟩) (hS4 _ b35) ?_
        simp only [Act.put, List.setIfInBounds_toArray, List.set_cons_zero, List.set_cons_succ]
        refine wpAnyH_take (i := 11) (oi := ⟨some 94, _, _, _, _, _⟩) (v := .bool false) rfl (by kernel_rfl) (by kernel_rfl) (by kernel_rfl) (fun _ _ _ h => h) (Or.inl ⟨by rfl, by intro W hS; go_simp⟩) (hS4 _ b35) ?_
        simp only [Act.put, List.setIfInBounds_toArray, List.set_cons_zero, List.set_cons_succ]
        refine wpAnyH_done (by kernel_rfl) ?_ _
        have hcb : cnt.toNat < 256 := cnt.toNat_lt
        have hcm : cnt.toNat % 9 < 9 := Nat.mod_lt _ (by omega)
        have hcn : (cnt.toNat : Int) < 256 := by omega
        have k195 := k19.below b35 k19.lt
        have q195 : u5.cell? ⟨w9.heap.size, 1, none⟩ = some (.int .u64 (n : Int)) := k195.cell 1
        have f195 := k195.frozen 1
        have kM5 := kM3.below b35 kM3.lt
        have k15 := k13.below b35 k13.lt
        have D5 := D3.under b35
        have oW5 := own_keep oW3 (fun b e => b35.block b (World.ownsRow.lt oW3 b e).2)
        have oO5 := own_keep oO3 (fun b e => b35.block b (World.ownsRow.lt oO3 b e).2)
        have y5 := yU.trans (b35.mono yU.size)
        have z35 := b35.size
        clear hso hneq u41 u42 i41 esto hS4 bd3 b5 k19 kM3 k13 D3 oW3 oO3 p3 kr3
        obtain ⟨C, hC⟩ : ∃ C, C = cnt.toNat % 9 := ⟨_, rfl⟩
        have hCi : (cnt.toNat : Int) % 9 = (C : Int) := by rw [hC]; simp
        have hC8 : C ≤ 8 := by omega
        obtain ⟨u6, hu6⟩ : ∃ u6 : World, u6 = (u5.setCell ⟨w9.heap.size, 1, none⟩ (.int .u64 ((cnt.toNat : Int) % 9))) := ⟨_, rfl⟩
        have k196 : Blk u6 w9.heap.size 41 (stCells 0 C tg).toArray := by
          rw [hu6, hCi]
          exact k195.set_ 1 (.int .u64 (C : Int))
        have z56 : u6.heap.size = u5.heap.size := by rw [hu6]; simp [World.setCell]
        have e56 : ∀ j : Nat, j ≠ w9.heap.size → u6.heap[j]? = u5.heap[j]? := fun j h => by rw [hu6]; exact Below.heap_setCell _ _ _ _ h
        have k16 : Blk u6 w.heap.size 23 (bs key).toArray := (e56 _ (fun h => by rw [h] at k15; exact absurd (k15.kind.uniq k195.kind) (by decide))).trans k15
        have kM6 : Blk u6 gm 33 dl.toArray := (e56 _ (fun h => by rw [h] at kM5; exact absurd (kM5.kind.uniq k195.kind) (by decide))).trans kM5
        have D6 : Disk u6 gd (fun k => gd ≤ k ∧ k ≠ gm) ⟨List.replicate 8 zeros192, S, -1, false, n⟩ := D5.keepW (by omega) fun k t hK hf => e56 k (fun h => by
          subst h
          have ht := hK.uniq k195.kind
          subst ht
          rcases hf with hf | hf
          · exact absurd hf.2.1 (by decide)
          · exact absurd hf (by decide))
        have oW6 := own_keep (w' := u6) oW5 (fun b e => e56 b (fun h => by subst h; exact absurd ((own_kind oW5 e).uniq k195.kind) (by decide)))
        have oO6 := own_keep (w' := u6) oO5 (fun b e => e56 b (fun h => by subst h; exact absurd ((own_kind oO5 e).uniq k195.kind) (by decide)))
        have y6 : Below w.heap.size w u6 := by rw [hu6]; exact y5.setCell (by show w.heap.size ≤ w9.heap.size; have := y8.size; omega) _
        have T6 := hT.under y6
        have HU6 := Lib.hid hu6
        have HCI := Lib.hid hCi
        have sC := stCells_length 0 C tg
        rw [HTGL.out] at sC
        have iC : (Tryz.prog.info? 41).map (·.size) = some (stCells 0 C tg).toArray.size := by rw [List.size_toArray, sC]; kernel_rfl
        have IC := Lib.hid iC
        clear hu6 hCi iC k195 e56 oW5 oO5 D5 k15 kM5 y5 hcm hcb hcn hC
        have hw9 : w10.heap.size ≤ u6.heap.size := by omega
        have hSl : ∀ tg2 : List UInt8, rSlots [] S 0 8 0 C = ldSlots ⟨List.replicate 8 zeros192, S, -1, false, n⟩ 0 8 0 C := fun _ => rSlots_ldSlots ⟨List.replicate 8 zeros192, S, -1, false, n⟩ 8 0 8 0 C rfl (by omega) (by omega)
        have hrl : ∀ (tg2 : List UInt8) (W : World), tg2.length = 32 → W.ownsRow 0 142 2 (.slice A2 n c2) n (encW S) → W.ownsRow 0 169 2 (.slice B2 n d2) n x2 → Calls Tryz.prog 18 #[.agg dl.toArray, .agg (bs key).toArray, .int .i64 0, .int .i64 8, .agg (stCells 0 C tg2).toArray] W fun e w' =>
            ∃ dx : List Value, dx.length = 6 ∧ (∀ v ∈ dx, v.oneCell' = true) ∧ ((loadV key tg2 (ldSlots ⟨List.replicate 8 zeros192, S, -1, false, n⟩ 0 8 0 C) = none ∧ e = .returned (.tuple #[.agg dx.toArray, .slice none 0 0, .int .i64 14])) ∨
              ∃ ll A' c' ys, loadV key tg2 (ldSlots ⟨List.replicate 8 zeros192, S, -1, false, n⟩ 0 8 0 C) = some ll ∧ e = .returned (.tuple #[.agg dx.toArray, .slice A' ll.length c', .int .i64 0]) ∧ w'.ownsRow W.heap.size 52 1 (.slice A' ll.length c') ll.length ys ∧ RowMs w' W.heap.size ys ll) ∧ Below W.heap.size W w' := fun tg2 W ht2 h1 h2 => by
          have h := rload_any 8 0 0 n c2 n d2 none A2 B2 (-1) [] S x2 0 8 0 C key tg2 W (World.ownsRow_nil _ _ _ _) rfl (by omega) h1 (by rw [HS1.out, hlp]) (by omega) h2 ox hk ht2 (by omega) (by omega) (by omega) (by omega) hC8 (by omega) (fun p hp => by cases hp) HS2.out
          rw [hSl tg2, show (#[.int .i64 ((8 : Nat) : Int), .slice none 0 0, .slice A2 n c2, .int .i64 (-1), .bool false, .slice B2 n d2] : Array Value) = dl.toArray by rw [HDL.out]; rfl] at h
          refine h.mono fun e w' h3 => ?_
          obtain ⟨⟨no2, Ao2, co2, h4⟩, h5⟩ := h3
          refine ⟨[.int .i64 ((8 : Nat) : Int), .slice none 0 0, .slice A2 n c2, .int .i64 (-1), .bool false, .slice Ao2 no2 co2], rfl, ?_, ?_, h5⟩
          · intro v hv
            simp only [List.mem_cons, List.not_mem_nil, or_false] at hv
            rcases hv with rfl | rfl | rfl | rfl | rfl | rfl <;> rfl
          · rcases h4 with h4 | ⟨ll, A', c', ys, e1, e2, e3, e4⟩
            · exact .inl h4
            · exact .inr ⟨ll, A', c', ys, e1, e2, e3, e4⟩
        cases link with
        | false =>
          have hld := load_all gd 0 8 0 C _ ⟨List.replicate 8 zeros192, S, -1, false, n⟩ key tg u6 D6 hk HTGL.out (by omega) (by show 0 + 8 ≤ (List.replicate 8 zeros192).length; rw [List.length_replicate]; omega) (by show (List.replicate 8 zeros192).length ≤ 1048576; rw [List.length_replicate]; omega) (by omega) hC8 rfl (fun b hb => by rw [(List.mem_replicate.1 hb).2]; exact List.length_replicate) HS2.out (by show S.length ≤ 1048576; have := HS1.out; omega) (by show n + C ≤ 1048576; omega) T6 (fun k hk => by have h1 : gd ≤ k := hk.1; omega)
          have hso := fun W => stateOf_any 0 C tg W HTGL.out
          have hsx : ldSlots ⟨List.replicate 8 zeros192, S, -1, false, n⟩ 0 8 0 C = (ldSlots ⟨List.replicate 8 zeros192, S, -1, false, n⟩ 0 8 0 C) := rfl
          rw [hsx] at hld
          have hrl1 := fun W => hrl tg W HTGL.out
          have sC := stCells_length 0 C tg
          rw [HTGL.out] at sC
          have iC : (Tryz.prog.info? 41).map (·.size) = some (stCells 0 C tg).toArray.size := by rw [List.size_toArray, sC]; kernel_rfl
          have iCs : (Tryz.prog.info? 41).map (·.size) = some (stCells 0 C tg).length := by rw [sC]; kernel_rfl
          have i23 : (Tryz.prog.info? 23).map (·.size) = some (bs key).length := by rw [bs_length, hk]; kernel_rfl
          have u23 := Tryz.underlying23
          have u41 := Tryz.underlying41
          have uD := Tryz.underlying33
          have esto : ∀ args w, (callFunc 14 args).run Tryz.prog w = .ok (.enter 14 args) w := enters_of Tryz.func14 (by kernel_rfl) rfl
          have eref : ∀ args w, (callFunc 18 args).run Tryz.prog w = .ok (.enter 18 args) w := enters_of Tryz.func18 (by kernel_rfl) rfl
          have IC := Lib.hid iC
          clear iC hrl sC
          have hcs : loadV key tg (ldSlots ⟨List.replicate 8 zeros192, S, -1, false, n⟩ 0 8 0 C) = none ∨ ∃ ll, loadV key tg (ldSlots ⟨List.replicate 8 zeros192, S, -1, false, n⟩ 0 8 0 C) = some ll := by
            cases loadV key tg (ldSlots ⟨List.replicate 8 zeros192, S, -1, false, n⟩ 0 8 0 C) with
            | none => exact .inl rfl
            | some ll => exact .inr ⟨ll, rfl⟩
          rcases hcs with hlv | ⟨ll, hlv⟩
          · have hld2 : Calls Tryz.prog 17 #[.pointer (some ⟨gd, 0, none⟩), .agg (bs key).toArray, .int .i64 0, .int .i64 8, .agg (stCells 0 C tg).toArray] u6 fun e w' => e = .returned (.tuple #[.slice none 0 0, .int .i64 14]) ∧ Only (fun k => gd ≤ k ∧ k ≠ gm) u6 w' := hld.mono fun e w' h => by
              rcases h with ⟨h1 | ⟨ll, v, ys, h1, _⟩, _, h3⟩
              · exact ⟨h1.2, h3⟩
              · rw [hlv] at h1; cases h1
            have hrl2 := fun W h1 h2 => (hrl1 W h1 h2).mono (R' := fun e w' => ∃ dx : List Value, dx.length = 6 ∧ (∀ v ∈ dx, v.oneCell' = true) ∧ e = .returned (.tuple #[.agg dx.toArray, .slice none 0 0, .int .i64 14]) ∧ Below W.heap.size W w') fun e w' h => by
              obtain ⟨dx, d1, d2, h3 | ⟨ll, A', c', ys, h3, _⟩, h4⟩ := h
              · exact ⟨dx, d1, d2, h3.2, h4⟩
              · rw [hlv] at h3; cases h3
            clear hld hrl1 hlv
            go_wp2_with (first | ((with_reducible refine wpList_load_blk (o := ⟨some 122, _, _, _, _, _⟩) rfl 23 _ rfl w.heap.size rfl 23 _ _ (by rw [← HU6.out]; exact k16) Tryz.underlying23 rfl (by rw [Z1.out]; kernel_rfl) ?_)) | ((with_reducible refine wpList_load_blk (o := ⟨some 123, _, _, _, _, _⟩) rfl 41 _ rfl w9.heap.size rfl 41 _ _ (by rw [← HU6.out]; exact k196) Tryz.underlying41 rfl IC.out ?_)) | (go_at_call 17; rw [← HU6.out]; refine hld2.mono ?_; rintro e w7 ⟨rfl, O7⟩; have kM7 := O7.blk kM6 (.inr (by decide)); have k17 := O7.blk k16 (.inr (by decide)); have k197 := O7.blk k196 (.inr (by decide)); have oW7 := O7.own oW6 (.inr (by decide)); have oO7 := O7.own oO6 (.inr (by decide)); have y7 := y6.trans (O7.below y6.size (fun k h => by have h1 : gd ≤ k := h.1; omega)); clear hld2))
            have hS8 : ∀ W, Below w7.heap.size w7 W → W.rangeAt gm 0 dl ∧ W.rangeAt w.heap.size 0 (bs key) ∧ W.rangeAt w9.heap.size 0 (stCells 0 C tg) := fun W hb => ⟨Blk.range (kM7.below hb kM7.lt), Blk.range (k17.below hb k17.lt), Blk.range (k197.below hb k197.lt)⟩
            have bd7 : Below w7.heap.size w7 w7.drew := (Below.refl _ _).drew
            refine wp_region_held_drew (S := fun w' => w'.rangeAt gm 0 dl ∧ w'.rangeAt w.heap.size 0 (bs key) ∧ w'.rangeAt w9.heap.size 0 (stCells 0 C tg)) (by kernel_rfl) (hS8 _ bd7) (fun _ => ?_)
            obtain ⟨v0, hv0⟩ : ∃ v0 : World, v0 = w7.drew := ⟨_, rfl⟩
            rw [← hv0]
            rw [← hv0] at bd7
            refine wpAnyH_take (i := 0) (oi := ⟨some 128, _, _, _, _, _⟩) (v := .agg dl.toArray) rfl (by kernel_rfl) (by kernel_rfl) (by kernel_rfl) (fun _ _ _ h => h) (yieldsIf_load_mid (by rfl) 33 _ rfl gm 0 (by rfl) dl _ (fun W h => h.1) uD rfl iD2) (hS8 _ bd7) ?_
            simp only [Act.put, List.setIfInBounds_toArray, List.set_cons_zero, List.set_cons_succ]
            refine wpAnyH_take (i := 1) (oi := ⟨some 129, _, _, _, _, _⟩) (v := .agg (bs key).toArray) rfl (by kernel_rfl) (by kernel_rfl) (by kernel_rfl) (fun _ _ _ h => h) (yieldsIf_load_mid (by rfl) 23 _ rfl w.heap.size 0 (by rfl) (bs key) _ (fun W h => h.2.1) u23 rfl i23) (hS8 _ bd7) ?_
            simp only [Act.put, List.setIfInBounds_toArray, List.set_cons_zero, List.set_cons_succ]
            refine wpAnyH_take (i := 2) (oi := ⟨some 130, _, _, _, _, _⟩) (v := .agg (stCells 0 C tg).toArray) rfl (by kernel_rfl) (by kernel_rfl) (by kernel_rfl) (fun _ _ _ h => h) (yieldsIf_load_mid (by rfl) 41 _ rfl w9.heap.size 0 (by rfl) (stCells 0 C tg) _ (fun W h => h.2.2) u41 rfl iCs) (hS8 _ bd7) ?_
            simp only [Act.put, List.setIfInBounds_toArray, List.set_cons_zero, List.set_cons_succ]
            refine wpAnyH_ready (rs := [3, 9]) (by kernel_rfl) (by simp) ?_
            refine AllReadyH.cons (o := ⟨some 131, .call { callee := .value (.func 14), args := #[.tmp 130], argTypes := #[41] }, _, _, _, _⟩) rfl (fun K' hK => ?_) (AllReadyH.cons (o := ⟨some 30, .alloc 33, _, _, _, _⟩) rfl (fun K' hK => ?_) (AllReadyH.nil))
            · refine step_call_w (by rfl) 14 [_] _ rfl [.agg (stCells 0 C tg).toArray] rfl esto _ (hso _) ?_
              rintro e v1 ⟨rfl, st⟩
              have bv1 := bd7.trans (st.mono bd7.size)
              refine ⟨_, rfl, hK.out _ _ (hS8 _ bv1) (fun _ => ?_)⟩
              clear hK st
              simp only [Act.put, List.setIfInBounds_toArray, List.set_cons_zero, List.set_cons_succ]
              refine wpAnyH_ready (rs := [4, 9]) (by kernel_rfl) (by simp) ?_
              refine AllReadyH.cons (o := ⟨some 132, .call { callee := .value (.func 18), args := #[.tmp 128, .tmp 129, .const (.int .i64 0), .const (.int .i64 8), .tmp 131], argTypes := #[33, 23, 3, 3, 42] }, _, _, _, _⟩) rfl (fun K' hK => ?_) (AllReadyH.cons (o := ⟨some 30, .alloc 33, _, _, _, _⟩) rfl (fun K' hK => ?_) (AllReadyH.nil))
              · refine step_call_w (by rfl) 18 [_, _, _, _, _] _ rfl [.agg dl.toArray, .agg (bs key).toArray, .int .i64 0, .int .i64 8, .agg (stCells 0 C tg).toArray] rfl eref _ (hrl2 _ (own_keep oW7 (fun b e => bv1.block b (World.ownsRow.lt oW7 b e).2)) (own_keep oO7 (fun b e => bv1.block b (World.ownsRow.lt oO7 b e).2))) ?_
                rintro e v2 ⟨dx, dxl, dxo, rfl, st⟩
                have bv2 := bv1.trans (st.mono bv1.size)
                refine ⟨_, rfl, hK.out _ _ (hS8 _ bv2) (fun _ => ?_)⟩
                clear hK st
                simp only [Act.put, List.setIfInBounds_toArray, List.set_cons_zero, List.set_cons_succ]
                refine wpAnyH_take (i := 5) (oi := ⟨some 127, _, _, _, _, _⟩) (v := .tuple #[.agg dx.toArray, .slice none 0 0, .int .i64 14]) rfl (by kernel_rfl) (by kernel_rfl) (by kernel_rfl) (fun _ _ _ h => h) (Or.inl ⟨by rfl, by intro W hS; go_simp⟩) (hS8 _ bv2) ?_
                simp only [Act.put, List.setIfInBounds_toArray, List.set_cons_zero, List.set_cons_succ]
                refine wpAnyH_take (i := 6) (oi := ⟨some 133, _, _, _, _, _⟩) (v := .agg dx.toArray) rfl (by kernel_rfl) (by kernel_rfl) (by kernel_rfl) (fun _ _ _ h => h) (Or.inl ⟨by rfl, by intro W hS; go_simp⟩) (hS8 _ bv2) ?_
                simp only [Act.put, List.setIfInBounds_toArray, List.set_cons_zero, List.set_cons_succ]
                refine wpAnyH_take (i := 7) (oi := ⟨some 134, _, _, _, _, _⟩) (v := .slice none 0 0) rfl (by kernel_rfl) (by kernel_rfl) (by kernel_rfl) (fun _ _ _ h => h) (Or.inl ⟨by rfl, by intro W hS; go_simp⟩) (hS8 _ bv2) ?_
                simp only [Act.put, List.setIfInBounds_toArray, List.set_cons_zero, List.set_cons_succ]
                refine wpAnyH_take (i := 8) (oi := ⟨some 135, _, _, _, _, _⟩) (v := .int .i64 14) rfl (by kernel_rfl) (by kernel_rfl) (by kernel_rfl) (fun _ _ _ h => h) (Or.inl ⟨by rfl, by intro W hS; go_simp⟩) (hS8 _ bv2) ?_
                simp only [Act.put, List.setIfInBounds_toArray, List.set_cons_zero, List.set_cons_succ]
                refine wpAnyH_ready (rs := [9]) (by kernel_rfl) (by simp) ?_
                refine AllReadyH.cons (o := ⟨some 30, .alloc 33, _, _, _, _⟩) rfl (fun K' hK => ?_) (AllReadyH.nil)
                · refine step_alloc_run rfl (run_allocD _ _ rfl _) ?_
                  have st : Below v2.heap.size v2 (v2.alloc (.cells ([.int .i64 0, .slice none 0 0, .slice none 0 0, .int .i64 0, .bool false, .slice none 0 0] : List Value).toArray 33)) := (Below.refl _ _).alloc (Nat.le_refl _) _
                  have kD : Blk (v2.alloc (.cells ([.int .i64 0, .slice none 0 0, .slice none 0 0, .int .i64 0, .bool false, .slice none 0 0] : List Value).toArray 33)) v2.heap.size 33 ([.int .i64 0, .slice none 0 0, .slice none 0 0, .int .i64 0, .bool false, .slice none 0 0] : List Value).toArray := Blk.new _ _ _
                  obtain ⟨pD, hpD⟩ : ∃ pD, pD = v2.heap.size := ⟨_, rfl⟩
                  obtain ⟨v3, hwv3⟩ : ∃ u : World, u = v2.alloc (.cells ([.int .i64 0, .slice none 0 0, .slice none 0 0, .int .i64 0, .bool false, .slice none 0 0] : List Value).toArray 33) := ⟨_, rfl⟩
                  rw [← hwv3] at st kD
                  rw [← hpD] at kD
                  have lD : w7.heap.size ≤ pD := by rw [hpD]; exact bv2.size
                  have bv3 := bv2.trans (st.mono bv2.size)
                  refine hK.out _ _ (by rw [← hwv3]; exact hS8 _ bv3) (fun _ => ?_)
                  clear hK st
                  simp only [Act.put, List.setIfInBounds_toArray, List.set_cons_zero, List.set_cons_succ]
                  rw [← hwv3, ← hpD]
                  clear hwv3 hpD
                  have pz := kD.lt
                  have gF : v3.grownBy (v3.setCells pD 0 dx) (some pD) := grownBy_setCells _ _ _ (World.grownBy.refl _ _)
                  have thD : v3.there pD 0 dx.length := kD.there (by rw [dxl]; exact Nat.le_refl _)
                  have sF : (v3.setCells pD 0 dx).rangeAt gm 0 dl ∧ (v3.setCells pD 0 dx).rangeAt w.heap.size 0 (bs key) ∧ (v3.setCells pD 0 dx).rangeAt w9.heap.size 0 (stCells 0 C tg) := ⟨Blk.range ((gF.block gm (by have := kM7.lt; have := bv3.size; omega) (fun e => by injection e with e; have := kM7.lt; omega)).trans (kM7.below bv3 kM7.lt)), Blk.range ((gF.block w.heap.size (by have := k17.lt; have := bv3.size; omega) (fun e => by injection e with e; have := k17.lt; omega)).trans (k17.below bv3 k17.lt)), Blk.range ((gF.block w9.heap.size (by have := k197.lt; have := bv3.size; omega) (fun e => by injection e with e; have := k197.lt; omega)).trans (k197.below bv3 k197.lt))⟩
                  obtain ⟨uF, huF⟩ : ∃ uF : World, uF = v3.setCells pD 0 dx := ⟨_, rfl⟩
                  rw [← huF] at gF sF
                  refine wpAnyH_ready (rs := [10]) (by kernel_rfl) (by simp) ?_
                  refine AllReadyH.cons (o := ⟨none, .store 33 (.tmp 30) (.tmp 133), _, _, _, _⟩) rfl (fun K' hK => ?_) AllReadyH.nil
                  rw [if_pos (by rfl)]
                  refine wp_store_mid _ _ _ rfl _ _ (List.toArray _) rfl rfl ?_ ?_ (all_oneCell_toArray dxo) ?_
                  · simpa using thD
                  · rw [List.size_toArray]; exact (by rw [dxl]; kernel_rfl)
                  simp only [Act.put]
                  refine hK.out _ _ (by rw [← huF]; exact sF) (fun _ => ?_)
                  clear hK
                  rw [← huF]
                  clear huF
                  refine wpAnyH_take (i := 11) (oi := ⟨some 31, _, _, _, _, _⟩) (v := .slice none 0 0) rfl (by kernel_rfl) (by kernel_rfl) (by kernel_rfl) (fun _ _ _ h => h) (Or.inl ⟨by rfl, by intro W hS; go_simp⟩) sF ?_
                  simp only [Act.put, List.setIfInBounds_toArray, List.set_cons_zero, List.set_cons_succ]
                  refine wpAnyH_take (i := 12) (oi := ⟨some 32, _, _, _, _, _⟩) (v := .int .i64 14) rfl (by kernel_rfl) (by kernel_rfl) (by kernel_rfl) (fun _ _ _ h => h) (Or.inl ⟨by rfl, by intro W hS; go_simp⟩) sF ?_
                  simp only [Act.put, List.setIfInBounds_toArray, List.set_cons_zero, List.set_cons_succ]
                  refine wpAnyH_done (by kernel_rfl) ?_ _
                  have yF : Below w.heap.size w uF := (y7.trans (bv3.mono y7.size)).grown gF (by have := y7.size; have := bv3.size; omega) (fun k e => by injection e with e; have := y7.size; omega)
                  have hal := allOf_any none 0 0 [] [] uF Reads.none_ (fun ad h => by cases h) rfl (fun i l hl => by simp at hl) (by omega) (fun l hl => by cases hl)
                  go_wp2_with (first | (go_at_call 20; refine hal.mono ?_; rintro e x1 ⟨A9, c9, y9s, rfl, o9, R9, b9⟩; have hsm := sameAll_yes A9 none 0 c9 0 _ 0 _ 0 y9s [] [] x1 rfl o9 R9 (World.ownsRow_nil _ _ _ _) (fun i l hl => by simp at hl) (by omega) (fun l hl => by cases hl); clear hal) | (go_at_call 19; refine hsm.mono ?_; rintro e x2w ⟨rfl, q9, rfl⟩; clear hsm))
                  go_ret
                  exact ⟨rfl, yF.trans ((below_drewN b9 q9).mono yF.size)⟩
              · refine step_alloc_run rfl (run_allocD _ _ rfl _) ?_
                have st : Below v1.heap.size v1 (v1.alloc (.cells ([.int .i64 0, .slice none 0 0, .slice none 0 0, .int .i64 0, .bool false, .slice none 0 0] : List Value).toArray 33)) := (Below.refl _ _).alloc (Nat.le_refl _) _
                have kD : Blk (v1.alloc (.cells ([.int .i64 0, .slice none 0 0, .slice none 0 0, .int .i64 0, .bool false, .slice none 0 0] : List Value).toArray 33)) v1.heap.size 33 ([.int .i64 0, .slice none 0 0, .slice none 0 0, .int .i64 0, .bool false, .slice none 0 0] : List Value).toArray := Blk.new _ _ _
                obtain ⟨pD, hpD⟩ : ∃ pD, pD = v1.heap.size := ⟨_, rfl⟩
                obtain ⟨v2, hwv2⟩ : ∃ u : World, u = v1.alloc (.cells ([.int .i64 0, .slice none 0 0, .slice none 0 0, .int .i64 0, .bool false, .slice none 0 0] : List Value).toArray 33) := ⟨_, rfl⟩
                rw [← hwv2] at st kD
                rw [← hpD] at kD
                have lD : w7.heap.size ≤ pD := by rw [hpD]; exact bv1.size
                have bv2 := bv1.trans (st.mono bv1.size)
                refine hK.out _ _ (by rw [← hwv2]; exact hS8 _ bv2) (fun _ => ?_)
                clear hK st
                simp only [Act.put, List.setIfInBounds_toArray, List.set_cons_zero, List.set_cons_succ]
                rw [← hwv2, ← hpD]
                clear hwv2 hpD
                refine wpAnyH_ready (rs := [4]) (by kernel_rfl) (by simp) ?_
                refine AllReadyH.cons (o := ⟨some 132, .call { callee := .value (.func 18), args := #[.tmp 128, .tmp 129, .const (.int .i64 0), .const (.int .i64 8), .tmp 131], argTypes := #[33, 23, 3, 3, 42] }, _, _, _, _⟩) rfl (fun K' hK => ?_) (AllReadyH.nil)
                · refine step_call_w (by rfl) 18 [_, _, _, _, _] _ rfl [.agg dl.toArray, .agg (bs key).toArray, .int .i64 0, .int .i64 8, .agg (stCells 0 C tg).toArray] rfl eref _ (hrl2 _ (own_keep oW7 (fun b e => bv2.block b (World.ownsRow.lt oW7 b e).2)) (own_keep oO7 (fun b e => bv2.block b (World.ownsRow.lt oO7 b e).2))) ?_
                  rintro e v3 ⟨dx, dxl, dxo, rfl, st⟩
                  have kD := kD.below st kD.lt
                  have bv3 := bv2.trans (st.mono bv2.size)
                  refine ⟨_, rfl, hK.out _ _ (hS8 _ bv3) (fun _ => ?_)⟩
                  clear hK st
                  simp only [Act.put, List.setIfInBounds_toArray, List.set_cons_zero, List.set_cons_succ]
                  refine wpAnyH_take (i := 5) (oi := ⟨some 127, _, _, _, _, _⟩) (v := .tuple #[.agg dx.toArray, .slice none 0 0, .int .i64 14]) rfl (by kernel_rfl) (by kernel_rfl) (by kernel_rfl) (fun _ _ _ h => h) (Or.inl ⟨by rfl, by intro W hS; go_simp⟩) (hS8 _ bv3) ?_
                  simp only [Act.put, List.setIfInBounds_toArray, List.set_cons_zero, List.set_cons_succ]
                  refine wpAnyH_take (i := 6) (oi := ⟨some 133, _, _, _, _, _⟩) (v := .agg dx.toArray) rfl (by kernel_rfl) (by kernel_rfl) (by kernel_rfl) (fun _ _ _ h => h) (Or.inl ⟨by rfl, by intro W hS; go_simp⟩) (hS8 _ bv3) ?_
                  simp only [Act.put, List.setIfInBounds_toArray, List.set_cons_zero, List.set_cons_succ]
                  refine wpAnyH_take (i := 7) (oi := ⟨some 134, _, _, _, _, _⟩) (v := .slice none 0 0) rfl (by kernel_rfl) (by kernel_rfl) (by kernel_rfl) (fun _ _ _ h => h) (Or.inl ⟨by rfl, by intro W hS; go_simp⟩) (hS8 _ bv3) ?_
                  simp only [Act.put, List.setIfInBounds_toArray, List.set_cons_zero, List.set_cons_succ]
                  refine wpAnyH_take (i := 8) (oi := ⟨some 135, _, _, _, _, _⟩) (v := .int .i64 14) rfl (by kernel_rfl) (by kernel_rfl) (by kernel_rfl) (fun _ _ _ h => h) (Or.inl ⟨by rfl, by intro W hS; go_simp⟩) (hS8 _ bv3) ?_
                  simp only [Act.put, List.setIfInBounds_toArray, List.set_cons_zero, List.set_cons_succ]
                  have pz := kD.lt
                  have gF : v3.grownBy (v3.setCells pD 0 dx) (some pD) := grownBy_setCells _ _ _ (World.grownBy.refl _ _)
                  have thD : v3.there pD 0 dx.length := kD.there (by rw [dxl]; exact Nat.le_refl _)
                  have sF : (v3.setCells pD 0 dx).rangeAt gm 0 dl ∧ (v3.setCells pD 0 dx).rangeAt w.heap.size 0 (bs key) ∧ (v3.setCells pD 0 dx).rangeAt w9.heap.size 0 (stCells 0 C tg) := ⟨Blk.range ((gF.block gm (by have := kM7.lt; have := bv3.size; omega) (fun e => by injection e with e; have := kM7.lt; omega)).trans (kM7.below bv3 kM7.lt)), Blk.range ((gF.block w.heap.size (by have := k17.lt; have := bv3.size; omega) (fun e => by injection e with e; have := k17.lt; omega)).trans (k17.below bv3 k17.lt)), Blk.range ((gF.block w9.heap.size (by have := k197.lt; have := bv3.size; omega) (fun e => by injection e with e; have := k197.lt; omega)).trans (k197.below bv3 k197.lt))⟩
                  obtain ⟨uF, huF⟩ : ∃ uF : World, uF = v3.setCells pD 0 dx := ⟨_, rfl⟩
                  rw [← huF] at gF sF
                  refine wpAnyH_ready (rs := [10]) (by kernel_rfl) (by simp) ?_
                  refine AllReadyH.cons (o := ⟨none, .store 33 (.tmp 30) (.tmp 133), _, _, _, _⟩) rfl (fun K' hK => ?_) AllReadyH.nil
                  rw [if_pos (by rfl)]
                  refine wp_store_mid _ _ _ rfl _ _ (List.toArray _) rfl rfl ?_ ?_ (all_oneCell_toArray dxo) ?_
                  · simpa using thD
                  · rw [List.size_toArray]; exact (by rw [dxl]; kernel_rfl)
                  simp only [Act.put]
                  refine hK.out _ _ (by rw [← huF]; exact sF) (fun _ => ?_)
                  clear hK
                  rw [← huF]
                  clear huF
                  refine wpAnyH_take (i := 11) (oi := ⟨some 31, _, _, _, _, _⟩) (v := .slice none 0 0) rfl (by kernel_rfl) (by kernel_rfl) (by kernel_rfl) (fun _ _ _ h => h) (Or.inl ⟨by rfl, by intro W hS; go_simp⟩) sF ?_
                  simp only [Act.put, List.setIfInBounds_toArray, List.set_cons_zero, List.set_cons_succ]
                  refine wpAnyH_take (i := 12) (oi := ⟨some 32, _, _, _, _, _⟩) (v := .int .i64 14) rfl (by kernel_rfl) (by kernel_rfl) (by kernel_rfl) (fun _ _ _ h => h) (Or.inl ⟨by rfl, by intro W hS; go_simp⟩) sF ?_
                  simp only [Act.put, List.setIfInBounds_toArray, List.set_cons_zero, List.set_cons_succ]
                  refine wpAnyH_done (by kernel_rfl) ?_ _
                  have yF : Below w.heap.size w uF := (y7.trans (bv3.mono y7.size)).grown gF (by have := y7.size; have := bv3.size; omega) (fun k e => by injection e with e; have := y7.size; omega)
                  have hal := allOf_any none 0 0 [] [] uF Reads.none_ (fun ad h => by cases h) rfl (fun i l hl => by simp at hl) (by omega) (fun l hl => by cases hl)
                  go_wp2_with (first | (go_at_call 20; refine hal.mono ?_; rintro e x1 ⟨A9, c9, y9s, rfl, o9, R9, b9⟩; have hsm := sameAll_yes A9 none 0 c9 0 _ 0 _ 0 y9s [] [] x1 rfl o9 R9 (World.ownsRow_nil _ _ _ _) (fun i l hl => by simp at hl) (by omega) (fun l hl => by cases hl); clear hal) | (go_at_call 19; refine hsm.mono ?_; rintro e x2w ⟨rfl, q9, rfl⟩; clear hsm))
                  go_ret
                  exact ⟨rfl, yF.trans ((below_drewN b9 q9).mono yF.size)⟩
            · refine step_alloc_run rfl (run_allocD _ _ rfl _) ?_
              have st : Below v0.heap.size v0 (v0.alloc (.cells ([.int .i64 0, .slice none 0 0, .slice none 0 0, .int .i64 0, .bool false, .slice none 0 0] : List Value).toArray 33)) := (Below.refl _ _).alloc (Nat.le_refl _) _
              have kD : Blk (v0.alloc (.cells ([.int .i64 0, .slice none 0 0, .slice none 0 0, .int .i64 0, .bool false, .slice none 0 0] : List Value).toArray 33)) v0.heap.size 33 ([.int .i64 0, .slice none 0 0, .slice none 0 0, .int .i64 0, .bool false, .slice none 0 0] : List Value).toArray := Blk.new _ _ _
              obtain ⟨pD, hpD⟩ : ∃ pD, pD = v0.heap.size := ⟨_, rfl⟩
              obtain ⟨v1, hwv1⟩ : ∃ u : World, u = v0.alloc (.cells ([.int .i64 0, .slice none 0 0, .slice none 0 0, .int .i64 0, .bool false, .slice none 0 0] : List Value).toArray 33) := ⟨_, rfl⟩
              rw [← hwv1] at st kD
              rw [← hpD] at kD
              have lD : w7.heap.size ≤ pD := by rw [hpD]; exact bd7.size
              have bv1 := bd7.trans (st.mono bd7.size)
              refine hK.out _ _ (by rw [← hwv1]; exact hS8 _ bv1) (fun _ => ?_)
              clear hK st
              simp only [Act.put, List.setIfInBounds_toArray, List.set_cons_zero, List.set_cons_succ]
              rw [← hwv1, ← hpD]
              clear hwv1 hpD
              refine wpAnyH_ready (rs := [3]) (by kernel_rfl) (by simp) ?_
              refine AllReadyH.cons (o := ⟨some 131, .call { callee := .value (.func 14), args := #[.tmp 130], argTypes := #[41] }, _, _, _, _⟩) rfl (fun K' hK => ?_) (AllReadyH.nil)
              · refine step_call_w (by rfl) 14 [_] _ rfl [.agg (stCells 0 C tg).toArray] rfl esto _ (hso _) ?_
                rintro e v2 ⟨rfl, st⟩
                have kD := kD.below st kD.lt
                have bv2 := bv1.trans (st.mono bv1.size)
                refine ⟨_, rfl, hK.out _ _ (hS8 _ bv2) (fun _ => ?_)⟩
                clear hK st
                simp only [Act.put, List.setIfInBounds_toArray, List.set_cons_zero, List.set_cons_succ]
                refine wpAnyH_ready (rs := [4]) (by kernel_rfl) (by simp) ?_
                refine AllReadyH.cons (o := ⟨some 132, .call { callee := .value (.func 18), args := #[.tmp 128, .tmp 129, .const (.int .i64 0), .const (.int .i64 8), .tmp 131], argTypes := #[33, 23, 3, 3, 42] }, _, _, _, _⟩) rfl (fun K' hK => ?_) (AllReadyH.nil)
                · refine step_call_w (by rfl) 18 [_, _, _, _, _] _ rfl [.agg dl.toArray, .agg (bs key).toArray, .int .i64 0, .int .i64 8, .agg (stCells 0 C tg).toArray] rfl eref _ (hrl2 _ (own_keep oW7 (fun b e => bv2.block b (World.ownsRow.lt oW7 b e).2)) (own_keep oO7 (fun b e => bv2.block b (World.ownsRow.lt oO7 b e).2))) ?_
                  rintro e v3 ⟨dx, dxl, dxo, rfl, st⟩
                  have kD := kD.below st kD.lt
                  have bv3 := bv2.trans (st.mono bv2.size)
                  refine ⟨_, rfl, hK.out _ _ (hS8 _ bv3) (fun _ => ?_)⟩
                  clear hK st
                  simp only [Act.put, List.setIfInBounds_toArray, List.set_cons_zero, List.set_cons_succ]
                  refine wpAnyH_take (i := 5) (oi := ⟨some 127, _, _, _, _, _⟩) (v := .tuple #[.agg dx.toArray, .slice none 0 0, .int .i64 14]) rfl (by kernel_rfl) (by kernel_rfl) (by kernel_rfl) (fun _ _ _ h => h) (Or.inl ⟨by rfl, by intro W hS; go_simp⟩) (hS8 _ bv3) ?_
                  simp only [Act.put, List.setIfInBounds_toArray, List.set_cons_zero, List.set_cons_succ]
                  refine wpAnyH_take (i := 6) (oi := ⟨some 133, _, _, _, _, _⟩) (v := .agg dx.toArray) rfl (by kernel_rfl) (by kernel_rfl) (by kernel_rfl) (fun _ _ _ h => h) (Or.inl ⟨by rfl, by intro W hS; go_simp⟩) (hS8 _ bv3) ?_
                  simp only [Act.put, List.setIfInBounds_toArray, List.set_cons_zero, List.set_cons_succ]
                  refine wpAnyH_take (i := 7) (oi := ⟨some 134, _, _, _, _, _⟩) (v := .slice none 0 0) rfl (by kernel_rfl) (by kernel_rfl) (by kernel_rfl) (fun _ _ _ h => h) (Or.inl ⟨by rfl, by intro W hS; go_simp⟩) (hS8 _ bv3) ?_
                  simp only [Act.put, List.setIfInBounds_toArray, List.set_cons_zero, List.set_cons_succ]
                  refine wpAnyH_take (i := 8) (oi := ⟨some 135, _, _, _, _, _⟩) (v := .int .i64 14) rfl (by kernel_rfl) (by kernel_rfl) (by kernel_rfl) (fun _ _ _ h => h) (Or.inl ⟨by rfl, by intro W hS; go_simp⟩) (hS8 _ bv3) ?_
                  simp only [Act.put, List.setIfInBounds_toArray, List.set_cons_zero, List.set_cons_succ]
                  have pz := kD.lt
                  have gF : v3.grownBy (v3.setCells pD 0 dx) (some pD) := grownBy_setCells _ _ _ (World.grownBy.refl _ _)
                  have thD : v3.there pD 0 dx.length := kD.there (by rw [dxl]; exact Nat.le_refl _)
                  have sF : (v3.setCells pD 0 dx).rangeAt gm 0 dl ∧ (v3.setCells pD 0 dx).rangeAt w.heap.size 0 (bs key) ∧ (v3.setCells pD 0 dx).rangeAt w9.heap.size 0 (stCells 0 C tg) := ⟨Blk.range ((gF.block gm (by have := kM7.lt; have := bv3.size; omega) (fun e => by injection e with e; have := kM7.lt; omega)).trans (kM7.below bv3 kM7.lt)), Blk.range ((gF.block w.heap.size (by have := k17.lt; have := bv3.size; omega) (fun e => by injection e with e; have := k17.lt; omega)).trans (k17.below bv3 k17.lt)), Blk.range ((gF.block w9.heap.size (by have := k197.lt; have := bv3.size; omega) (fun e => by injection e with e; have := k197.lt; omega)).trans (k197.below bv3 k197.lt))⟩
                  obtain ⟨uF, huF⟩ : ∃ uF : World, uF = v3.setCells pD 0 dx := ⟨_, rfl⟩
                  rw [← huF] at gF sF
                  refine wpAnyH_ready (rs := [10]) (by kernel_rfl) (by simp) ?_
                  refine AllReadyH.cons (o := ⟨none, .store 33 (.tmp 30) (.tmp 133), _, _, _, _⟩) rfl (fun K' hK => ?_) AllReadyH.nil
                  rw [if_pos (by rfl)]
                  refine wp_store_mid _ _ _ rfl _ _ (List.toArray _) rfl rfl ?_ ?_ (all_oneCell_toArray dxo) ?_
                  · simpa using thD
                  · rw [List.size_toArray]; exact (by rw [dxl]; kernel_rfl)
                  simp only [Act.put]
                  refine hK.out _ _ (by rw [← huF]; exact sF) (fun _ => ?_)
                  clear hK
                  rw [← huF]
                  clear huF
                  refine wpAnyH_take (i := 11) (oi := ⟨some 31, _, _, _, _, _⟩) (v := .slice none 0 0) rfl (by kernel_rfl) (by kernel_rfl) (by kernel_rfl) (fun _ _ _ h => h) (Or.inl ⟨by rfl, by intro W hS; go_simp⟩) sF ?_
                  simp only [Act.put, List.setIfInBounds_toArray, List.set_cons_zero, List.set_cons_succ]
                  refine wpAnyH_take (i := 12) (oi := ⟨some 32, _, _, _, _, _⟩) (v := .int .i64 14) rfl (by kernel_rfl) (by kernel_rfl) (by kernel_rfl) (fun _ _ _ h => h) (Or.inl ⟨by rfl, by intro W hS; go_simp⟩) sF ?_
                  simp only [Act.put, List.setIfInBounds_toArray, List.set_cons_zero, List.set_cons_succ]
                  refine wpAnyH_done (by kernel_rfl) ?_ _
                  have yF : Below w.heap.size w uF := (y7.trans (bv3.mono y7.size)).grown gF (by have := y7.size; have := bv3.size; omega) (fun k e => by injection e with e; have := y7.size; omega)
                  have hal := allOf_any none 0 0 [] [] uF Reads.none_ (fun ad h => by cases h) rfl (fun i l hl => by simp at hl) (by omega) (fun l hl => by cases hl)
                  go_wp2_with (first | (go_at_call 20; refine hal.mono ?_; rintro e x1 ⟨A9, c9, y9s, rfl, o9, R9, b9⟩; have hsm := sameAll_yes A9 none 0 c9 0 _ 0 _ 0 y9s [] [] x1 rfl o9 R9 (World.ownsRow_nil _ _ _ _) (fun i l hl => by simp at hl) (by omega) (fun l hl => by cases hl); clear hal) | (go_at_call 19; refine hsm.mono ?_; rintro e x2w ⟨rfl, q9, rfl⟩; clear hsm))
                  go_ret
                  exact ⟨rfl, yF.trans ((below_drewN b9 q9).mono yF.size)⟩
          · have hld2 : Calls Tryz.prog 17 #[.pointer (some ⟨gd, 0, none⟩), .agg (bs key).toArray, .int .i64 0, .int .i64 8, .agg (stCells 0 C tg).toArray] u6 fun e w' => ∃ A7 c7 ys7, e = .returned (.tuple #[.slice A7 ll.length c7, .int .i64 0]) ∧ w'.ownsRow u6.heap.size 24 1 (.slice A7 ll.length c7) ll.length ys7 ∧ RowC w' ys7 ll ∧ Only (fun k => gd ≤ k ∧ k ≠ gm) u6 w' := hld.mono fun e w' h => by
              rcases h with ⟨h1 | ⟨l2, v, ys, h1, h4, h5, h6⟩, _, h3⟩
              · rw [hlv] at h1; cases h1.1
              · rw [hlv] at h1; injection h1 with h1; subst h1; obtain ⟨A7, c7, rfl⟩ := own_shape h5; exact ⟨A7, c7, ys, h4, ownsRow_lower h5 (Nat.le_refl _), h6, h3⟩
            have hrl2 := fun W h1 h2 => (hrl1 W h1 h2).mono (R' := fun e w' => ∃ (dx : List Value) (B3 : Option Addr) (c3 : Nat) (z3s : List Value), dx.length = 6 ∧ (∀ v ∈ dx, v.oneCell' = true) ∧ e = .returned (.tuple #[.agg dx.toArray, .slice B3 ll.length c3, .int .i64 0]) ∧ w'.ownsRow W.heap.size 52 1 (.slice B3 ll.length c3) ll.length z3s ∧ RowMs w' W.heap.size z3s ll ∧ Below W.heap.size W w') fun e w' h => by
              obtain ⟨dx, d1, d2, h3 | ⟨l2, A', c', ys, h3, h5, h6, h7⟩, h4⟩ := h
              · rw [hlv] at h3; cases h3.1
              · rw [hlv] at h3; injection h3 with h3; subst h3; exact ⟨dx, A', c', ys, d1, d2, h5, h6, h7, h4⟩
            have hll : ll.length ≤ 8 ∧ ∀ l ∈ ll, l.length ≤ 8 := loadV_small hlv (by rw [ldSlots_length]; exact hC8)
            have hlz1 := hll.1
            have hlz2 := hll.2
            clear hld hrl1 hlv hll
            go_wp2_with (first | ((with_reducible refine wpList_load_blk (o := ⟨some 122, _, _, _, _, _⟩) rfl 23 _ rfl w.heap.size rfl 23 _ _ (by rw [← HU6.out]; exact k16) Tryz.underlying23 rfl (by rw [Z1.out]; kernel_rfl) ?_)) | ((with_reducible refine wpList_load_blk (o := ⟨some 123, _, _, _, _, _⟩) rfl 41 _ rfl w9.heap.size rfl 41 _ _ (by rw [← HU6.out]; exact k196) Tryz.underlying41 rfl IC.out ?_)) | (go_at_call 17; rw [← HU6.out]; refine hld2.mono ?_; rintro e w7 ⟨A7, c7, ys7, rfl, o7, hC7, O7⟩; have kM7 := O7.blk kM6 (.inr (by decide)); have k17 := O7.blk k16 (.inr (by decide)); have k197 := O7.blk k196 (.inr (by decide)); have oW7 := O7.own oW6 (.inr (by decide)); have oO7 := O7.own oO6 (.inr (by decide)); have y7 := y6.trans (O7.below y6.size (fun k h => by have h1 : gd ≤ k := h.1; omega)); clear hld2))
            have hS8 : ∀ W, Below w7.heap.size w7 W → W.rangeAt gm 0 dl ∧ W.rangeAt w.heap.size 0 (bs key) ∧ W.rangeAt w9.heap.size 0 (stCells 0 C tg) := fun W hb => ⟨Blk.range (kM7.below hb kM7.lt), Blk.range (k17.below hb k17.lt), Blk.range (k197.below hb k197.lt)⟩
            have bd7 : Below w7.heap.size w7 w7.drew := (Below.refl _ _).drew
            refine wp_region_held_drew (S := fun w' => w'.rangeAt gm 0 dl ∧ w'.rangeAt w.heap.size 0 (bs key) ∧ w'.rangeAt w9.heap.size 0 (stCells 0 C tg)) (by kernel_rfl) (hS8 _ bd7) (fun _ => ?_)
            obtain ⟨v0, hv0⟩ : ∃ v0 : World, v0 = w7.drew := ⟨_, rfl⟩
            rw [← hv0]
            rw [← hv0] at bd7
            refine wpAnyH_take (i := 0) (oi := ⟨some 128, _, _, _, _, _⟩) (v := .agg dl.toArray) rfl (by kernel_rfl) (by kernel_rfl) (by kernel_rfl) (fun _ _ _ h => h) (yieldsIf_load_mid (by rfl) 33 _ rfl gm 0 (by rfl) dl _ (fun W h => h.1) uD rfl iD2) (hS8 _ bd7) ?_
            simp only [Act.put, List.setIfInBounds_toArray, List.set_cons_zero, List.set_cons_succ]
            refine wpAnyH_take (i := 1) (oi := ⟨some 129, _, _, _, _, _⟩) (v := .agg (bs key).toArray) rfl (by kernel_rfl) (by kernel_rfl) (by kernel_rfl) (fun _ _ _ h => h) (yieldsIf_load_mid (by rfl) 23 _ rfl w.heap.size 0 (by rfl) (bs key) _ (fun W h => h.2.1) u23 rfl i23) (hS8 _ bd7) ?_
            simp only [Act.put, List.setIfInBounds_toArray, List.set_cons_zero, List.set_cons_succ]
            refine wpAnyH_take (i := 2) (oi := ⟨some 130, _, _, _, _, _⟩) (v := .agg (stCells 0 C tg).toArray) rfl (by kernel_rfl) (by kernel_rfl) (by kernel_rfl) (fun _ _ _ h => h) (yieldsIf_load_mid (by rfl) 41 _ rfl w9.heap.size 0 (by rfl) (stCells 0 C tg) _ (fun W h => h.2.2) u41 rfl iCs) (hS8 _ bd7) ?_
            simp only [Act.put, List.setIfInBounds_toArray, List.set_cons_zero, List.set_cons_succ]
            refine wpAnyH_ready (rs := [3, 9]) (by kernel_rfl) (by simp) ?_
            refine AllReadyH.cons (o := ⟨some 131, .call { callee := .value (.func 14), args := #[.tmp 130], argTypes := #[41] }, _, _, _, _⟩) rfl (fun K' hK => ?_) (AllReadyH.cons (o := ⟨some 30, .alloc 33, _, _, _, _⟩) rfl (fun K' hK => ?_) (AllReadyH.nil))
            · refine step_call_w (by rfl) 14 [_] _ rfl [.agg (stCells 0 C tg).toArray] rfl esto _ (hso _) ?_
              rintro e v1 ⟨rfl, st⟩
              have bv1 := bd7.trans (st.mono bd7.size)
              refine ⟨_, rfl, hK.out _ _ (hS8 _ bv1) (fun _ => ?_)⟩
              clear hK st
              simp only [Act.put, List.setIfInBounds_toArray, List.set_cons_zero, List.set_cons_succ]
              refine wpAnyH_ready (rs := [4, 9]) (by kernel_rfl) (by simp) ?_
              refine AllReadyH.cons (o := ⟨some 132, .call { callee := .value (.func 18), args := #[.tmp 128, .tmp 129, .const (.int .i64 0), .const (.int .i64 8), .tmp 131], argTypes := #[33, 23, 3, 3, 42] }, _, _, _, _⟩) rfl (fun K' hK => ?_) (AllReadyH.cons (o := ⟨some 30, .alloc 33, _, _, _, _⟩) rfl (fun K' hK => ?_) (AllReadyH.nil))
              · refine step_call_w (by rfl) 18 [_, _, _, _, _] _ rfl [.agg dl.toArray, .agg (bs key).toArray, .int .i64 0, .int .i64 8, .agg (stCells 0 C tg).toArray] rfl eref _ (hrl2 _ (own_keep oW7 (fun b e => bv1.block b (World.ownsRow.lt oW7 b e).2)) (own_keep oO7 (fun b e => bv1.block b (World.ownsRow.lt oO7 b e).2))) ?_
                rintro e v2 ⟨dx, B3, c3, z3s, dxl, dxo, rfl, oL, RL, st⟩
                have bv2 := bv1.trans (st.mono bv1.size)
                refine ⟨_, rfl, hK.out _ _ (hS8 _ bv2) (fun _ => ?_)⟩
                clear hK st
                simp only [Act.put, List.setIfInBounds_toArray, List.set_cons_zero, List.set_cons_succ]
                refine wpAnyH_take (i := 5) (oi := ⟨some 127, _, _, _, _, _⟩) (v := .tuple #[.agg dx.toArray, .slice B3 ll.length c3, .int .i64 0]) rfl (by kernel_rfl) (by kernel_rfl) (by kernel_rfl) (fun _ _ _ h => h) (Or.inl ⟨by rfl, by intro W hS; go_simp⟩) (hS8 _ bv2) ?_
                simp only [Act.put, List.setIfInBounds_toArray, List.set_cons_zero, List.set_cons_succ]
                refine wpAnyH_take (i := 6) (oi := ⟨some 133, _, _, _, _, _⟩) (v := .agg dx.toArray) rfl (by kernel_rfl) (by kernel_rfl) (by kernel_rfl) (fun _ _ _ h => h) (Or.inl ⟨by rfl, by intro W hS; go_simp⟩) (hS8 _ bv2) ?_
                simp only [Act.put, List.setIfInBounds_toArray, List.set_cons_zero, List.set_cons_succ]
                refine wpAnyH_take (i := 7) (oi := ⟨some 134, _, _, _, _, _⟩) (v := .slice B3 ll.length c3) rfl (by kernel_rfl) (by kernel_rfl) (by kernel_rfl) (fun _ _ _ h => h) (Or.inl ⟨by rfl, by intro W hS; go_simp⟩) (hS8 _ bv2) ?_
                simp only [Act.put, List.setIfInBounds_toArray, List.set_cons_zero, List.set_cons_succ]
                refine wpAnyH_take (i := 8) (oi := ⟨some 135, _, _, _, _, _⟩) (v := .int .i64 0) rfl (by kernel_rfl) (by kernel_rfl) (by kernel_rfl) (fun _ _ _ h => h) (Or.inl ⟨by rfl, by intro W hS; go_simp⟩) (hS8 _ bv2) ?_
                simp only [Act.put, List.setIfInBounds_toArray, List.set_cons_zero, List.set_cons_succ]
                refine wpAnyH_ready (rs := [9]) (by kernel_rfl) (by simp) ?_
                refine AllReadyH.cons (o := ⟨some 30, .alloc 33, _, _, _, _⟩) rfl (fun K' hK => ?_) (AllReadyH.nil)
                · refine step_alloc_run rfl (run_allocD _ _ rfl _) ?_
                  have st : Below v2.heap.size v2 (v2.alloc (.cells ([.int .i64 0, .slice none 0 0, .slice none 0 0, .int .i64 0, .bool false, .slice none 0 0] : List Value).toArray 33)) := (Below.refl _ _).alloc (Nat.le_refl _) _
                  have kD : Blk (v2.alloc (.cells ([.int .i64 0, .slice none 0 0, .slice none 0 0, .int .i64 0, .bool false, .slice none 0 0] : List Value).toArray 33)) v2.heap.size 33 ([.int .i64 0, .slice none 0 0, .slice none 0 0, .int .i64 0, .bool false, .slice none 0 0] : List Value).toArray := Blk.new _ _ _
                  obtain ⟨pD, hpD⟩ : ∃ pD, pD = v2.heap.size := ⟨_, rfl⟩
                  obtain ⟨v3, hwv3⟩ : ∃ u : World, u = v2.alloc (.cells ([.int .i64 0, .slice none 0 0, .slice none 0 0, .int .i64 0, .bool false, .slice none 0 0] : List Value).toArray 33) := ⟨_, rfl⟩
                  rw [← hwv3] at st kD
                  rw [← hpD] at kD
                  have lD : w7.heap.size ≤ pD := by rw [hpD]; exact bv2.size
                  have oL := own_keep oL (fun b e => st.block b (World.ownsRow.lt oL b e).2)
                  have RL := RL.keep (fun b hK => st.block b hK.lt)
                  have bv3 := bv2.trans (st.mono bv2.size)
                  refine hK.out _ _ (by rw [← hwv3]; exact hS8 _ bv3) (fun _ => ?_)
                  clear hK st
                  simp only [Act.put, List.setIfInBounds_toArray, List.set_cons_zero, List.set_cons_succ]
                  rw [← hwv3, ← hpD]
                  clear hwv3 hpD
                  have pz := kD.lt
                  have gF : v3.grownBy (v3.setCells pD 0 dx) (some pD) := grownBy_setCells _ _ _ (World.grownBy.refl _ _)
                  have thD : v3.there pD 0 dx.length := kD.there (by rw [dxl]; exact Nat.le_refl _)
                  have sF : (v3.setCells pD 0 dx).rangeAt gm 0 dl ∧ (v3.setCells pD 0 dx).rangeAt w.heap.size 0 (bs key) ∧ (v3.setCells pD 0 dx).rangeAt w9.heap.size 0 (stCells 0 C tg) := ⟨Blk.range ((gF.block gm (by have := kM7.lt; have := bv3.size; omega) (fun e => by injection e with e; have := kM7.lt; omega)).trans (kM7.below bv3 kM7.lt)), Blk.range ((gF.block w.heap.size (by have := k17.lt; have := bv3.size; omega) (fun e => by injection e with e; have := k17.lt; omega)).trans (k17.below bv3 k17.lt)), Blk.range ((gF.block w9.heap.size (by have := k197.lt; have := bv3.size; omega) (fun e => by injection e with e; have := k197.lt; omega)).trans (k197.below bv3 k197.lt))⟩
                  obtain ⟨uF, huF⟩ : ∃ uF : World, uF = v3.setCells pD 0 dx := ⟨_, rfl⟩
                  rw [← huF] at gF sF
                  refine wpAnyH_ready (rs := [10]) (by kernel_rfl) (by simp) ?_
                  refine AllReadyH.cons (o := ⟨none, .store 33 (.tmp 30) (.tmp 133), _, _, _, _⟩) rfl (fun K' hK => ?_) AllReadyH.nil
                  rw [if_pos (by rfl)]
                  refine wp_store_mid _ _ _ rfl _ _ (List.toArray _) rfl rfl ?_ ?_ (all_oneCell_toArray dxo) ?_
                  · simpa using thD
                  · rw [List.size_toArray]; exact (by rw [dxl]; kernel_rfl)
                  simp only [Act.put]
                  refine hK.out _ _ (by rw [← huF]; exact sF) (fun _ => ?_)
                  clear hK
                  rw [← huF]
                  clear huF
                  refine wpAnyH_take (i := 11) (oi := ⟨some 31, _, _, _, _, _⟩) (v := .slice B3 ll.length c3) rfl (by kernel_rfl) (by kernel_rfl) (by kernel_rfl) (fun _ _ _ h => h) (Or.inl ⟨by rfl, by intro W hS; go_simp⟩) sF ?_
                  simp only [Act.put, List.setIfInBounds_toArray, List.set_cons_zero, List.set_cons_succ]
                  refine wpAnyH_take (i := 12) (oi := ⟨some 32, _, _, _, _, _⟩) (v := .int .i64 0) rfl (by kernel_rfl) (by kernel_rfl) (by kernel_rfl) (fun _ _ _ h => h) (Or.inl ⟨by rfl, by intro W hS; go_simp⟩) sF ?_
                  simp only [Act.put, List.setIfInBounds_toArray, List.set_cons_zero, List.set_cons_succ]
                  refine wpAnyH_done (by kernel_rfl) ?_ _
                  have yF : Below w.heap.size w uF := (y7.trans (bv3.mono y7.size)).grown gF (by have := y7.size; have := bv3.size; omega) (fun k e => by injection e with e; have := y7.size; omega)
                  have oL := own_keep (w' := uF) oL (fun b e => gF.block b (World.ownsRow.lt oL b e).2 (fun h => by injection h with h; subst h; exact absurd ((own_kind oL e).uniq kD.kind) (by decide)))
                  have RL := RL.keep (w' := uF) (fun b hK => gF.block b hK.lt (fun h => by injection h with h; subst h; exact absurd (hK.uniq kD.kind) (by decide)))
                  have b7F : Below w7.heap.size w7 uF := bv3.grown gF bv3.size (fun k e => by injection e with e; omega)
                  have hal := allOf_any A7 ll.length c7 ys7 ll uF (Reads.of_own (own_keep o7 (fun b e => b7F.block b (World.ownsRow.lt o7 b e).2))) (own_spotc (own_keep o7 (fun b e => b7F.block b (World.ownsRow.lt o7 b e).2))) rfl (hC7.keep b7F.size (fun k hK => b7F.block k hK.lt) (fun k hK => b7F.block k hK.lt)) (by omega) (fun l hl => by have := hlz2 l hl; omega)
                  go_wp2_with (first | (go_at_call 20; refine hal.mono ?_; rintro e x1 ⟨A9, c9, y9s, rfl, o9, R9, b9⟩; have hsm := sameAll_yes A9 B3 ll.length c9 c3 _ _ _ _ y9s z3s ll x1 rfl o9 R9 (own_keep oL (fun b e => b9.block b (World.ownsRow.lt oL b e).2)) (RL.keep (fun b hK => b9.block b hK.lt)) (by omega) (fun l hl => by have := hlz2 l hl; omega); clear hal) | (go_at_call 19; refine hsm.mono ?_; rintro e x2w ⟨rfl, q9, rfl⟩; clear hsm))
                  go_ret
                  exact ⟨rfl, yF.trans ((below_drewN b9 q9).mono yF.size)⟩
              · refine step_alloc_run rfl (run_allocD _ _ rfl _) ?_
                have st : Below v1.heap.size v1 (v1.alloc (.cells ([.int .i64 0, .slice none 0 0, .slice none 0 0, .int .i64 0, .bool false, .slice none 0 0] : List Value).toArray 33)) := (Below.refl _ _).alloc (Nat.le_refl _) _
                have kD : Blk (v1.alloc (.cells ([.int .i64 0, .slice none 0 0, .slice none 0 0, .int .i64 0, .bool false, .slice none 0 0] : List Value).toArray 33)) v1.heap.size 33 ([.int .i64 0, .slice none 0 0, .slice none 0 0, .int .i64 0, .bool false, .slice none 0 0] : List Value).toArray := Blk.new _ _ _
                obtain ⟨pD, hpD⟩ : ∃ pD, pD = v1.heap.size := ⟨_, rfl⟩
                obtain ⟨v2, hwv2⟩ : ∃ u : World, u = v1.alloc (.cells ([.int .i64 0, .slice none 0 0, .slice none 0 0, .int .i64 0, .bool false, .slice none 0 0] : List Value).toArray 33) := ⟨_, rfl⟩
                rw [← hwv2] at st kD
                rw [← hpD] at kD
                have lD : w7.heap.size ≤ pD := by rw [hpD]; exact bv1.size
                have bv2 := bv1.trans (st.mono bv1.size)
                refine hK.out _ _ (by rw [← hwv2]; exact hS8 _ bv2) (fun _ => ?_)
                clear hK st
                simp only [Act.put, List.setIfInBounds_toArray, List.set_cons_zero, List.set_cons_succ]
                rw [← hwv2, ← hpD]
                clear hwv2 hpD
                refine wpAnyH_ready (rs := [4]) (by kernel_rfl) (by simp) ?_
                refine AllReadyH.cons (o := ⟨some 132, .call { callee := .value (.func 18), args := #[.tmp 128, .tmp 129, .const (.int .i64 0), .const (.int .i64 8), .tmp 131], argTypes := #[33, 23, 3, 3, 42] }, _, _, _, _⟩) rfl (fun K' hK => ?_) (AllReadyH.nil)
                · refine step_call_w (by rfl) 18 [_, _, _, _, _] _ rfl [.agg dl.toArray, .agg (bs key).toArray, .int .i64 0, .int .i64 8, .agg (stCells 0 C tg).toArray] rfl eref _ (hrl2 _ (own_keep oW7 (fun b e => bv2.block b (World.ownsRow.lt oW7 b e).2)) (own_keep oO7 (fun b e => bv2.block b (World.ownsRow.lt oO7 b e).2))) ?_
                  rintro e v3 ⟨dx, B3, c3, z3s, dxl, dxo, rfl, oL, RL, st⟩
                  have kD := kD.below st kD.lt
                  have bv3 := bv2.trans (st.mono bv2.size)
                  refine ⟨_, rfl, hK.out _ _ (hS8 _ bv3) (fun _ => ?_)⟩
                  clear hK st
                  simp only [Act.put, List.setIfInBounds_toArray, List.set_cons_zero, List.set_cons_succ]
                  refine wpAnyH_take (i := 5) (oi := ⟨some 127, _, _, _, _, _⟩) (v := .tuple #[.agg dx.toArray, .slice B3 ll.length c3, .int .i64 0]) rfl (by kernel_rfl) (by kernel_rfl) (by kernel_rfl) (fun _ _ _ h => h) (Or.inl ⟨by rfl, by intro W hS; go_simp⟩) (hS8 _ bv3) ?_
                  simp only [Act.put, List.setIfInBounds_toArray, List.set_cons_zero, List.set_cons_succ]
                  refine wpAnyH_take (i := 6) (oi := ⟨some 133, _, _, _, _, _⟩) (v := .agg dx.toArray) rfl (by kernel_rfl) (by kernel_rfl) (by kernel_rfl) (fun _ _ _ h => h) (Or.inl ⟨by rfl, by intro W hS; go_simp⟩) (hS8 _ bv3) ?_
                  simp only [Act.put, List.setIfInBounds_toArray, List.set_cons_zero, List.set_cons_succ]
                  refine wpAnyH_take (i := 7) (oi := ⟨some 134, _, _, _, _, _⟩) (v := .slice B3 ll.length c3) rfl (by kernel_rfl) (by kernel_rfl) (by kernel_rfl) (fun _ _ _ h => h) (Or.inl ⟨by rfl, by intro W hS; go_simp⟩) (hS8 _ bv3) ?_
                  simp only [Act.put, List.setIfInBounds_toArray, List.set_cons_zero, List.set_cons_succ]
                  refine wpAnyH_take (i := 8) (oi := ⟨some 135, _, _, _, _, _⟩) (v := .int .i64 0) rfl (by kernel_rfl) (by kernel_rfl) (by kernel_rfl) (fun _ _ _ h => h) (Or.inl ⟨by rfl, by intro W hS; go_simp⟩) (hS8 _ bv3) ?_
                  simp only [Act.put, List.setIfInBounds_toArray, List.set_cons_zero, List.set_cons_succ]
                  have pz := kD.lt
                  have gF : v3.grownBy (v3.setCells pD 0 dx) (some pD) := grownBy_setCells _ _ _ (World.grownBy.refl _ _)
                  have thD : v3.there pD 0 dx.length := kD.there (by rw [dxl]; exact Nat.le_refl _)
                  have sF : (v3.setCells pD 0 dx).rangeAt gm 0 dl ∧ (v3.setCells pD 0 dx).rangeAt w.heap.size 0 (bs key) ∧ (v3.setCells pD 0 dx).rangeAt w9.heap.size 0 (stCells 0 C tg) := ⟨Blk.range ((gF.block gm (by have := kM7.lt; have := bv3.size; omega) (fun e => by injection e with e; have := kM7.lt; omega)).trans (kM7.below bv3 kM7.lt)), Blk.range ((gF.block w.heap.size (by have := k17.lt; have := bv3.size; omega) (fun e => by injection e with e; have := k17.lt; omega)).trans (k17.below bv3 k17.lt)), Blk.range ((gF.block w9.heap.size (by have := k197.lt; have := bv3.size; omega) (fun e => by injection e with e; have := k197.lt; omega)).trans (k197.below bv3 k197.lt))⟩
                  obtain ⟨uF, huF⟩ : ∃ uF : World, uF = v3.setCells pD 0 dx := ⟨_, rfl⟩
                  rw [← huF] at gF sF
                  refine wpAnyH_ready (rs := [10]) (by kernel_rfl) (by simp) ?_
                  refine AllReadyH.cons (o := ⟨none, .store 33 (.tmp 30) (.tmp 133), _, _, _, _⟩) rfl (fun K' hK => ?_) AllReadyH.nil
                  rw [if_pos (by rfl)]
                  refine wp_store_mid _ _ _ rfl _ _ (List.toArray _) rfl rfl ?_ ?_ (all_oneCell_toArray dxo) ?_
                  · simpa using thD
                  · rw [List.size_toArray]; exact (by rw [dxl]; kernel_rfl)
                  simp only [Act.put]
                  refine hK.out _ _ (by rw [← huF]; exact sF) (fun _ => ?_)
                  clear hK
                  rw [← huF]
                  clear huF
                  refine wpAnyH_take (i := 11) (oi := ⟨some 31, _, _, _, _, _⟩) (v := .slice B3 ll.length c3) rfl (by kernel_rfl) (by kernel_rfl) (by kernel_rfl) (fun _ _ _ h => h) (Or.inl ⟨by rfl, by intro W hS; go_simp⟩) sF ?_
                  simp only [Act.put, List.setIfInBounds_toArray, List.set_cons_zero, List.set_cons_succ]
                  refine wpAnyH_take (i := 12) (oi := ⟨some 32, _, _, _, _, _⟩) (v := .int .i64 0) rfl (by kernel_rfl) (by kernel_rfl) (by kernel_rfl) (fun _ _ _ h => h) (Or.inl ⟨by rfl, by intro W hS; go_simp⟩) sF ?_
                  simp only [Act.put, List.setIfInBounds_toArray, List.set_cons_zero, List.set_cons_succ]
                  refine wpAnyH_done (by kernel_rfl) ?_ _
                  have yF : Below w.heap.size w uF := (y7.trans (bv3.mono y7.size)).grown gF (by have := y7.size; have := bv3.size; omega) (fun k e => by injection e with e; have := y7.size; omega)
                  have oL := own_keep (w' := uF) oL (fun b e => gF.block b (World.ownsRow.lt oL b e).2 (fun h => by injection h with h; subst h; exact absurd ((own_kind oL e).uniq kD.kind) (by decide)))
                  have RL := RL.keep (w' := uF) (fun b hK => gF.block b hK.lt (fun h => by injection h with h; subst h; exact absurd (hK.uniq kD.kind) (by decide)))
                  have b7F : Below w7.heap.size w7 uF := bv3.grown gF bv3.size (fun k e => by injection e with e; omega)
                  have hal := allOf_any A7 ll.length c7 ys7 ll uF (Reads.of_own (own_keep o7 (fun b e => b7F.block b (World.ownsRow.lt o7 b e).2))) (own_spotc (own_keep o7 (fun b e => b7F.block b (World.ownsRow.lt o7 b e).2))) rfl (hC7.keep b7F.size (fun k hK => b7F.block k hK.lt) (fun k hK => b7F.block k hK.lt)) (by omega) (fun l hl => by have := hlz2 l hl; omega)
                  go_wp2_with (first | (go_at_call 20; refine hal.mono ?_; rintro e x1 ⟨A9, c9, y9s, rfl, o9, R9, b9⟩; have hsm := sameAll_yes A9 B3 ll.length c9 c3 _ _ _ _ y9s z3s ll x1 rfl o9 R9 (own_keep oL (fun b e => b9.block b (World.ownsRow.lt oL b e).2)) (RL.keep (fun b hK => b9.block b hK.lt)) (by omega) (fun l hl => by have := hlz2 l hl; omega); clear hal) | (go_at_call 19; refine hsm.mono ?_; rintro e x2w ⟨rfl, q9, rfl⟩; clear hsm))
                  go_ret
                  exact ⟨rfl, yF.trans ((below_drewN b9 q9).mono yF.size)⟩
            · refine step_alloc_run rfl (run_allocD _ _ rfl _) ?_
              have st : Below v0.heap.size v0 (v0.alloc (.cells ([.int .i64 0, .slice none 0 0, .slice none 0 0, .int .i64 0, .bool false, .slice none 0 0] : List Value).toArray 33)) := (Below.refl _ _).alloc (Nat.le_refl _) _
              have kD : Blk (v0.alloc (.cells ([.int .i64 0, .slice none 0 0, .slice none 0 0, .int .i64 0, .bool false, .slice none 0 0] : List Value).toArray 33)) v0.heap.size 33 ([.int .i64 0, .slice none 0 0, .slice none 0 0, .int .i64 0, .bool false, .slice none 0 0] : List Value).toArray := Blk.new _ _ _
              obtain ⟨pD, hpD⟩ : ∃ pD, pD = v0.heap.size := ⟨_, rfl⟩
              obtain ⟨v1, hwv1⟩ : ∃ u : World, u = v0.alloc (.cells ([.int .i64 0, .slice none 0 0, .slice none 0 0, .int .i64 0, .bool false, .slice none 0 0] : List Value).toArray 33) := ⟨_, rfl⟩
              rw [← hwv1] at st kD
              rw [← hpD] at kD
              have lD : w7.heap.size ≤ pD := by rw [hpD]; exact bd7.size
              have bv1 := bd7.trans (st.mono bd7.size)
              refine hK.out _ _ (by rw [← hwv1]; exact hS8 _ bv1) (fun _ => ?_)
              clear hK st
              simp only [Act.put, List.setIfInBounds_toArray, List.set_cons_zero, List.set_cons_succ]
              rw [← hwv1, ← hpD]
              clear hwv1 hpD
              refine wpAnyH_ready (rs := [3]) (by kernel_rfl) (by simp) ?_
              refine AllReadyH.cons (o := ⟨some 131, .call { callee := .value (.func 14), args := #[.tmp 130], argTypes := #[41] }, _, _, _, _⟩) rfl (fun K' hK => ?_) (AllReadyH.nil)
              · refine step_call_w (by rfl) 14 [_] _ rfl [.agg (stCells 0 C tg).toArray] rfl esto _ (hso _) ?_
                rintro e v2 ⟨rfl, st⟩
                have kD := kD.below st kD.lt
                have bv2 := bv1.trans (st.mono bv1.size)
                refine ⟨_, rfl, hK.out _ _ (hS8 _ bv2) (fun _ => ?_)⟩
                clear hK st
                simp only [Act.put, List.setIfInBounds_toArray, List.set_cons_zero, List.set_cons_succ]
                refine wpAnyH_ready (rs := [4]) (by kernel_rfl) (by simp) ?_
                refine AllReadyH.cons (o := ⟨some 132, .call { callee := .value (.func 18), args := #[.tmp 128, .tmp 129, .const (.int .i64 0), .const (.int .i64 8), .tmp 131], argTypes := #[33, 23, 3, 3, 42] }, _, _, _, _⟩) rfl (fun K' hK => ?_) (AllReadyH.nil)
                · refine step_call_w (by rfl) 18 [_, _, _, _, _] _ rfl [.agg dl.toArray, .agg (bs key).toArray, .int .i64 0, .int .i64 8, .agg (stCells 0 C tg).toArray] rfl eref _ (hrl2 _ (own_keep oW7 (fun b e => bv2.block b (World.ownsRow.lt oW7 b e).2)) (own_keep oO7 (fun b e => bv2.block b (World.ownsRow.lt oO7 b e).2))) ?_
                  rintro e v3 ⟨dx, B3, c3, z3s, dxl, dxo, rfl, oL, RL, st⟩
                  have kD := kD.below st kD.lt
                  have bv3 := bv2.trans (st.mono bv2.size)
                  refine ⟨_, rfl, hK.out _ _ (hS8 _ bv3) (fun _ => ?_)⟩
                  clear hK st
                  simp only [Act.put, List.setIfInBounds_toArray, List.set_cons_zero, List.set_cons_succ]
                  refine wpAnyH_take (i := 5) (oi := ⟨some 127, _, _, _, _, _⟩) (v := .tuple #[.agg dx.toArray, .slice B3 ll.length c3, .int .i64 0]) rfl (by kernel_rfl) (by kernel_rfl) (by kernel_rfl) (fun _ _ _ h => h) (Or.inl ⟨by rfl, by intro W hS; go_simp⟩) (hS8 _ bv3) ?_
                  simp only [Act.put, List.setIfInBounds_toArray, List.set_cons_zero, List.set_cons_succ]
                  refine wpAnyH_take (i := 6) (oi := ⟨some 133, _, _, _, _, _⟩) (v := .agg dx.toArray) rfl (by kernel_rfl) (by kernel_rfl) (by kernel_rfl) (fun _ _ _ h => h) (Or.inl ⟨by rfl, by intro W hS; go_simp⟩) (hS8 _ bv3) ?_
                  simp only [Act.put, List.setIfInBounds_toArray, List.set_cons_zero, List.set_cons_succ]
                  refine wpAnyH_take (i := 7) (oi := ⟨some 134, _, _, _, _, _⟩) (v := .slice B3 ll.length c3) rfl (by kernel_rfl) (by kernel_rfl) (by kernel_rfl) (fun _ _ _ h => h) (Or.inl ⟨by rfl, by intro W hS; go_simp⟩) (hS8 _ bv3) ?_
                  simp only [Act.put, List.setIfInBounds_toArray, List.set_cons_zero, List.set_cons_succ]
                  refine wpAnyH_take (i := 8) (oi := ⟨some 135, _, _, _, _, _⟩) (v := .int .i64 0) rfl (by kernel_rfl) (by kernel_rfl) (by kernel_rfl) (fun _ _ _ h => h) (Or.inl ⟨by rfl, by intro W hS; go_simp⟩) (hS8 _ bv3) ?_
                  simp only [Act.put, List.setIfInBounds_toArray, List.set_cons_zero, List.set_cons_succ]
                  have pz := kD.lt
                  have gF : v3.grownBy (v3.setCells pD 0 dx) (some pD) := grownBy_setCells _ _ _ (World.grownBy.refl _ _)
                  have thD : v3.there pD 0 dx.length := kD.there (by rw [dxl]; exact Nat.le_refl _)
                  have sF : (v3.setCells pD 0 dx).rangeAt gm 0 dl ∧ (v3.setCells pD 0 dx).rangeAt w.heap.size 0 (bs key) ∧ (v3.setCells pD 0 dx).rangeAt w9.heap.size 0 (stCells 0 C tg) := ⟨Blk.range ((gF.block gm (by have := kM7.lt; have := bv3.size; omega) (fun e => by injection e with e; have := kM7.lt; omega)).trans (kM7.below bv3 kM7.lt)), Blk.range ((gF.block w.heap.size (by have := k17.lt; have := bv3.size; omega) (fun e => by injection e with e; have := k17.lt; omega)).trans (k17.below bv3 k17.lt)), Blk.range ((gF.block w9.heap.size (by have := k197.lt; have := bv3.size; omega) (fun e => by injection e with e; have := k197.lt; omega)).trans (k197.below bv3 k197.lt))⟩
                  obtain ⟨uF, huF⟩ : ∃ uF : World, uF = v3.setCells pD 0 dx := ⟨_, rfl⟩
                  rw [← huF] at gF sF
                  refine wpAnyH_ready (rs := [10]) (by kernel_rfl) (by simp) ?_
                  refine AllReadyH.cons (o := ⟨none, .store 33 (.tmp 30) (.tmp 133), _, _, _, _⟩) rfl (fun K' hK => ?_) AllReadyH.nil
                  rw [if_pos (by rfl)]
                  refine wp_store_mid _ _ _ rfl _ _ (List.toArray _) rfl rfl ?_ ?_ (all_oneCell_toArray dxo) ?_
                  · simpa using thD
                  · rw [List.size_toArray]; exact (by rw [dxl]; kernel_rfl)
                  simp only [Act.put]
                  refine hK.out _ _ (by rw [← huF]; exact sF) (fun _ => ?_)
                  clear hK
                  rw [← huF]
                  clear huF
                  refine wpAnyH_take (i := 11) (oi := ⟨some 31, _, _, _, _, _⟩) (v := .slice B3 ll.length c3) rfl (by kernel_rfl) (by kernel_rfl) (by kernel_rfl) (fun _ _ _ h => h) (Or.inl ⟨by rfl, by intro W hS; go_simp⟩) sF ?_
                  simp only [Act.put, List.setIfInBounds_toArray, List.set_cons_zero, List.set_cons_succ]
                  refine wpAnyH_take (i := 12) (oi := ⟨some 32, _, _, _, _, _⟩) (v := .int .i64 0) rfl (by kernel_rfl) (by kernel_rfl) (by kernel_rfl) (fun _ _ _ h => h) (Or.inl ⟨by rfl, by intro W hS; go_simp⟩) sF ?_
                  simp only [Act.put, List.setIfInBounds_toArray, List.set_cons_zero, List.set_cons_succ]
                  refine wpAnyH_done (by kernel_rfl) ?_ _
                  have yF : Below w.heap.size w uF := (y7.trans (bv3.mono y7.size)).grown gF (by have := y7.size; have := bv3.size; omega) (fun k e => by injection e with e; have := y7.size; omega)
                  have oL := own_keep (w' := uF) oL (fun b e => gF.block b (World.ownsRow.lt oL b e).2 (fun h => by injection h with h; subst h; exact absurd ((own_kind oL e).uniq kD.kind) (by decide)))
                  have RL := RL.keep (w' := uF) (fun b hK => gF.block b hK.lt (fun h => by injection h with h; subst h; exact absurd (hK.uniq kD.kind) (by decide)))
                  have b7F : Below w7.heap.size w7 uF := bv3.grown gF bv3.size (fun k e => by injection e with e; omega)
                  have hal := allOf_any A7 ll.length c7 ys7 ll uF (Reads.of_own (own_keep o7 (fun b e => b7F.block b (World.ownsRow.lt o7 b e).2))) (own_spotc (own_keep o7 (fun b e => b7F.block b (World.ownsRow.lt o7 b e).2))) rfl (hC7.keep b7F.size (fun k hK => b7F.block k hK.lt) (fun k hK => b7F.block k hK.lt)) (by omega) (fun l hl => by have := hlz2 l hl; omega)
                  go_wp2_with (first | (go_at_call 20; refine hal.mono ?_; rintro e x1 ⟨A9, c9, y9s, rfl, o9, R9, b9⟩; have hsm := sameAll_yes A9 B3 ll.length c9 c3 _ _ _ _ y9s z3s ll x1 rfl o9 R9 (own_keep oL (fun b e => b9.block b (World.ownsRow.lt oL b e).2)) (RL.keep (fun b hK => b9.block b hK.lt)) (by omega) (fun l hl => by have := hlz2 l hl; omega); clear hal) | (go_at_call 19; refine hsm.mono ?_; rintro e x2w ⟨rfl, q9, rfl⟩; clear hsm))
                  go_ret
                  exact ⟨rfl, yF.trans ((below_drewN b9 q9).mono yF.size)⟩
        | true =>
          have q196 : u6.cell? ⟨w9.heap.size, 1, none⟩ = some (.int .u64 (C : Int)) := k196.cell 1
          obtain ⟨bt, hbt0⟩ : ∃ bt, bt = u5.heap.size := ⟨_, rfl⟩
          have hbt : bt = u6.heap.size := by rw [hbt0, z56]
          obtain ⟨W7, hW7⟩ : ∃ W7 : World, W7 = u6.alloc (.cells (bs (List.replicate 32 0)).toArray 23) := ⟨_, rfl⟩
          have kt7 : Blk W7 bt 23 (bs (List.replicate 32 0)).toArray := by rw [hW7, hbt]; exact Blk.new_of rfl rfl
          have b67 : Below u6.heap.size u6 W7 := by rw [hW7]; exact (Below.refl _ _).alloc (Nat.le_refl _) _
          have s67' : W7.heap.size = bt + 1 := by rw [hW7, hbt]; exact size_alloc' _ _
          have k1a := k16.below b67 k16.lt
          have kMa := kM6.below b67 kM6.lt
          have k19a := k196.below b67 k196.lt
          have Da := D6.under b67
          have oWa := own_keep oW6 (fun b e => b67.block b (World.ownsRow.lt oW6 b e).2)
          have oOa := own_keep oO6 (fun b e => b67.block b (World.ownsRow.lt oO6 b e).2)
          have ya := y6.trans (b67.mono y6.size)
          have HW7 := Lib.hid hW7
          have l19 := k196.lt
          have lM6 := kM6.lt
          have l16 := k16.lt
          have hbw : w.heap.size ≤ bt := by rw [hbt]; exact y6.size
          have hgb : gd ≤ bt := by rw [hbt]; omega
          rw [← hbt] at l19 lM6 l16
          have HBT := Lib.hid hbt0
          clear hW7 hbt hbt0
          go_wp2
          rw [← HU6.out]
          rw [show (u6.alloc (.cells #[.int .u8 0, .int .u8 0, .int .u8 0, .int .u8 0, .int .u8 0, .int .u8 0, .int .u8 0, .int .u8 0, .int .u8 0, .int .u8 0, .int .u8 0, .int .u8 0, .int .u8 0, .int .u8 0, .int .u8 0, .int .u8 0, .int .u8 0, .int .u8 0, .int .u8 0, .int .u8 0, .int .u8 0, .int .u8 0, .int .u8 0, .int .u8 0, .int .u8 0, .int .u8 0, .int .u8 0, .int .u8 0, .int .u8 0, .int .u8 0, .int .u8 0, .int .u8 0] 23)) = W7 from HW7.out.symm]
          rw [← HBT.out]
          go_loopw [25] (fun ix wr => ∃ k : Nat, k ≤ C ∧ ix = .int .i64 k ∧ Blk wr bt 23 (bs (tagOf (List.replicate 32 0) (ldSlots ⟨List.replicate 8 zeros192, S, -1, false, n⟩ 0 8 0 k))).toArray ∧ Disk wr gd (fun k => gd ≤ k ∧ k ≠ gm) ⟨List.replicate 8 zeros192, S, -1, false, n + k⟩ ∧ Blk wr w.heap.size 23 (bs key).toArray ∧ Blk wr gm 33 dl.toArray ∧ Blk wr w9.heap.size 41 (stCells 0 C tg).toArray ∧
            wr.ownsRow 0 142 2 (.slice A2 n c2) n (encW S) ∧ wr.ownsRow 0 169 2 (.slice B2 n d2) n x2 ∧ Below w.heap.size w wr ∧ bt < wr.heap.size) (fun ix _ => C - (intOf ix).toNat)
          case atStart => exact ⟨0, by omega, rfl, kt7, Da, k1a, kMa, k19a, oWa, oOa, ya, by omega⟩
          case round =>
            clear kt7 Da k1a kMa k19a oWa oOa k16 kM6 k196 oW6 oO6 D6 q196 T6 b67
            obtain ⟨k, hkC, rfl, ktr, Dr, k1r, kMr, k19r, oWr, oOr, yr, hbr⟩ := hrel
            have q19 : wr.cell? ⟨w9.heap.size, 1, none⟩ = some (.int .u64 (C : Int)) := k19r.cell 1
            have hCi8 : (C : Int) ≤ 8 := by omega
            by_cases hlt : k < C
            · have hsn := ldSlots_snoc ⟨List.replicate 8 zeros192, S, -1, false, n⟩ 0 8 0 k
              have hpk : ldPlace 0 8 0 k = k := by unfold ldPlace; omega
              rw [hpk] at hsn
              have hrd := dread_any gd k _ ⟨List.replicate 8 zeros192, S, -1, false, n + k⟩ wr Dr rfl (by show k < (List.replicate 8 zeros192).length; rw [List.length_replicate]; omega) (fun b hb => by rw [(List.mem_replicate.1 hb).2]; exact List.length_replicate) HS2.out (by show S.length ≤ 1048576; have := HS1.out; omega) (by show n + k ≤ 1048576; omega)
              rw [show readAt ⟨List.replicate 8 zeros192, S, -1, false, n + k⟩ k = readAt ⟨List.replicate 8 zeros192, S, -1, false, n⟩ k from rfl] at hrd
              have hr5 := readAt_len ⟨List.replicate 8 zeros192, S, -1, false, n⟩ k (by show k < (List.replicate 8 zeros192).length; rw [List.length_replicate]; omega) (fun b hb => by rw [(List.mem_replicate.1 hb).2]; exact List.length_replicate) HS2.out
              have htl := tagOf_length (List.replicate 32 0) (ldSlots ⟨List.replicate 8 zeros192, S, -1, false, n⟩ 0 8 0 k) List.length_replicate
              have hp32 : k < 4294967296 := by omega
              have hlk := fun W A c h hT => link_any (tagOf (List.replicate 32 0) (ldSlots ⟨List.replicate 8 zeros192, S, -1, false, n⟩ 0 8 0 k)) (readAt ⟨List.replicate 8 zeros192, S, -1, false, n⟩ k) k A c W htl hp32 h hT
              have hLB := linkB_length (tagOf (List.replicate 32 0) (ldSlots ⟨List.replicate 8 zeros192, S, -1, false, n⟩ 0 8 0 k)) k (readAt ⟨List.replicate 8 zeros192, S, -1, false, n⟩ k)
              have HTGK : tagOf (List.replicate 32 0) (ldSlots ⟨List.replicate 8 zeros192, S, -1, false, n⟩ 0 8 0 (k + 1)) = linkB (tagOf (List.replicate 32 0) (ldSlots ⟨List.replicate 8 zeros192, S, -1, false, n⟩ 0 8 0 k)) k (readAt ⟨List.replicate 8 zeros192, S, -1, false, n⟩ k) := by rw [hsn, tagOf_snoc]
              generalize linkB (tagOf (List.replicate 32 0) (ldSlots ⟨List.replicate 8 zeros192, S, -1, false, n⟩ 0 8 0 k)) k (readAt ⟨List.replicate 8 zeros192, S, -1, false, n⟩ k) = tag' at *
              generalize (tagOf (List.replicate 32 0) (ldSlots ⟨List.replicate 8 zeros192, S, -1, false, n⟩ 0 8 0 k)) = tag at *
              generalize readAt ⟨List.replicate 8 zeros192, S, -1, false, n⟩ k = slot at *
              have hall : (bs tag').toArray.all (·.oneCell') = true := bs_all tag'
              have z3 : (bs tag).toArray.size = 32 := by simp [bs_length, htl]
              have z4 : (bs tag).toArray.size = (bs tag').toArray.size := by simp [bs_length, htl, hLB]
              have z5 : (Tryz.prog.info? 23).map (·.size) = some (bs tag').toArray.size := by rw [← z4, z3]; kernel_rfl
              have HR5 := Lib.hid hr5
              have Z3 := Lib.hid z3
              have Z4 := Lib.hid z4
              have Z5 := Lib.hid z5
              have HTGK := Lib.hid HTGK
              have hki : (k : Int) < (C : Int) := by omega
              have hki0 : (0 : Int) ≤ (k : Int) := by omega
              clear hr5 z3 z4 z5 hsn hLB htl
              have hTr := hT.under yr
              have syr := yr.size
              go_wp2_with (first | (go_at_call 15; refine hrd.mono ?_; rintro e w5r ⟨v5, rfl, hv5, D5r, O5⟩; clear hrd; obtain ⟨A5, c5, hvs⟩ := hv5.shape; rw [HR5.out] at hvs; subst hvs; have r5 := hv5.reads; rw [HR5.out] at r5; have kt5 := O5.blk ktr (.inr (by decide)); have y5r : Below w.heap.size w w5r := yr.trans (O5.below yr.size (fun k h => by have h1 : gd ≤ k := h.1; omega)); have k15r := O5.blk k1r (.inr (by decide)); have kM5r := O5.blk kMr (.inr (by decide)); have k195r := O5.blk k19r (.inr (by decide)); have oW5r := O5.own oWr (.inr (by decide)); have oO5r := O5.own oOr (.inr (by decide)); have s5r := O5.size) | ((with_reducible refine wpList_load_blk (o := ⟨some 113, _, _, _, _, _⟩) rfl 23 _ rfl bt rfl 23 _ _ kt5 Tryz.underlying23 rfl (by rw [Z3.out]; kernel_rfl) ?_)) | (go_at_call 16; refine (hlk _ _ _ r5 (hT.under y5r)).mono ?_; rintro e w6r ⟨rfl, b6r⟩; clear hlk; have kt6 := kt5.below b6r kt5.lt; have s6r := b6r.size) | ((with_reducible refine wpList_store_blk (o := ⟨none, .store 23 (.tmp 24) (.tmp 117), _, _, _, _⟩) rfl 23 (.tmp 24) (.tmp 117) rfl bt (bs tag').toArray rfl rfl 23 _ kt6 Z5.out Z4.out hall ?_); intro w7r k7r g7r s7r; have S7r := Lib.hid s7r; clear s7r))
              go_roundw
              case rel =>
                have s7r := S7r.out
                have e7 : ∀ j : Nat, j < w5r.heap.size → j ≠ bt → w7r.heap[j]? = w5r.heap[j]? := fun j hj hne => (g7r.block j (by omega) (fun e => by injection e with e; omega)).trans (b6r.block j hj)
                have kSum : ∀ {j : Nat} {t : TypeId} {cs : Array Value}, Blk w5r j t cs → t ≠ 23 → Blk w7r j t cs := fun hb hne => (e7 _ hb.lt (fun h => by subst h; exact hne (hb.kind.uniq kt5.kind))).trans hb
                have D7r : Disk w7r gd (fun k => gd ≤ k ∧ k ≠ gm) ⟨List.replicate 8 zeros192, S, -1, false, n + (k + 1)⟩ := (D5r.keepW (by omega) fun j t hK hf => e7 j hK.lt (fun h => by
                  subst h
                  have ht := hK.uniq kt5.kind
                  subst ht
                  rcases hf with hf | hf
                  · exact absurd hf.2.1 (by decide)
                  · exact absurd hf (by decide))).mono (fun j hj h => h.elim id (fun h => by have := kMr.lt; exact ⟨by omega, by omega⟩))
                refine ⟨k + 1, by omega, by go_num, by rw [HTGK.out]; exact k7r, D7r, (e7 _ k15r.lt (by omega)).trans k15r, kSum kM5r (by decide), kSum k195r (by decide), own_keep oW5r (fun b e => e7 b (World.ownsRow.lt oW5r b e).2 (fun h => by subst h; exact absurd ((own_kind oW5r e).uniq kt5.kind) (by decide))), own_keep oO5r (fun b e => e7 b (World.ownsRow.lt oO5r b e).2 (fun h => by subst h; exact absurd ((own_kind oO5r e).uniq kt5.kind) (by decide))), (y5r.trans (b6r.mono y5r.size)).grown g7r (by have := y5r.size; omega) (fun k e => by injection e with e; omega), by omega⟩
              case measure => simp [intOf]; omega
            · have hkC2 : k = C := by omega
              clear hlt
              subst hkC2
              have htl := tagOf_length (List.replicate 32 0) (ldSlots ⟨List.replicate 8 zeros192, S, -1, false, n⟩ 0 8 0 k) List.length_replicate
              generalize (tagOf (List.replicate 32 0) (ldSlots ⟨List.replicate 8 zeros192, S, -1, false, n⟩ 0 8 0 k)) = tg2 at *
              have z3 : (bs tg2).toArray.size = 32 := by simp [bs_length, htl]
              have ib : (Tryz.prog.info? 23).map (·.size) = some (bs tg2).toArray.size := by rw [z3]; kernel_rfl
              have ob : (bs tg2).toArray.all (·.oneCell') = true := bs_all _
              have th : wr.there w9.heap.size 2 (bs tg2).toArray.size := k19r.there_mid (by rw [List.size_toArray, List.size_toArray, stCells_length, bs_length, htl, HTGL.out]; exact Nat.le_refl _)
              have k19x := Blk.put (g := w9.heap.size) (t := 41) (bs tg2) [.int .u64 ((0 : Nat) : Int), .int .u64 ((k : Nat) : Int)] (bs tg) [] wr (by rw [bs_length, bs_length, htl, HTGL.out]) (by rw [List.append_nil]; exact k19r)
              rw [List.append_nil] at k19x
              have gx : wr.grownBy (wr.setCells w9.heap.size 2 (bs tg2)) (some w9.heap.size) := grownBy_setCells _ _ _ (World.grownBy.refl _ _)
              obtain ⟨ux, hux⟩ : ∃ ux : World, ux = wr.setCells w9.heap.size 2 (bs tg2) := ⟨_, rfl⟩
              have k19x : Blk ux w9.heap.size 41 (stCells 0 k tg2).toArray := by rw [hux]; exact k19x
              rw [← hux] at gx
              have zx := gx.size
              have ex : ∀ j : Nat, j < wr.heap.size → j ≠ w9.heap.size → ux.heap[j]? = wr.heap[j]? := fun j hj hne => gx.block j hj (fun e => by injection e with e; omega)
              have k1x : Blk ux w.heap.size 23 (bs key).toArray := (ex _ k1r.lt (fun h => by rw [h] at k1r; exact absurd (k1r.kind.uniq k19r.kind) (by decide))).trans k1r
              have kMx : Blk ux gm 33 dl.toArray := (ex _ kMr.lt (fun h => by rw [h] at kMr; exact absurd (kMr.kind.uniq k19r.kind) (by decide))).trans kMr
              have Dx : Disk ux gd (fun k => gd ≤ k ∧ k ≠ gm) ⟨List.replicate 8 zeros192, S, -1, false, n + k⟩ := Dr.keepW (by omega) fun j t hK hf => ex j hK.lt (fun h => by
                subst h
                have ht := hK.uniq k19r.kind
                subst ht
                rcases hf with hf | hf
                · exact absurd hf.2.1 (by decide)
                · exact absurd hf (by decide))
              have oWx := own_keep (w' := ux) oWr (fun b e => ex b (World.ownsRow.lt oWr b e).2 (fun h => by subst h; exact absurd ((own_kind oWr e).uniq k19r.kind) (by decide)))
              have oOx := own_keep (w' := ux) oOr (fun b e => ex b (World.ownsRow.lt oOr b e).2 (fun h => by subst h; exact absurd ((own_kind oOr e).uniq k19r.kind) (by decide)))
              have yx : Below w.heap.size w ux := yr.grown gx yr.size (fun k e => by injection e with e; have := y8.size; omega)
              have Tx := hT.under yx
              have Z3 := Lib.hid z3
              have IB := Lib.hid ib
              have OB := Lib.hid ob
              have HUX := Lib.hid hux
              have hki8 : (k : Int) ≤ 8 := by omega
              clear z3 ib ob hux ex gx hkC Dr k1r kMr oWr oOr
              have hld := load_all gd 0 8 0 k _ ⟨List.replicate 8 zeros192, S, -1, false, n + k⟩ key tg2 ux Dx hk htl (by omega) (by show 0 + 8 ≤ (List.replicate 8 zeros192).length; rw [List.length_replicate]; omega) (by show (List.replicate 8 zeros192).length ≤ 1048576; rw [List.length_replicate]; omega) (by omega) hC8 rfl (fun b hb => by rw [(List.mem_replicate.1 hb).2]; exact List.length_replicate) HS2.out (by show S.length ≤ 1048576; have := HS1.out; omega) (by show n + k + k ≤ 1048576; omega) Tx (fun k hk => by have h1 : gd ≤ k := hk.1; omega)
              have hso := fun W => stateOf_any 0 k tg2 W htl
              have hsx : ldSlots ⟨List.replicate 8 zeros192, S, -1, false, n + k⟩ 0 8 0 k = (ldSlots ⟨List.replicate 8 zeros192, S, -1, false, n⟩ 0 8 0 k) := rfl
              rw [hsx] at hld
              have hrl1 := fun W => hrl tg2 W htl
              have sC := stCells_length 0 k tg2
              rw [htl] at sC
              have iC : (Tryz.prog.info? 41).map (·.size) = some (stCells 0 k tg2).toArray.size := by rw [List.size_toArray, sC]; kernel_rfl
              have iCs : (Tryz.prog.info? 41).map (·.size) = some (stCells 0 k tg2).length := by rw [sC]; kernel_rfl
              have i23 : (Tryz.prog.info? 23).map (·.size) = some (bs key).length := by rw [bs_length, hk]; kernel_rfl
              have u23 := Tryz.underlying23
              have u41 := Tryz.underlying41
              have uD := Tryz.underlying33
              have esto : ∀ args w, (callFunc 14 args).run Tryz.prog w = .ok (.enter 14 args) w := enters_of Tryz.func14 (by kernel_rfl) rfl
              have eref : ∀ args w, (callFunc 18 args).run Tryz.prog w = .ok (.enter 18 args) w := enters_of Tryz.func18 (by kernel_rfl) rfl
              have IC := Lib.hid iC
              clear iC hrl sC
              have hcs : loadV key tg2 (ldSlots ⟨List.replicate 8 zeros192, S, -1, false, n⟩ 0 8 0 k) = none ∨ ∃ ll, loadV key tg2 (ldSlots ⟨List.replicate 8 zeros192, S, -1, false, n⟩ 0 8 0 k) = some ll := by
                cases loadV key tg2 (ldSlots ⟨List.replicate 8 zeros192, S, -1, false, n⟩ 0 8 0 k) with
                | none => exact .inl rfl
                | some ll => exact .inr ⟨ll, rfl⟩
              rcases hcs with hlv | ⟨ll, hlv⟩
              · have hld2 : Calls Tryz.prog 17 #[.pointer (some ⟨gd, 0, none⟩), .agg (bs key).toArray, .int .i64 0, .int .i64 8, .agg (stCells 0 k tg2).toArray] ux fun e w' => e = .returned (.tuple #[.slice none 0 0, .int .i64 14]) ∧ Only (fun k => gd ≤ k ∧ k ≠ gm) ux w' := hld.mono fun e w' h => by
                  rcases h with ⟨h1 | ⟨ll, v, ys, h1, _⟩, _, h3⟩
                  · exact ⟨h1.2, h3⟩
                  · rw [hlv] at h1; cases h1
                have hrl2 := fun W h1 h2 => (hrl1 W h1 h2).mono (R' := fun e w' => ∃ dx : List Value, dx.length = 6 ∧ (∀ v ∈ dx, v.oneCell' = true) ∧ e = .returned (.tuple #[.agg dx.toArray, .slice none 0 0, .int .i64 14]) ∧ Below W.heap.size W w') fun e w' h => by
                  obtain ⟨dx, d1, d2, h3 | ⟨ll, A', c', ys, h3, _⟩, h4⟩ := h
                  · exact ⟨dx, d1, d2, h3.2, h4⟩
                  · rw [hlv] at h3; cases h3
                clear hld hrl1 hlv
                go_wp2_with (first | ((with_reducible refine wpList_load_blk (o := ⟨some 118, _, _, _, _, _⟩) rfl 23 _ rfl bt rfl 23 _ _ ktr Tryz.underlying23 rfl (by rw [Z3.out]; kernel_rfl) ?_)) | ((with_reducible refine wpList_store_mid (op := ⟨none, .store 23 (.tmp 119) (.tmp 118), _, _, _, _⟩) rfl 23 (.tmp 119) (.tmp 118) rfl w9.heap.size 2 (bs tg2).toArray rfl rfl th IB.out OB.out ?_); rw [List.toList_toArray]) | ((with_reducible refine wpList_load_blk (o := ⟨some 122, _, _, _, _, _⟩) rfl 23 _ rfl w.heap.size rfl 23 _ _ (by rw [← HUX.out]; exact k1x) Tryz.underlying23 rfl (by rw [Z1.out]; kernel_rfl) ?_)) | ((with_reducible refine wpList_load_blk (o := ⟨some 123, _, _, _, _, _⟩) rfl 41 _ rfl w9.heap.size rfl 41 _ _ (by rw [← HUX.out]; exact k19x) Tryz.underlying41 rfl IC.out ?_)) | (go_at_call 17; rw [← HUX.out]; refine hld2.mono ?_; rintro e w7 ⟨rfl, O7⟩; have kM7 := O7.blk kMx (.inr (by decide)); have k17 := O7.blk k1x (.inr (by decide)); have k197 := O7.blk k19x (.inr (by decide)); have oW7 := O7.own oWx (.inr (by decide)); have oO7 := O7.own oOx (.inr (by decide)); have y7 := yx.trans (O7.below yx.size (fun k h => by have h1 : gd ≤ k := h.1; omega)); clear hld2))
                have hS8 : ∀ W, Below w7.heap.size w7 W → W.rangeAt gm 0 dl ∧ W.rangeAt w.heap.size 0 (bs key) ∧ W.rangeAt w9.heap.size 0 (stCells 0 k tg2) := fun W hb => ⟨Blk.range (kM7.below hb kM7.lt), Blk.range (k17.below hb k17.lt), Blk.range (k197.below hb k197.lt)⟩
                have bd7 : Below w7.heap.size w7 w7.drew := (Below.refl _ _).drew
                refine wp_region_held_drew (S := fun w' => w'.rangeAt gm 0 dl ∧ w'.rangeAt w.heap.size 0 (bs key) ∧ w'.rangeAt w9.heap.size 0 (stCells 0 k tg2)) (by kernel_rfl) (hS8 _ bd7) (fun _ => ?_)
                obtain ⟨v0, hv0⟩ : ∃ v0 : World, v0 = w7.drew := ⟨_, rfl⟩
                rw [← hv0]
                rw [← hv0] at bd7
                refine wpAnyH_take (i := 0) (oi := ⟨some 128, _, _, _, _, _⟩) (v := .agg dl.toArray) rfl (by kernel_rfl) (by kernel_rfl) (by kernel_rfl) (fun _ _ _ h => h) (yieldsIf_load_mid (by rfl) 33 _ rfl gm 0 (by rfl) dl _ (fun W h => h.1) uD rfl iD2) (hS8 _ bd7) ?_
                simp only [Act.put, List.setIfInBounds_toArray, List.set_cons_zero, List.set_cons_succ]
                refine wpAnyH_take (i := 1) (oi := ⟨some 129, _, _, _, _, _⟩) (v := .agg (bs key).toArray) rfl (by kernel_rfl) (by kernel_rfl) (by kernel_rfl) (fun _ _ _ h => h) (yieldsIf_load_mid (by rfl) 23 _ rfl w.heap.size 0 (by rfl) (bs key) _ (fun W h => h.2.1) u23 rfl i23) (hS8 _ bd7) ?_
                simp only [Act.put, List.setIfInBounds_toArray, List.set_cons_zero, List.set_cons_succ]
                refine wpAnyH_take (i := 2) (oi := ⟨some 130, _, _, _, _, _⟩) (v := .agg (stCells 0 k tg2).toArray) rfl (by kernel_rfl) (by kernel_rfl) (by kernel_rfl) (fun _ _ _ h => h) (yieldsIf_load_mid (by rfl) 41 _ rfl w9.heap.size 0 (by rfl) (stCells 0 k tg2) _ (fun W h => h.2.2) u41 rfl iCs) (hS8 _ bd7) ?_
                simp only [Act.put, List.setIfInBounds_toArray, List.set_cons_zero, List.set_cons_succ]
                refine wpAnyH_ready (rs := [3, 9]) (by kernel_rfl) (by simp) ?_
                refine AllReadyH.cons (o := ⟨some 131, .call { callee := .value (.func 14), args := #[.tmp 130], argTypes := #[41] }, _, _, _, _⟩) rfl (fun K' hK => ?_) (AllReadyH.cons (o := ⟨some 30, .alloc 33, _, _, _, _⟩) rfl (fun K' hK => ?_) (AllReadyH.nil))
                · refine step_call_w (by rfl) 14 [_] _ rfl [.agg (stCells 0 k tg2).toArray] rfl esto _ (hso _) ?_
                  rintro e v1 ⟨rfl, st⟩
                  have bv1 := bd7.trans (st.mono bd7.size)
                  refine ⟨_, rfl, hK.out _ _ (hS8 _ bv1) (fun _ => ?_)⟩
                  clear hK st
                  simp only [Act.put, List.setIfInBounds_toArray, List.set_cons_zero, List.set_cons_succ]
                  refine wpAnyH_ready (rs := [4, 9]) (by kernel_rfl) (by simp) ?_
                  refine AllReadyH.cons (o := ⟨some 132, .call { callee := .value (.func 18), args := #[.tmp 128, .tmp 129, .const (.int .i64 0), .const (.int .i64 8), .tmp 131], argTypes := #[33, 23, 3, 3, 42] }, _, _, _, _⟩) rfl (fun K' hK => ?_) (AllReadyH.cons (o := ⟨some 30, .alloc 33, _, _, _, _⟩) rfl (fun K' hK => ?_) (AllReadyH.nil))
                  · refine step_call_w (by rfl) 18 [_, _, _, _, _] _ rfl [.agg dl.toArray, .agg (bs key).toArray, .int .i64 0, .int .i64 8, .agg (stCells 0 k tg2).toArray] rfl eref _ (hrl2 _ (own_keep oW7 (fun b e => bv1.block b (World.ownsRow.lt oW7 b e).2)) (own_keep oO7 (fun b e => bv1.block b (World.ownsRow.lt oO7 b e).2))) ?_
                    rintro e v2 ⟨dx, dxl, dxo, rfl, st⟩
                    have bv2 := bv1.trans (st.mono bv1.size)
                    refine ⟨_, rfl, hK.out _ _ (hS8 _ bv2) (fun _ => ?_)⟩
                    clear hK st
                    simp only [Act.put, List.setIfInBounds_toArray, List.set_cons_zero, List.set_cons_succ]
                    refine wpAnyH_take (i := 5) (oi := ⟨some 127, _, _, _, _, _⟩) (v := .tuple #[.agg dx.toArray, .slice none 0 0, .int .i64 14]) rfl (by kernel_rfl) (by kernel_rfl) (by kernel_rfl) (fun _ _ _ h => h) (Or.inl ⟨by rfl, by intro W hS; go_simp⟩) (hS8 _ bv2) ?_
                    simp only [Act.put, List.setIfInBounds_toArray, List.set_cons_zero, List.set_cons_succ]
                    refine wpAnyH_take (i := 6) (oi := ⟨some 133, _, _, _, _, _⟩) (v := .agg dx.toArray) rfl (by kernel_rfl) (by kernel_rfl) (by kernel_rfl) (fun _ _ _ h => h) (Or.inl ⟨by rfl, by intro W hS; go_simp⟩) (hS8 _ bv2) ?_
                    simp only [Act.put, List.setIfInBounds_toArray, List.set_cons_zero, List.set_cons_succ]
                    refine wpAnyH_take (i := 7) (oi := ⟨some 134, _, _, _, _, _⟩) (v := .slice none 0 0) rfl (by kernel_rfl) (by kernel_rfl) (by kernel_rfl) (fun _ _ _ h => h) (Or.inl ⟨by rfl, by intro W hS; go_simp⟩) (hS8 _ bv2) ?_
                    simp only [Act.put, List.setIfInBounds_toArray, List.set_cons_zero, List.set_cons_succ]
                    refine wpAnyH_take (i := 8) (oi := ⟨some 135, _, _, _, _, _⟩) (v := .int .i64 14) rfl (by kernel_rfl) (by kernel_rfl) (by kernel_rfl) (fun _ _ _ h => h) (Or.inl ⟨by rfl, by intro W hS; go_simp⟩) (hS8 _ bv2) ?_
                    simp only [Act.put, List.setIfInBounds_toArray, List.set_cons_zero, List.set_cons_succ]
                    refine wpAnyH_ready (rs := [9]) (by kernel_rfl) (by simp) ?_
                    refine AllReadyH.cons (o := ⟨some 30, .alloc 33, _, _, _, _⟩) rfl (fun K' hK => ?_) (AllReadyH.nil)
                    · refine step_alloc_run rfl (run_allocD _ _ rfl _) ?_
                      have st : Below v2.heap.size v2 (v2.alloc (.cells ([.int .i64 0, .slice none 0 0, .slice none 0 0, .int .i64 0, .bool false, .slice none 0 0] : List Value).toArray 33)) := (Below.refl _ _).alloc (Nat.le_refl _) _
                      have kD : Blk (v2.alloc (.cells ([.int .i64 0, .slice none 0 0, .slice none 0 0, .int .i64 0, .bool false, .slice none 0 0] : List Value).toArray 33)) v2.heap.size 33 ([.int .i64 0, .slice none 0 0, .slice none 0 0, .int .i64 0, .bool false, .slice none 0 0] : List Value).toArray := Blk.new _ _ _
                      obtain ⟨pD, hpD⟩ : ∃ pD, pD = v2.heap.size := ⟨_, rfl⟩
                      obtain ⟨v3, hwv3⟩ : ∃ u : World, u = v2.alloc (.cells ([.int .i64 0, .slice none 0 0, .slice none 0 0, .int .i64 0, .bool false, .slice none 0 0] : List Value).toArray 33) := ⟨_, rfl⟩
                      rw [← hwv3] at st kD
                      rw [← hpD] at kD
                      have lD : w7.heap.size ≤ pD := by rw [hpD]; exact bv2.size
                      have bv3 := bv2.trans (st.mono bv2.size)
                      refine hK.out _ _ (by rw [← hwv3]; exact hS8 _ bv3) (fun _ => ?_)
                      clear hK st
                      simp only [Act.put, List.setIfInBounds_toArray, List.set_cons_zero, List.set_cons_succ]
                      rw [← hwv3, ← hpD]
                      clear hwv3 hpD
                      have pz := kD.lt
                      have gF : v3.grownBy (v3.setCells pD 0 dx) (some pD) := grownBy_setCells _ _ _ (World.grownBy.refl _ _)
                      have thD : v3.there pD 0 dx.length := kD.there (by rw [dxl]; exact Nat.le_refl _)
                      have sF : (v3.setCells pD 0 dx).rangeAt gm 0 dl ∧ (v3.setCells pD 0 dx).rangeAt w.heap.size 0 (bs key) ∧ (v3.setCells pD 0 dx).rangeAt w9.heap.size 0 (stCells 0 k tg2) := ⟨Blk.range ((gF.block gm (by have := kM7.lt; have := bv3.size; omega) (fun e => by injection e with e; have := kM7.lt; omega)).trans (kM7.below bv3 kM7.lt)), Blk.range ((gF.block w.heap.size (by have := k17.lt; have := bv3.size; omega) (fun e => by injection e with e; have := k17.lt; omega)).trans (k17.below bv3 k17.lt)), Blk.range ((gF.block w9.heap.size (by have := k197.lt; have := bv3.size; omega) (fun e => by injection e with e; have := k197.lt; omega)).trans (k197.below bv3 k197.lt))⟩
                      obtain ⟨uF, huF⟩ : ∃ uF : World, uF = v3.setCells pD 0 dx := ⟨_, rfl⟩
                      rw [← huF] at gF sF
                      refine wpAnyH_ready (rs := [10]) (by kernel_rfl) (by simp) ?_
                      refine AllReadyH.cons (o := ⟨none, .store 33 (.tmp 30) (.tmp 133), _, _, _, _⟩) rfl (fun K' hK => ?_) AllReadyH.nil
                      rw [if_pos (by rfl)]
                      refine wp_store_mid _ _ _ rfl _ _ (List.toArray _) rfl rfl ?_ ?_ (all_oneCell_toArray dxo) ?_
                      · simpa using thD
                      · rw [List.size_toArray]; exact (by rw [dxl]; kernel_rfl)
                      simp only [Act.put]
                      refine hK.out _ _ (by rw [← huF]; exact sF) (fun _ => ?_)
                      clear hK
                      rw [← huF]
                      clear huF
                      refine wpAnyH_take (i := 11) (oi := ⟨some 31, _, _, _, _, _⟩) (v := .slice none 0 0) rfl (by kernel_rfl) (by kernel_rfl) (by kernel_rfl) (fun _ _ _ h => h) (Or.inl ⟨by rfl, by intro W hS; go_simp⟩) sF ?_
                      simp only [Act.put, List.setIfInBounds_toArray, List.set_cons_zero, List.set_cons_succ]
                      refine wpAnyH_take (i := 12) (oi := ⟨some 32, _, _, _, _, _⟩) (v := .int .i64 14) rfl (by kernel_rfl) (by kernel_rfl) (by kernel_rfl) (fun _ _ _ h => h) (Or.inl ⟨by rfl, by intro W hS; go_simp⟩) sF ?_
                      simp only [Act.put, List.setIfInBounds_toArray, List.set_cons_zero, List.set_cons_succ]
                      refine wpAnyH_done (by kernel_rfl) ?_ _
                      have yF : Below w.heap.size w uF := (y7.trans (bv3.mono y7.size)).grown gF (by have := y7.size; have := bv3.size; omega) (fun k e => by injection e with e; have := y7.size; omega)
                      have hal := allOf_any none 0 0 [] [] uF Reads.none_ (fun ad h => by cases h) rfl (fun i l hl => by simp at hl) (by omega) (fun l hl => by cases hl)
                      go_wp2_with (first | (go_at_call 20; refine hal.mono ?_; rintro e x1 ⟨A9, c9, y9s, rfl, o9, R9, b9⟩; have hsm := sameAll_yes A9 none 0 c9 0 _ 0 _ 0 y9s [] [] x1 rfl o9 R9 (World.ownsRow_nil _ _ _ _) (fun i l hl => by simp at hl) (by omega) (fun l hl => by cases hl); clear hal) | (go_at_call 19; refine hsm.mono ?_; rintro e x2w ⟨rfl, q9, rfl⟩; clear hsm))
                      go_ret
                      exact ⟨rfl, yF.trans ((below_drewN b9 q9).mono yF.size)⟩
                  · refine step_alloc_run rfl (run_allocD _ _ rfl _) ?_
                    have st : Below v1.heap.size v1 (v1.alloc (.cells ([.int .i64 0, .slice none 0 0, .slice none 0 0, .int .i64 0, .bool false, .slice none 0 0] : List Value).toArray 33)) := (Below.refl _ _).alloc (Nat.le_refl _) _
                    have kD : Blk (v1.alloc (.cells ([.int .i64 0, .slice none 0 0, .slice none 0 0, .int .i64 0, .bool false, .slice none 0 0] : List Value).toArray 33)) v1.heap.size 33 ([.int .i64 0, .slice none 0 0, .slice none 0 0, .int .i64 0, .bool false, .slice none 0 0] : List Value).toArray := Blk.new _ _ _
                    obtain ⟨pD, hpD⟩ : ∃ pD, pD = v1.heap.size := ⟨_, rfl⟩
                    obtain ⟨v2, hwv2⟩ : ∃ u : World, u = v1.alloc (.cells ([.int .i64 0, .slice none 0 0, .slice none 0 0, .int .i64 0, .bool false, .slice none 0 0] : List Value).toArray 33) := ⟨_, rfl⟩
                    rw [← hwv2] at st kD
                    rw [← hpD] at kD
                    have lD : w7.heap.size ≤ pD := by rw [hpD]; exact bv1.size
                    have bv2 := bv1.trans (st.mono bv1.size)
                    refine hK.out _ _ (by rw [← hwv2]; exact hS8 _ bv2) (fun _ => ?_)
                    clear hK st
                    simp only [Act.put, List.setIfInBounds_toArray, List.set_cons_zero, List.set_cons_succ]
                    rw [← hwv2, ← hpD]
                    clear hwv2 hpD
                    refine wpAnyH_ready (rs := [4]) (by kernel_rfl) (by simp) ?_
                    refine AllReadyH.cons (o := ⟨some 132, .call { callee := .value (.func 18), args := #[.tmp 128, .tmp 129, .const (.int .i64 0), .const (.int .i64 8), .tmp 131], argTypes := #[33, 23, 3, 3, 42] }, _, _, _, _⟩) rfl (fun K' hK => ?_) (AllReadyH.nil)
                    · refine step_call_w (by rfl) 18 [_, _, _, _, _] _ rfl [.agg dl.toArray, .agg (bs key).toArray, .int .i64 0, .int .i64 8, .agg (stCells 0 k tg2).toArray] rfl eref _ (hrl2 _ (own_keep oW7 (fun b e => bv2.block b (World.ownsRow.lt oW7 b e).2)) (own_keep oO7 (fun b e => bv2.block b (World.ownsRow.lt oO7 b e).2))) ?_
                      rintro e v3 ⟨dx, dxl, dxo, rfl, st⟩
                      have kD := kD.below st kD.lt
                      have bv3 := bv2.trans (st.mono bv2.size)
                      refine ⟨_, rfl, hK.out _ _ (hS8 _ bv3) (fun _ => ?_)⟩
                      clear hK st
                      simp only [Act.put, List.setIfInBounds_toArray, List.set_cons_zero, List.set_cons_succ]
                      refine wpAnyH_take (i := 5) (oi := ⟨some 127, _, _, _, _, _⟩) (v := .tuple #[.agg dx.toArray, .slice none 0 0, .int .i64 14]) rfl (by kernel_rfl) (by kernel_rfl) (by kernel_rfl) (fun _ _ _ h => h) (Or.inl ⟨by rfl, by intro W hS; go_simp⟩) (hS8 _ bv3) ?_
                      simp only [Act.put, List.setIfInBounds_toArray, List.set_cons_zero, List.set_cons_succ]
                      refine wpAnyH_take (i := 6) (oi := ⟨some 133, _, _, _, _, _⟩) (v := .agg dx.toArray) rfl (by kernel_rfl) (by kernel_rfl) (by kernel_rfl) (fun _ _ _ h => h) (Or.inl ⟨by rfl, by intro W hS; go_simp⟩) (hS8 _ bv3) ?_
                      simp only [Act.put, List.setIfInBounds_toArray, List.set_cons_zero, List.set_cons_succ]
                      refine wpAnyH_take (i := 7) (oi := ⟨some 134, _, _, _, _, _⟩) (v := .slice none 0 0) rfl (by kernel_rfl) (by kernel_rfl) (by kernel_rfl) (fun _ _ _ h => h) (Or.inl ⟨by rfl, by intro W hS; go_simp⟩) (hS8 _ bv3) ?_
                      simp only [Act.put, List.setIfInBounds_toArray, List.set_cons_zero, List.set_cons_succ]
                      refine wpAnyH_take (i := 8) (oi := ⟨some 135, _, _, _, _, _⟩) (v := .int .i64 14) rfl (by kernel_rfl) (by kernel_rfl) (by kernel_rfl) (fun _ _ _ h => h) (Or.inl ⟨by rfl, by intro W hS; go_simp⟩) (hS8 _ bv3) ?_
                      simp only [Act.put, List.setIfInBounds_toArray, List.set_cons_zero, List.set_cons_succ]
                      have pz := kD.lt
                      have gF : v3.grownBy (v3.setCells pD 0 dx) (some pD) := grownBy_setCells _ _ _ (World.grownBy.refl _ _)
                      have thD : v3.there pD 0 dx.length := kD.there (by rw [dxl]; exact Nat.le_refl _)
                      have sF : (v3.setCells pD 0 dx).rangeAt gm 0 dl ∧ (v3.setCells pD 0 dx).rangeAt w.heap.size 0 (bs key) ∧ (v3.setCells pD 0 dx).rangeAt w9.heap.size 0 (stCells 0 k tg2) := ⟨Blk.range ((gF.block gm (by have := kM7.lt; have := bv3.size; omega) (fun e => by injection e with e; have := kM7.lt; omega)).trans (kM7.below bv3 kM7.lt)), Blk.range ((gF.block w.heap.size (by have := k17.lt; have := bv3.size; omega) (fun e => by injection e with e; have := k17.lt; omega)).trans (k17.below bv3 k17.lt)), Blk.range ((gF.block w9.heap.size (by have := k197.lt; have := bv3.size; omega) (fun e => by injection e with e; have := k197.lt; omega)).trans (k197.below bv3 k197.lt))⟩
                      obtain ⟨uF, huF⟩ : ∃ uF : World, uF = v3.setCells pD 0 dx := ⟨_, rfl⟩
                      rw [← huF] at gF sF
                      refine wpAnyH_ready (rs := [10]) (by kernel_rfl) (by simp) ?_
                      refine AllReadyH.cons (o := ⟨none, .store 33 (.tmp 30) (.tmp 133), _, _, _, _⟩) rfl (fun K' hK => ?_) AllReadyH.nil
                      rw [if_pos (by rfl)]
                      refine wp_store_mid _ _ _ rfl _ _ (List.toArray _) rfl rfl ?_ ?_ (all_oneCell_toArray dxo) ?_
                      · simpa using thD
                      · rw [List.size_toArray]; exact (by rw [dxl]; kernel_rfl)
                      simp only [Act.put]
                      refine hK.out _ _ (by rw [← huF]; exact sF) (fun _ => ?_)
                      clear hK
                      rw [← huF]
                      clear huF
                      refine wpAnyH_take (i := 11) (oi := ⟨some 31, _, _, _, _, _⟩) (v := .slice none 0 0) rfl (by kernel_rfl) (by kernel_rfl) (by kernel_rfl) (fun _ _ _ h => h) (Or.inl ⟨by rfl, by intro W hS; go_simp⟩) sF ?_
                      simp only [Act.put, List.setIfInBounds_toArray, List.set_cons_zero, List.set_cons_succ]
                      refine wpAnyH_take (i := 12) (oi := ⟨some 32, _, _, _, _, _⟩) (v := .int .i64 14) rfl (by kernel_rfl) (by kernel_rfl) (by kernel_rfl) (fun _ _ _ h => h) (Or.inl ⟨by rfl, by intro W hS; go_simp⟩) sF ?_
                      simp only [Act.put, List.setIfInBounds_toArray, List.set_cons_zero, List.set_cons_succ]
                      refine wpAnyH_done (by kernel_rfl) ?_ _
                      have yF : Below w.heap.size w uF := (y7.trans (bv3.mono y7.size)).grown gF (by have := y7.size; have := bv3.size; omega) (fun k e => by injection e with e; have := y7.size; omega)
                      have hal := allOf_any none 0 0 [] [] uF Reads.none_ (fun ad h => by cases h) rfl (fun i l hl => by simp at hl) (by omega) (fun l hl => by cases hl)
                      go_wp2_with (first | (go_at_call 20; refine hal.mono ?_; rintro e x1 ⟨A9, c9, y9s, rfl, o9, R9, b9⟩; have hsm := sameAll_yes A9 none 0 c9 0 _ 0 _ 0 y9s [] [] x1 rfl o9 R9 (World.ownsRow_nil _ _ _ _) (fun i l hl => by simp at hl) (by omega) (fun l hl => by cases hl); clear hal) | (go_at_call 19; refine hsm.mono ?_; rintro e x2w ⟨rfl, q9, rfl⟩; clear hsm))
                      go_ret
                      exact ⟨rfl, yF.trans ((below_drewN b9 q9).mono yF.size)⟩
                · refine step_alloc_run rfl (run_allocD _ _ rfl _) ?_
                  have st : Below v0.heap.size v0 (v0.alloc (.cells ([.int .i64 0, .slice none 0 0, .slice none 0 0, .int .i64 0, .bool false, .slice none 0 0] : List Value).toArray 33)) := (Below.refl _ _).alloc (Nat.le_refl _) _
                  have kD : Blk (v0.alloc (.cells ([.int .i64 0, .slice none 0 0, .slice none 0 0, .int .i64 0, .bool false, .slice none 0 0] : List Value).toArray 33)) v0.heap.size 33 ([.int .i64 0, .slice none 0 0, .slice none 0 0, .int .i64 0, .bool false, .slice none 0 0] : List Value).toArray := Blk.new _ _ _
                  obtain ⟨pD, hpD⟩ : ∃ pD, pD = v0.heap.size := ⟨_, rfl⟩
                  obtain ⟨v1, hwv1⟩ : ∃ u : World, u = v0.alloc (.cells ([.int .i64 0, .slice none 0 0, .slice none 0 0, .int .i64 0, .bool false, .slice none 0 0] : List Value).toArray 33) := ⟨_, rfl⟩
                  rw [← hwv1] at st kD
                  rw [← hpD] at kD
                  have lD : w7.heap.size ≤ pD := by rw [hpD]; exact bd7.size
                  have bv1 := bd7.trans (st.mono bd7.size)
                  refine hK.out _ _ (by rw [← hwv1]; exact hS8 _ bv1) (fun _ => ?_)
                  clear hK st
                  simp only [Act.put, List.setIfInBounds_toArray, List.set_cons_zero, List.set_cons_succ]
                  rw [← hwv1, ← hpD]
                  clear hwv1 hpD
                  refine wpAnyH_ready (rs := [3]) (by kernel_rfl) (by simp) ?_
                  refine AllReadyH.cons (o := ⟨some 131, .call { callee := .value (.func 14), args := #[.tmp 130], argTypes := #[41] }, _, _, _, _⟩) rfl (fun K' hK => ?_) (AllReadyH.nil)
                  · refine step_call_w (by rfl) 14 [_] _ rfl [.agg (stCells 0 k tg2).toArray] rfl esto _ (hso _) ?_
                    rintro e v2 ⟨rfl, st⟩
                    have kD := kD.below st kD.lt
                    have bv2 := bv1.trans (st.mono bv1.size)
                    refine ⟨_, rfl, hK.out _ _ (hS8 _ bv2) (fun _ => ?_)⟩
                    clear hK st
                    simp only [Act.put, List.setIfInBounds_toArray, List.set_cons_zero, List.set_cons_succ]
                    refine wpAnyH_ready (rs := [4]) (by kernel_rfl) (by simp) ?_
                    refine AllReadyH.cons (o := ⟨some 132, .call { callee := .value (.func 18), args := #[.tmp 128, .tmp 129, .const (.int .i64 0), .const (.int .i64 8), .tmp 131], argTypes := #[33, 23, 3, 3, 42] }, _, _, _, _⟩) rfl (fun K' hK => ?_) (AllReadyH.nil)
                    · refine step_call_w (by rfl) 18 [_, _, _, _, _] _ rfl [.agg dl.toArray, .agg (bs key).toArray, .int .i64 0, .int .i64 8, .agg (stCells 0 k tg2).toArray] rfl eref _ (hrl2 _ (own_keep oW7 (fun b e => bv2.block b (World.ownsRow.lt oW7 b e).2)) (own_keep oO7 (fun b e => bv2.block b (World.ownsRow.lt oO7 b e).2))) ?_
                      rintro e v3 ⟨dx, dxl, dxo, rfl, st⟩
                      have kD := kD.below st kD.lt
                      have bv3 := bv2.trans (st.mono bv2.size)
                      refine ⟨_, rfl, hK.out _ _ (hS8 _ bv3) (fun _ => ?_)⟩
                      clear hK st
                      simp only [Act.put, List.setIfInBounds_toArray, List.set_cons_zero, List.set_cons_succ]
                      refine wpAnyH_take (i := 5) (oi := ⟨some 127, _, _, _, _, _⟩) (v := .tuple #[.agg dx.toArray, .slice none 0 0, .int .i64 14]) rfl (by kernel_rfl) (by kernel_rfl) (by kernel_rfl) (fun _ _ _ h => h) (Or.inl ⟨by rfl, by intro W hS; go_simp⟩) (hS8 _ bv3) ?_
                      simp only [Act.put, List.setIfInBounds_toArray, List.set_cons_zero, List.set_cons_succ]
                      refine wpAnyH_take (i := 6) (oi := ⟨some 133, _, _, _, _, _⟩) (v := .agg dx.toArray) rfl (by kernel_rfl) (by kernel_rfl) (by kernel_rfl) (fun _ _ _ h => h) (Or.inl ⟨by rfl, by intro W hS; go_simp⟩) (hS8 _ bv3) ?_
                      simp only [Act.put, List.setIfInBounds_toArray, List.set_cons_zero, List.set_cons_succ]
                      refine wpAnyH_take (i := 7) (oi := ⟨some 134, _, _, _, _, _⟩) (v := .slice none 0 0) rfl (by kernel_rfl) (by kernel_rfl) (by kernel_rfl) (fun _ _ _ h => h) (Or.inl ⟨by rfl, by intro W hS; go_simp⟩) (hS8 _ bv3) ?_
                      simp only [Act.put, List.setIfInBounds_toArray, List.set_cons_zero, List.set_cons_succ]
                      refine wpAnyH_take (i := 8) (oi := ⟨some 135, _, _, _, _, _⟩) (v := .int .i64 14) rfl (by kernel_rfl) (by kernel_rfl) (by kernel_rfl) (fun _ _ _ h => h) (Or.inl ⟨by rfl, by intro W hS; go_simp⟩) (hS8 _ bv3) ?_
                      simp only [Act.put, List.setIfInBounds_toArray, List.set_cons_zero, List.set_cons_succ]
                      have pz := kD.lt
                      have gF : v3.grownBy (v3.setCells pD 0 dx) (some pD) := grownBy_setCells _ _ _ (World.grownBy.refl _ _)
                      have thD : v3.there pD 0 dx.length := kD.there (by rw [dxl]; exact Nat.le_refl _)
                      have sF : (v3.setCells pD 0 dx).rangeAt gm 0 dl ∧ (v3.setCells pD 0 dx).rangeAt w.heap.size 0 (bs key) ∧ (v3.setCells pD 0 dx).rangeAt w9.heap.size 0 (stCells 0 k tg2) := ⟨Blk.range ((gF.block gm (by have := kM7.lt; have := bv3.size; omega) (fun e => by injection e with e; have := kM7.lt; omega)).trans (kM7.below bv3 kM7.lt)), Blk.range ((gF.block w.heap.size (by have := k17.lt; have := bv3.size; omega) (fun e => by injection e with e; have := k17.lt; omega)).trans (k17.below bv3 k17.lt)), Blk.range ((gF.block w9.heap.size (by have := k197.lt; have := bv3.size; omega) (fun e => by injection e with e; have := k197.lt; omega)).trans (k197.below bv3 k197.lt))⟩
                      obtain ⟨uF, huF⟩ : ∃ uF : World, uF = v3.setCells pD 0 dx := ⟨_, rfl⟩
                      rw [← huF] at gF sF
                      refine wpAnyH_ready (rs := [10]) (by kernel_rfl) (by simp) ?_
                      refine AllReadyH.cons (o := ⟨none, .store 33 (.tmp 30) (.tmp 133), _, _, _, _⟩) rfl (fun K' hK => ?_) AllReadyH.nil
                      rw [if_pos (by rfl)]
                      refine wp_store_mid _ _ _ rfl _ _ (List.toArray _) rfl rfl ?_ ?_ (all_oneCell_toArray dxo) ?_
                      · simpa using thD
                      · rw [List.size_toArray]; exact (by rw [dxl]; kernel_rfl)
                      simp only [Act.put]
                      refine hK.out _ _ (by rw [← huF]; exact sF) (fun _ => ?_)
                      clear hK
                      rw [← huF]
                      clear huF
                      refine wpAnyH_take (i := 11) (oi := ⟨some 31, _, _, _, _, _⟩) (v := .slice none 0 0) rfl (by kernel_rfl) (by kernel_rfl) (by kernel_rfl) (fun _ _ _ h => h) (Or.inl ⟨by rfl, by intro W hS; go_simp⟩) sF ?_
                      simp only [Act.put, List.setIfInBounds_toArray, List.set_cons_zero, List.set_cons_succ]
                      refine wpAnyH_take (i := 12) (oi := ⟨some 32, _, _, _, _, _⟩) (v := .int .i64 14) rfl (by kernel_rfl) (by kernel_rfl) (by kernel_rfl) (fun _ _ _ h => h) (Or.inl ⟨by rfl, by intro W hS; go_simp⟩) sF ?_
                      simp only [Act.put, List.setIfInBounds_toArray, List.set_cons_zero, List.set_cons_succ]
                      refine wpAnyH_done (by kernel_rfl) ?_ _
                      have yF : Below w.heap.size w uF := (y7.trans (bv3.mono y7.size)).grown gF (by have := y7.size; have := bv3.size; omega) (fun k e => by injection e with e; have := y7.size; omega)
                      have hal := allOf_any none 0 0 [] [] uF Reads.none_ (fun ad h => by cases h) rfl (fun i l hl => by simp at hl) (by omega) (fun l hl => by cases hl)
                      go_wp2_with (first | (go_at_call 20; refine hal.mono ?_; rintro e x1 ⟨A9, c9, y9s, rfl, o9, R9, b9⟩; have hsm := sameAll_yes A9 none 0 c9 0 _ 0 _ 0 y9s [] [] x1 rfl o9 R9 (World.ownsRow_nil _ _ _ _) (fun i l hl => by simp at hl) (by omega) (fun l hl => by cases hl); clear hal) | (go_at_call 19; refine hsm.mono ?_; rintro e x2w ⟨rfl, q9, rfl⟩; clear hsm))
                      go_ret
                      exact ⟨rfl, yF.trans ((below_drewN b9 q9).mono yF.size)⟩
              · have hld2 : Calls Tryz.prog 17 #[.pointer (some ⟨gd, 0, none⟩), .agg (bs key).toArray, .int .i64 0, .int .i64 8, .agg (stCells 0 k tg2).toArray] ux fun e w' => ∃ A7 c7 ys7, e = .returned (.tuple #[.slice A7 ll.length c7, .int .i64 0]) ∧ w'.ownsRow ux.heap.size 24 1 (.slice A7 ll.length c7) ll.length ys7 ∧ RowC w' ys7 ll ∧ Only (fun k => gd ≤ k ∧ k ≠ gm) ux w' := hld.mono fun e w' h => by
                  rcases h with ⟨h1 | ⟨l2, v, ys, h1, h4, h5, h6⟩, _, h3⟩
                  · rw [hlv] at h1; cases h1.1
                  · rw [hlv] at h1; injection h1 with h1; subst h1; obtain ⟨A7, c7, rfl⟩ := own_shape h5; exact ⟨A7, c7, ys, h4, ownsRow_lower h5 (Nat.le_refl _), h6, h3⟩
                have hrl2 := fun W h1 h2 => (hrl1 W h1 h2).mono (R' := fun e w' => ∃ (dx : List Value) (B3 : Option Addr) (c3 : Nat) (z3s : List Value), dx.length = 6 ∧ (∀ v ∈ dx, v.oneCell' = true) ∧ e = .returned (.tuple #[.agg dx.toArray, .slice B3 ll.length c3, .int .i64 0]) ∧ w'.ownsRow W.heap.size 52 1 (.slice B3 ll.length c3) ll.length z3s ∧ RowMs w' W.heap.size z3s ll ∧ Below W.heap.size W w') fun e w' h => by
                  obtain ⟨dx, d1, d2, h3 | ⟨l2, A', c', ys, h3, h5, h6, h7⟩, h4⟩ := h
                  · rw [hlv] at h3; cases h3.1
                  · rw [hlv] at h3; injection h3 with h3; subst h3; exact ⟨dx, A', c', ys, d1, d2, h5, h6, h7, h4⟩
                have hll : ll.length ≤ 8 ∧ ∀ l ∈ ll, l.length ≤ 8 := loadV_small hlv (by rw [ldSlots_length]; exact hC8)
                have hlz1 := hll.1
                have hlz2 := hll.2
                clear hld hrl1 hlv hll
                go_wp2_with (first | ((with_reducible refine wpList_load_blk (o := ⟨some 118, _, _, _, _, _⟩) rfl 23 _ rfl bt rfl 23 _ _ ktr Tryz.underlying23 rfl (by rw [Z3.out]; kernel_rfl) ?_)) | ((with_reducible refine wpList_store_mid (op := ⟨none, .store 23 (.tmp 119) (.tmp 118), _, _, _, _⟩) rfl 23 (.tmp 119) (.tmp 118) rfl w9.heap.size 2 (bs tg2).toArray rfl rfl th IB.out OB.out ?_); rw [List.toList_toArray]) | ((with_reducible refine wpList_load_blk (o := ⟨some 122, _, _, _, _, _⟩) rfl 23 _ rfl w.heap.size rfl 23 _ _ (by rw [← HUX.out]; exact k1x) Tryz.underlying23 rfl (by rw [Z1.out]; kernel_rfl) ?_)) | ((with_reducible refine wpList_load_blk (o := ⟨some 123, _, _, _, _, _⟩) rfl 41 _ rfl w9.heap.size rfl 41 _ _ (by rw [← HUX.out]; exact k19x) Tryz.underlying41 rfl IC.out ?_)) | (go_at_call 17; rw [← HUX.out]; refine hld2.mono ?_; rintro e w7 ⟨A7, c7, ys7, rfl, o7, hC7, O7⟩; have kM7 := O7.blk kMx (.inr (by decide)); have k17 := O7.blk k1x (.inr (by decide)); have k197 := O7.blk k19x (.inr (by decide)); have oW7 := O7.own oWx (.inr (by decide)); have oO7 := O7.own oOx (.inr (by decide)); have y7 := yx.trans (O7.below yx.size (fun k h => by have h1 : gd ≤ k := h.1; omega)); clear hld2))
                have hS8 : ∀ W, Below w7.heap.size w7 W → W.rangeAt gm 0 dl ∧ W.rangeAt w.heap.size 0 (bs key) ∧ W.rangeAt w9.heap.size 0 (stCells 0 k tg2) := fun W hb => ⟨Blk.range (kM7.below hb kM7.lt), Blk.range (k17.below hb k17.lt), Blk.range (k197.below hb k197.lt)⟩
                have bd7 : Below w7.heap.size w7 w7.drew := (Below.refl _ _).drew
                refine wp_region_held_drew (S := fun w' => w'.rangeAt gm 0 dl ∧ w'.rangeAt w.heap.size 0 (bs key) ∧ w'.rangeAt w9.heap.size 0 (stCells 0 k tg2)) (by kernel_rfl) (hS8 _ bd7) (fun _ => ?_)
                obtain ⟨v0, hv0⟩ : ∃ v0 : World, v0 = w7.drew := ⟨_, rfl⟩
                rw [← hv0]
                rw [← hv0] at bd7
                refine wpAnyH_take (i := 0) (oi := ⟨some 128, _, _, _, _, _⟩) (v := .agg dl.toArray) rfl (by kernel_rfl) (by kernel_rfl) (by kernel_rfl) (fun _ _ _ h => h) (yieldsIf_load_mid (by rfl) 33 _ rfl gm 0 (by rfl) dl _ (fun W h => h.1) uD rfl iD2) (hS8 _ bd7) ?_
                simp only [Act.put, List.setIfInBounds_toArray, List.set_cons_zero, List.set_cons_succ]
                refine wpAnyH_take (i := 1) (oi := ⟨some 129, _, _, _, _, _⟩) (v := .agg (bs key).toArray) rfl (by kernel_rfl) (by kernel_rfl) (by kernel_rfl) (fun _ _ _ h => h) (yieldsIf_load_mid (by rfl) 23 _ rfl w.heap.size 0 (by rfl) (bs key) _ (fun W h => h.2.1) u23 rfl i23) (hS8 _ bd7) ?_
                simp only [Act.put, List.setIfInBounds_toArray, List.set_cons_zero, List.set_cons_succ]
                refine wpAnyH_take (i := 2) (oi := ⟨some 130, _, _, _, _, _⟩) (v := .agg (stCells 0 k tg2).toArray) rfl (by kernel_rfl) (by kernel_rfl) (by kernel_rfl) (fun _ _ _ h => h) (yieldsIf_load_mid (by rfl) 41 _ rfl w9.heap.size 0 (by rfl) (stCells 0 k tg2) _ (fun W h => h.2.2) u41 rfl iCs) (hS8 _ bd7) ?_
                simp only [Act.put, List.setIfInBounds_toArray, List.set_cons_zero, List.set_cons_succ]
                refine wpAnyH_ready (rs := [3, 9]) (by kernel_rfl) (by simp) ?_
                refine AllReadyH.cons (o := ⟨some 131, .call { callee := .value (.func 14), args := #[.tmp 130], argTypes := #[41] }, _, _, _, _⟩) rfl (fun K' hK => ?_) (AllReadyH.cons (o := ⟨some 30, .alloc 33, _, _, _, _⟩) rfl (fun K' hK => ?_) (AllReadyH.nil))
                · refine step_call_w (by rfl) 14 [_] _ rfl [.agg (stCells 0 k tg2).toArray] rfl esto _ (hso _) ?_
                  rintro e v1 ⟨rfl, st⟩
                  have bv1 := bd7.trans (st.mono bd7.size)
                  refine ⟨_, rfl, hK.out _ _ (hS8 _ bv1) (fun _ => ?_)⟩
                  clear hK st
                  simp only [Act.put, List.setIfInBounds_toArray, List.set_cons_zero, List.set_cons_succ]
                  refine wpAnyH_ready (rs := [4, 9]) (by kernel_rfl) (by simp) ?_
                  refine AllReadyH.cons (o := ⟨some 132, .call { callee := .value (.func 18), args := #[.tmp 128, .tmp 129, .const (.int .i64 0), .const (.int .i64 8), .tmp 131], argTypes := #[33, 23, 3, 3, 42] }, _, _, _, _⟩) rfl (fun K' hK => ?_) (AllReadyH.cons (o := ⟨some 30, .alloc 33, _, _, _, _⟩) rfl (fun K' hK => ?_) (AllReadyH.nil))
                  · refine step_call_w (by rfl) 18 [_, _, _, _, _] _ rfl [.agg dl.toArray, .agg (bs key).toArray, .int .i64 0, .int .i64 8, .agg (stCells 0 k tg2).toArray] rfl eref _ (hrl2 _ (own_keep oW7 (fun b e => bv1.block b (World.ownsRow.lt oW7 b e).2)) (own_keep oO7 (fun b e => bv1.block b (World.ownsRow.lt oO7 b e).2))) ?_
                    rintro e v2 ⟨dx, B3, c3, z3s, dxl, dxo, rfl, oL, RL, st⟩
                    have bv2 := bv1.trans (st.mono bv1.size)
                    refine ⟨_, rfl, hK.out _ _ (hS8 _ bv2) (fun _ => ?_)⟩
                    clear hK st
                    simp only [Act.put, List.setIfInBounds_toArray, List.set_cons_zero, List.set_cons_succ]
                    refine wpAnyH_take (i := 5) (oi := ⟨some 127, _, _, _, _, _⟩) (v := .tuple #[.agg dx.toArray, .slice B3 ll.length c3, .int .i64 0]) rfl (by kernel_rfl) (by kernel_rfl) (by kernel_rfl) (fun _ _ _ h => h) (Or.inl ⟨by rfl, by intro W hS; go_simp⟩) (hS8 _ bv2) ?_
                    simp only [Act.put, List.setIfInBounds_toArray, List.set_cons_zero, List.set_cons_succ]
                    refine wpAnyH_take (i := 6) (oi := ⟨some 133, _, _, _, _, _⟩) (v := .agg dx.toArray) rfl (by kernel_rfl) (by kernel_rfl) (by kernel_rfl) (fun _ _ _ h => h) (Or.inl ⟨by rfl, by intro W hS; go_simp⟩) (hS8 _ bv2) ?_
                    simp only [Act.put, List.setIfInBounds_toArray, List.set_cons_zero, List.set_cons_succ]
                    refine wpAnyH_take (i := 7) (oi := ⟨some 134, _, _, _, _, _⟩) (v := .slice B3 ll.length c3) rfl (by kernel_rfl) (by kernel_rfl) (by kernel_rfl) (fun _ _ _ h => h) (Or.inl ⟨by rfl, by intro W hS; go_simp⟩) (hS8 _ bv2) ?_
                    simp only [Act.put, List.setIfInBounds_toArray, List.set_cons_zero, List.set_cons_succ]
                    refine wpAnyH_take (i := 8) (oi := ⟨some 135, _, _, _, _, _⟩) (v := .int .i64 0) rfl (by kernel_rfl) (by kernel_rfl) (by kernel_rfl) (fun _ _ _ h => h) (Or.inl ⟨by rfl, by intro W hS; go_simp⟩) (hS8 _ bv2) ?_
                    simp only [Act.put, List.setIfInBounds_toArray, List.set_cons_zero, List.set_cons_succ]
                    refine wpAnyH_ready (rs := [9]) (by kernel_rfl) (by simp) ?_
                    refine AllReadyH.cons (o := ⟨some 30, .alloc 33, _, _, _, _⟩) rfl (fun K' hK => ?_) (AllReadyH.nil)
                    · refine step_alloc_run rfl (run_allocD _ _ rfl _) ?_
                      have st : Below v2.heap.size v2 (v2.alloc (.cells ([.int .i64 0, .slice none 0 0, .slice none 0 0, .int .i64 0, .bool false, .slice none 0 0] : List Value).toArray 33)) := (Below.refl _ _).alloc (Nat.le_refl _) _
                      have kD : Blk (v2.alloc (.cells ([.int .i64 0, .slice none 0 0, .slice none 0 0, .int .i64 0, .bool false, .slice none 0 0] : List Value).toArray 33)) v2.heap.size 33 ([.int .i64 0, .slice none 0 0, .slice none 0 0, .int .i64 0, .bool false, .slice none 0 0] : List Value).toArray := Blk.new _ _ _
                      obtain ⟨pD, hpD⟩ : ∃ pD, pD = v2.heap.size := ⟨_, rfl⟩
                      obtain ⟨v3, hwv3⟩ : ∃ u : World, u = v2.alloc (.cells ([.int .i64 0, .slice none 0 0, .slice none 0 0, .int .i64 0, .bool false, .slice none 0 0] : List Value).toArray 33) := ⟨_, rfl⟩
                      rw [← hwv3] at st kD
                      rw [← hpD] at kD
                      have lD : w7.heap.size ≤ pD := by rw [hpD]; exact bv2.size
                      have oL := own_keep oL (fun b e => st.block b (World.ownsRow.lt oL b e).2)
                      have RL := RL.keep (fun b hK => st.block b hK.lt)
                      have bv3 := bv2.trans (st.mono bv2.size)
                      refine hK.out _ _ (by rw [← hwv3]; exact hS8 _ bv3) (fun _ => ?_)
                      clear hK st
                      simp only [Act.put, List.setIfInBounds_toArray, List.set_cons_zero, List.set_cons_succ]
                      rw [← hwv3, ← hpD]
                      clear hwv3 hpD
                      have pz := kD.lt
                      have gF : v3.grownBy (v3.setCells pD 0 dx) (some pD) := grownBy_setCells _ _ _ (World.grownBy.refl _ _)
                      have thD : v3.there pD 0 dx.length := kD.there (by rw [dxl]; exact Nat.le_refl _)
                      have sF : (v3.setCells pD 0 dx).rangeAt gm 0 dl ∧ (v3.setCells pD 0 dx).rangeAt w.heap.size 0 (bs key) ∧ (v3.setCells pD 0 dx).rangeAt w9.heap.size 0 (stCells 0 k tg2) := ⟨Blk.range ((gF.block gm (by have := kM7.lt; have := bv3.size; omega) (fun e => by injection e with e; have := kM7.lt; omega)).trans (kM7.below bv3 kM7.lt)), Blk.range ((gF.block w.heap.size (by have := k17.lt; have := bv3.size; omega) (fun e => by injection e with e; have := k17.lt; omega)).trans (k17.below bv3 k17.lt)), Blk.range ((gF.block w9.heap.size (by have := k197.lt; have := bv3.size; omega) (fun e => by injection e with e; have := k197.lt; omega)).trans (k197.below bv3 k197.lt))⟩
                      obtain ⟨uF, huF⟩ : ∃ uF : World, uF = v3.setCells pD 0 dx := ⟨_, rfl⟩
                      rw [← huF] at gF sF
                      refine wpAnyH_ready (rs := [10]) (by kernel_rfl) (by simp) ?_
                      refine AllReadyH.cons (o := ⟨none, .store 33 (.tmp 30) (.tmp 133), _, _, _, _⟩) rfl (fun K' hK => ?_) AllReadyH.nil
                      rw [if_pos (by rfl)]
                      refine wp_store_mid _ _ _ rfl _ _ (List.toArray _) rfl rfl ?_ ?_ (all_oneCell_toArray dxo) ?_
                      · simpa using thD
                      · rw [List.size_toArray]; exact (by rw [dxl]; kernel_rfl)
                      simp only [Act.put]
                      refine hK.out _ _ (by rw [← huF]; exact sF) (fun _ => ?_)
                      clear hK
                      rw [← huF]
                      clear huF
                      refine wpAnyH_take (i := 11) (oi := ⟨some 31, _, _, _, _, _⟩) (v := .slice B3 ll.length c3) rfl (by kernel_rfl) (by kernel_rfl) (by kernel_rfl) (fun _ _ _ h => h) (Or.inl ⟨by rfl, by intro W hS; go_simp⟩) sF ?_
                      simp only [Act.put, List.setIfInBounds_toArray, List.set_cons_zero, List.set_cons_succ]
                      refine wpAnyH_take (i := 12) (oi := ⟨some 32, _, _, _, _, _⟩) (v := .int .i64 0) rfl (by kernel_rfl) (by kernel_rfl) (by kernel_rfl) (fun _ _ _ h => h) (Or.inl ⟨by rfl, by intro W hS; go_simp⟩) sF ?_
                      simp only [Act.put, List.setIfInBounds_toArray, List.set_cons_zero, List.set_cons_succ]
                      refine wpAnyH_done (by kernel_rfl) ?_ _
                      have yF : Below w.heap.size w uF := (y7.trans (bv3.mono y7.size)).grown gF (by have := y7.size; have := bv3.size; omega) (fun k e => by injection e with e; have := y7.size; omega)
                      have oL := own_keep (w' := uF) oL (fun b e => gF.block b (World.ownsRow.lt oL b e).2 (fun h => by injection h with h; subst h; exact absurd ((own_kind oL e).uniq kD.kind) (by decide)))
                      have RL := RL.keep (w' := uF) (fun b hK => gF.block b hK.lt (fun h => by injection h with h; subst h; exact absurd (hK.uniq kD.kind) (by decide)))
                      have b7F : Below w7.heap.size w7 uF := bv3.grown gF bv3.size (fun k e => by injection e with e; omega)
                      have hal := allOf_any A7 ll.length c7 ys7 ll uF (Reads.of_own (own_keep o7 (fun b e => b7F.block b (World.ownsRow.lt o7 b e).2))) (own_spotc (own_keep o7 (fun b e => b7F.block b (World.ownsRow.lt o7 b e).2))) rfl (hC7.keep b7F.size (fun k hK => b7F.block k hK.lt) (fun k hK => b7F.block k hK.lt)) (by omega) (fun l hl => by have := hlz2 l hl; omega)
                      go_wp2_with (first | (go_at_call 20; refine hal.mono ?_; rintro e x1 ⟨A9, c9, y9s, rfl, o9, R9, b9⟩; have hsm := sameAll_yes A9 B3 ll.length c9 c3 _ _ _ _ y9s z3s ll x1 rfl o9 R9 (own_keep oL (fun b e => b9.block b (World.ownsRow.lt oL b e).2)) (RL.keep (fun b hK => b9.block b hK.lt)) (by omega) (fun l hl => by have := hlz2 l hl; omega); clear hal) | (go_at_call 19; refine hsm.mono ?_; rintro e x2w ⟨rfl, q9, rfl⟩; clear hsm))
                      go_ret
                      exact ⟨rfl, yF.trans ((below_drewN b9 q9).mono yF.size)⟩
                  · refine step_alloc_run rfl (run_allocD _ _ rfl _) ?_
                    have st : Below v1.heap.size v1 (v1.alloc (.cells ([.int .i64 0, .slice none 0 0, .slice none 0 0, .int .i64 0, .bool false, .slice none 0 0] : List Value).toArray 33)) := (Below.refl _ _).alloc (Nat.le_refl _) _
                    have kD : Blk (v1.alloc (.cells ([.int .i64 0, .slice none 0 0, .slice none 0 0, .int .i64 0, .bool false, .slice none 0 0] : List Value).toArray 33)) v1.heap.size 33 ([.int .i64 0, .slice none 0 0, .slice none 0 0, .int .i64 0, .bool false, .slice none 0 0] : List Value).toArray := Blk.new _ _ _
                    obtain ⟨pD, hpD⟩ : ∃ pD, pD = v1.heap.size := ⟨_, rfl⟩
                    obtain ⟨v2, hwv2⟩ : ∃ u : World, u = v1.alloc (.cells ([.int .i64 0, .slice none 0 0, .slice none 0 0, .int .i64 0, .bool false, .slice none 0 0] : List Value).toArray 33) := ⟨_, rfl⟩
                    rw [← hwv2] at st kD
                    rw [← hpD] at kD
                    have lD : w7.heap.size ≤ pD := by rw [hpD]; exact bv1.size
                    have bv2 := bv1.trans (st.mono bv1.size)
                    refine hK.out _ _ (by rw [← hwv2]; exact hS8 _ bv2) (fun _ => ?_)
                    clear hK st
                    simp only [Act.put, List.setIfInBounds_toArray, List.set_cons_zero, List.set_cons_succ]
                    rw [← hwv2, ← hpD]
                    clear hwv2 hpD
                    refine wpAnyH_ready (rs := [4]) (by kernel_rfl) (by simp) ?_
                    refine AllReadyH.cons (o := ⟨some 132, .call { callee := .value (.func 18), args := #[.tmp 128, .tmp 129, .const (.int .i64 0), .const (.int .i64 8), .tmp 131], argTypes := #[33, 23, 3, 3, 42] }, _, _, _, _⟩) rfl (fun K' hK => ?_) (AllReadyH.nil)
                    · refine step_call_w (by rfl) 18 [_, _, _, _, _] _ rfl [.agg dl.toArray, .agg (bs key).toArray, .int .i64 0, .int .i64 8, .agg (stCells 0 k tg2).toArray] rfl eref _ (hrl2 _ (own_keep oW7 (fun b e => bv2.block b (World.ownsRow.lt oW7 b e).2)) (own_keep oO7 (fun b e => bv2.block b (World.ownsRow.lt oO7 b e).2))) ?_
                      rintro e v3 ⟨dx, B3, c3, z3s, dxl, dxo, rfl, oL, RL, st⟩
                      have kD := kD.below st kD.lt
                      have bv3 := bv2.trans (st.mono bv2.size)
                      refine ⟨_, rfl, hK.out _ _ (hS8 _ bv3) (fun _ => ?_)⟩
                      clear hK st
                      simp only [Act.put, List.setIfInBounds_toArray, List.set_cons_zero, List.set_cons_succ]
                      refine wpAnyH_take (i := 5) (oi := ⟨some 127, _, _, _, _, _⟩) (v := .tuple #[.agg dx.toArray, .slice B3 ll.length c3, .int .i64 0]) rfl (by kernel_rfl) (by kernel_rfl) (by kernel_rfl) (fun _ _ _ h => h) (Or.inl ⟨by rfl, by intro W hS; go_simp⟩) (hS8 _ bv3) ?_
                      simp only [Act.put, List.setIfInBounds_toArray, List.set_cons_zero, List.set_cons_succ]
                      refine wpAnyH_take (i := 6) (oi := ⟨some 133, _, _, _, _, _⟩) (v := .agg dx.toArray) rfl (by kernel_rfl) (by kernel_rfl) (by kernel_rfl) (fun _ _ _ h => h) (Or.inl ⟨by rfl, by intro W hS; go_simp⟩) (hS8 _ bv3) ?_
                      simp only [Act.put, List.setIfInBounds_toArray, List.set_cons_zero, List.set_cons_succ]
                      refine wpAnyH_take (i := 7) (oi := ⟨some 134, _, _, _, _, _⟩) (v := .slice B3 ll.length c3) rfl (by kernel_rfl) (by kernel_rfl) (by kernel_rfl) (fun _ _ _ h => h) (Or.inl ⟨by rfl, by intro W hS; go_simp⟩) (hS8 _ bv3) ?_
                      simp only [Act.put, List.setIfInBounds_toArray, List.set_cons_zero, List.set_cons_succ]
                      refine wpAnyH_take (i := 8) (oi := ⟨some 135, _, _, _, _, _⟩) (v := .int .i64 0) rfl (by kernel_rfl) (by kernel_rfl) (by kernel_rfl) (fun _ _ _ h => h) (Or.inl ⟨by rfl, by intro W hS; go_simp⟩) (hS8 _ bv3) ?_
                      simp only [Act.put, List.setIfInBounds_toArray, List.set_cons_zero, List.set_cons_succ]
                      have pz := kD.lt
                      have gF : v3.grownBy (v3.setCells pD 0 dx) (some pD) := grownBy_setCells _ _ _ (World.grownBy.refl _ _)
                      have thD : v3.there pD 0 dx.length := kD.there (by rw [dxl]; exact Nat.le_refl _)
                      have sF : (v3.setCells pD 0 dx).rangeAt gm 0 dl ∧ (v3.setCells pD 0 dx).rangeAt w.heap.size 0 (bs key) ∧ (v3.setCells pD 0 dx).rangeAt w9.heap.size 0 (stCells 0 k tg2) := ⟨Blk.range ((gF.block gm (by have := kM7.lt; have := bv3.size; omega) (fun e => by injection e with e; have := kM7.lt; omega)).trans (kM7.below bv3 kM7.lt)), Blk.range ((gF.block w.heap.size (by have := k17.lt; have := bv3.size; omega) (fun e => by injection e with e; have := k17.lt; omega)).trans (k17.below bv3 k17.lt)), Blk.range ((gF.block w9.heap.size (by have := k197.lt; have := bv3.size; omega) (fun e => by injection e with e; have := k197.lt; omega)).trans (k197.below bv3 k197.lt))⟩
                      obtain ⟨uF, huF⟩ : ∃ uF : World, uF = v3.setCells pD 0 dx := ⟨_, rfl⟩
                      rw [← huF] at gF sF
                      refine wpAnyH_ready (rs := [10]) (by kernel_rfl) (by simp) ?_
                      refine AllReadyH.cons (o := ⟨none, .store 33 (.tmp 30) (.tmp 133), _, _, _, _⟩) rfl (fun K' hK => ?_) AllReadyH.nil
                      rw [if_pos (by rfl)]
                      refine wp_store_mid _ _ _ rfl _ _ (List.toArray _) rfl rfl ?_ ?_ (all_oneCell_toArray dxo) ?_
                      · simpa using thD
                      · rw [List.size_toArray]; exact (by rw [dxl]; kernel_rfl)
                      simp only [Act.put]
                      refine hK.out _ _ (by rw [← huF]; exact sF) (fun _ => ?_)
                      clear hK
                      rw [← huF]
                      clear huF
                      refine wpAnyH_take (i := 11) (oi := ⟨some 31, _, _, _, _, _⟩) (v := .slice B3 ll.length c3) rfl (by kernel_rfl) (by kernel_rfl) (by kernel_rfl) (fun _ _ _ h => h) (Or.inl ⟨by rfl, by intro W hS; go_simp⟩) sF ?_
                      simp only [Act.put, List.setIfInBounds_toArray, List.set_cons_zero, List.set_cons_succ]
                      refine wpAnyH_take (i := 12) (oi := ⟨some 32, _, _, _, _, _⟩) (v := .int .i64 0) rfl (by kernel_rfl) (by kernel_rfl) (by kernel_rfl) (fun _ _ _ h => h) (Or.inl ⟨by rfl, by intro W hS; go_simp⟩) sF ?_
                      simp only [Act.put, List.setIfInBounds_toArray, List.set_cons_zero, List.set_cons_succ]
                      refine wpAnyH_done (by kernel_rfl) ?_ _
                      have yF : Below w.heap.size w uF := (y7.trans (bv3.mono y7.size)).grown gF (by have := y7.size; have := bv3.size; omega) (fun k e => by injection e with e; have := y7.size; omega)
                      have oL := own_keep (w' := uF) oL (fun b e => gF.block b (World.ownsRow.lt oL b e).2 (fun h => by injection h with h; subst h; exact absurd ((own_kind oL e).uniq kD.kind) (by decide)))
                      have RL := RL.keep (w' := uF) (fun b hK => gF.block b hK.lt (fun h => by injection h with h; subst h; exact absurd (hK.uniq kD.kind) (by decide)))
                      have b7F : Below w7.heap.size w7 uF := bv3.grown gF bv3.size (fun k e => by injection e with e; omega)
                      have hal := allOf_any A7 ll.length c7 ys7 ll uF (Reads.of_own (own_keep o7 (fun b e => b7F.block b (World.ownsRow.lt o7 b e).2))) (own_spotc (own_keep o7 (fun b e => b7F.block b (World.ownsRow.lt o7 b e).2))) rfl (hC7.keep b7F.size (fun k hK => b7F.block k hK.lt) (fun k hK => b7F.block k hK.lt)) (by omega) (fun l hl => by have := hlz2 l hl; omega)
                      go_wp2_with (first | (go_at_call 20; refine hal.mono ?_; rintro e x1 ⟨A9, c9, y9s, rfl, o9, R9, b9⟩; have hsm := sameAll_yes A9 B3 ll.length c9 c3 _ _ _ _ y9s z3s ll x1 rfl o9 R9 (own_keep oL (fun b e => b9.block b (World.ownsRow.lt oL b e).2)) (RL.keep (fun b hK => b9.block b hK.lt)) (by omega) (fun l hl => by have := hlz2 l hl; omega); clear hal) | (go_at_call 19; refine hsm.mono ?_; rintro e x2w ⟨rfl, q9, rfl⟩; clear hsm))
                      go_ret
                      exact ⟨rfl, yF.trans ((below_drewN b9 q9).mono yF.size)⟩
                · refine step_alloc_run rfl (run_allocD _ _ rfl _) ?_
                  have st : Below v0.heap.size v0 (v0.alloc (.cells ([.int .i64 0, .slice none 0 0, .slice none 0 0, .int .i64 0, .bool false, .slice none 0 0] : List Value).toArray 33)) := (Below.refl _ _).alloc (Nat.le_refl _) _
                  have kD : Blk (v0.alloc (.cells ([.int .i64 0, .slice none 0 0, .slice none 0 0, .int .i64 0, .bool false, .slice none 0 0] : List Value).toArray 33)) v0.heap.size 33 ([.int .i64 0, .slice none 0 0, .slice none 0 0, .int .i64 0, .bool false, .slice none 0 0] : List Value).toArray := Blk.new _ _ _
                  obtain ⟨pD, hpD⟩ : ∃ pD, pD = v0.heap.size := ⟨_, rfl⟩
                  obtain ⟨v1, hwv1⟩ : ∃ u : World, u = v0.alloc (.cells ([.int .i64 0, .slice none 0 0, .slice none 0 0, .int .i64 0, .bool false, .slice none 0 0] : List Value).toArray 33) := ⟨_, rfl⟩
                  rw [← hwv1] at st kD
                  rw [← hpD] at kD
                  have lD : w7.heap.size ≤ pD := by rw [hpD]; exact bd7.size
                  have bv1 := bd7.trans (st.mono bd7.size)
                  refine hK.out _ _ (by rw [← hwv1]; exact hS8 _ bv1) (fun _ => ?_)
                  clear hK st
                  simp only [Act.put, List.setIfInBounds_toArray, List.set_cons_zero, List.set_cons_succ]
                  rw [← hwv1, ← hpD]
                  clear hwv1 hpD
                  refine wpAnyH_ready (rs := [3]) (by kernel_rfl) (by simp) ?_
                  refine AllReadyH.cons (o := ⟨some 131, .call { callee := .value (.func 14), args := #[.tmp 130], argTypes := #[41] }, _, _, _, _⟩) rfl (fun K' hK => ?_) (AllReadyH.nil)
                  · refine step_call_w (by rfl) 14 [_] _ rfl [.agg (stCells 0 k tg2).toArray] rfl esto _ (hso _) ?_
                    rintro e v2 ⟨rfl, st⟩
                    have kD := kD.below st kD.lt
                    have bv2 := bv1.trans (st.mono bv1.size)
                    refine ⟨_, rfl, hK.out _ _ (hS8 _ bv2) (fun _ => ?_)⟩
                    clear hK st
                    simp only [Act.put, List.setIfInBounds_toArray, List.set_cons_zero, List.set_cons_succ]
                    refine wpAnyH_ready (rs := [4]) (by kernel_rfl) (by simp) ?_
                    refine AllReadyH.cons (o := ⟨some 132, .call { callee := .value (.func 18), args := #[.tmp 128, .tmp 129, .const (.int .i64 0), .const (.int .i64 8), .tmp 131], argTypes := #[33, 23, 3, 3, 42] }, _, _, _, _⟩) rfl (fun K' hK => ?_) (AllReadyH.nil)
                    · refine step_call_w (by rfl) 18 [_, _, _, _, _] _ rfl [.agg dl.toArray, .agg (bs key).toArray, .int .i64 0, .int .i64 8, .agg (stCells 0 k tg2).toArray] rfl eref _ (hrl2 _ (own_keep oW7 (fun b e => bv2.block b (World.ownsRow.lt oW7 b e).2)) (own_keep oO7 (fun b e => bv2.block b (World.ownsRow.lt oO7 b e).2))) ?_
                      rintro e v3 ⟨dx, B3, c3, z3s, dxl, dxo, rfl, oL, RL, st⟩
                      have kD := kD.below st kD.lt
                      have bv3 := bv2.trans (st.mono bv2.size)
                      refine ⟨_, rfl, hK.out _ _ (hS8 _ bv3) (fun _ => ?_)⟩
                      clear hK st
                      simp only [Act.put, List.setIfInBounds_toArray, List.set_cons_zero, List.set_cons_succ]
                      refine wpAnyH_take (i := 5) (oi := ⟨some 127, _, _, _, _, _⟩) (v := .tuple #[.agg dx.toArray, .slice B3 ll.length c3, .int .i64 0]) rfl (by kernel_rfl) (by kernel_rfl) (by kernel_rfl) (fun _ _ _ h => h) (Or.inl ⟨by rfl, by intro W hS; go_simp⟩) (hS8 _ bv3) ?_
                      simp only [Act.put, List.setIfInBounds_toArray, List.set_cons_zero, List.set_cons_succ]
                      refine wpAnyH_take (i := 6) (oi := ⟨some 133, _, _, _, _, _⟩) (v := .agg dx.toArray) rfl (by kernel_rfl) (by kernel_rfl) (by kernel_rfl) (fun _ _ _ h => h) (Or.inl ⟨by rfl, by intro W hS; go_simp⟩) (hS8 _ bv3) ?_
                      simp only [Act.put, List.setIfInBounds_toArray, List.set_cons_zero, List.set_cons_succ]
                      refine wpAnyH_take (i := 7) (oi := ⟨some 134, _, _, _, _, _⟩) (v := .slice B3 ll.length c3) rfl (by kernel_rfl) (by kernel_rfl) (by kernel_rfl) (fun _ _ _ h => h) (Or.inl ⟨by rfl, by intro W hS; go_simp⟩) (hS8 _ bv3) ?_
                      simp only [Act.put, List.setIfInBounds_toArray, List.set_cons_zero, List.set_cons_succ]
                      refine wpAnyH_take (i := 8) (oi := ⟨some 135, _, _, _, _, _⟩) (v := .int .i64 0) rfl (by kernel_rfl) (by kernel_rfl) (by kernel_rfl) (fun _ _ _ h => h) (Or.inl ⟨by rfl, by intro W hS; go_simp⟩) (hS8 _ bv3) ?_
                      simp only [Act.put, List.setIfInBounds_toArray, List.set_cons_zero, List.set_cons_succ]
                      have pz := kD.lt
                      have gF : v3.grownBy (v3.setCells pD 0 dx) (some pD) := grownBy_setCells _ _ _ (World.grownBy.refl _ _)
                      have thD : v3.there pD 0 dx.length := kD.there (by rw [dxl]; exact Nat.le_refl _)
                      have sF : (v3.setCells pD 0 dx).rangeAt gm 0 dl ∧ (v3.setCells pD 0 dx).rangeAt w.heap.size 0 (bs key) ∧ (v3.setCells pD 0 dx).rangeAt w9.heap.size 0 (stCells 0 k tg2) := ⟨Blk.range ((gF.block gm (by have := kM7.lt; have := bv3.size; omega) (fun e => by injection e with e; have := kM7.lt; omega)).trans (kM7.below bv3 kM7.lt)), Blk.range ((gF.block w.heap.size (by have := k17.lt; have := bv3.size; omega) (fun e => by injection e with e; have := k17.lt; omega)).trans (k17.below bv3 k17.lt)), Blk.range ((gF.block w9.heap.size (by have := k197.lt; have := bv3.size; omega) (fun e => by injection e with e; have := k197.lt; omega)).trans (k197.below bv3 k197.lt))⟩
                      obtain ⟨uF, huF⟩ : ∃ uF : World, uF = v3.setCells pD 0 dx := ⟨_, rfl⟩
                      rw [← huF] at gF sF
                      refine wpAnyH_ready (rs := [10]) (by kernel_rfl) (by simp) ?_
                      refine AllReadyH.cons (o := ⟨none, .store 33 (.tmp 30) (.tmp 133), _, _, _, _⟩) rfl (fun K' hK => ?_) AllReadyH.nil
                      rw [if_pos (by rfl)]
                      refine wp_store_mid _ _ _ rfl _ _ (List.toArray _) rfl rfl ?_ ?_ (all_oneCell_toArray dxo) ?_
                      · simpa using thD
                      · rw [List.size_toArray]; exact (by rw [dxl]; kernel_rfl)
                      simp only [Act.put]
                      refine hK.out _ _ (by rw [← huF]; exact sF) (fun _ => ?_)
                      clear hK
                      rw [← huF]
                      clear huF
                      refine wpAnyH_take (i := 11) (oi := ⟨some 31, _, _, _, _, _⟩) (v := .slice B3 ll.length c3) rfl (by kernel_rfl) (by kernel_rfl) (by kernel_rfl) (fun _ _ _ h => h) (Or.inl ⟨by rfl, by intro W hS; go_simp⟩) sF ?_
                      simp only [Act.put, List.setIfInBounds_toArray, List.set_cons_zero, List.set_cons_succ]
                      refine wpAnyH_take (i := 12) (oi := ⟨some 32, _, _, _, _, _⟩) (v := .int .i64 0) rfl (by kernel_rfl) (by kernel_rfl) (by kernel_rfl) (fun _ _ _ h => h) (Or.inl ⟨by rfl, by intro W hS; go_simp⟩) sF ?_
                      simp only [Act.put, List.setIfInBounds_toArray, List.set_cons_zero, List.set_cons_succ]
                      refine wpAnyH_done (by kernel_rfl) ?_ _
                      have yF : Below w.heap.size w uF := (y7.trans (bv3.mono y7.size)).grown gF (by have := y7.size; have := bv3.size; omega) (fun k e => by injection e with e; have := y7.size; omega)
                      have oL := own_keep (w' := uF) oL (fun b e => gF.block b (World.ownsRow.lt oL b e).2 (fun h => by injection h with h; subst h; exact absurd ((own_kind oL e).uniq kD.kind) (by decide)))
                      have RL := RL.keep (w' := uF) (fun b hK => gF.block b hK.lt (fun h => by injection h with h; subst h; exact absurd (hK.uniq kD.kind) (by decide)))
                      have b7F : Below w7.heap.size w7 uF := bv3.grown gF bv3.size (fun k e => by injection e with e; omega)
                      have hal := allOf_any A7 ll.length c7 ys7 ll uF (Reads.of_own (own_keep o7 (fun b e => b7F.block b (World.ownsRow.lt o7 b e).2))) (own_spotc (own_keep o7 (fun b e => b7F.block b (World.ownsRow.lt o7 b e).2))) rfl (hC7.keep b7F.size (fun k hK => b7F.block k hK.lt) (fun k hK => b7F.block k hK.lt)) (by omega) (fun l hl => by have := hlz2 l hl; omega)
                      go_wp2_with (first | (go_at_call 20; refine hal.mono ?_; rintro e x1 ⟨A9, c9, y9s, rfl, o9, R9, b9⟩; have hsm := sameAll_yes A9 B3 ll.length c9 c3 _ _ _ _ y9s z3s ll x1 rfl o9 R9 (own_keep oL (fun b e => b9.block b (World.ownsRow.lt oL b e).2)) (RL.keep (fun b hK => b9.block b hK.lt)) (by omega) (fun l hl => by have := hlz2 l hl; omega); clear hal) | (go_at_call 19; refine hsm.mono ?_; rintro e x2w ⟨rfl, q9, rfl⟩; clear hsm))
                      go_ret
                      exact ⟨rfl, yF.trans ((below_drewN b9 q9).mono yF.size)⟩
end Go.Proofs.YtkhebllmnagkmaaGreatDoor
