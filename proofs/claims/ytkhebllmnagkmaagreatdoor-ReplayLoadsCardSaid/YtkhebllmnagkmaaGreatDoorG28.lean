/- Contracts and lemmas under the statements of this seat, one behind the other. Conditions: what each names. -/
import Derived.Test.YtkhebllmnagkmaaGreatDoorG27
import Derived.Test.YtkhebllmnagkmaaGreatDoorG10
/- Contracts of the reference's disk: New, Write. Conditions: what each names. -/
namespace Go.Proofs.YtkhebllmnagkmaaGreatDoor
open Go.RowKit
set_option linter.unusedVariables false

set_option maxRecDepth 100000 in
set_option maxHeartbeats 4000000 in
theorem rnew_any (n : Nat) (w : World) (h1 : 1 ≤ n) (h2 : n ≤ 4096) :
    Calls Tryz.prog 7 #[.int .i64 (n : Int)] w fun e w' => e = .returned (.tuple #[.agg #[.int .i64 (n : Int), .slice none 0 0, .slice none 0 0, .int .i64 (-1), .bool false, .slice none 0 0], .int .i64 0]) ∧ Below w.heap.size w w' := by
  have e1 : ¬ (n : Int) < 1 := by omega
  have e2 : ¬ 4096 < (n : Int) := by omega
  have y0 : Below w.heap.size w (w.alloc (.cells #[.int .i64 0, .slice none 0 0, .slice none 0 0, .int .i64 0, .bool false, .slice none 0 0] 33)) := (Below.refl _ _).alloc (Nat.le_refl _) _
  have k0 : Blk (w.alloc (.cells #[.int .i64 0, .slice none 0 0, .slice none 0 0, .int .i64 0, .bool false, .slice none 0 0] 33)) w.heap.size 33 #[.int .i64 0, .slice none 0 0, .slice none 0 0, .int .i64 0, .bool false, .slice none 0 0] := Blk.new_of rfl rfl
  go_enter Tryz.func7, Tryz.ntmps7
  go_wp2_with (first | ((with_reducible refine wpList_store_blk (o := ⟨none, .store 33 (.tmp 2) (.tmp 12), _, _, _, _⟩) rfl 33 (.tmp 2) (.tmp 12) rfl w.heap.size #[.int .i64 (n : Int), .slice none 0 0, .slice none 0 0, .int .i64 (-1), .bool false, .slice none 0 0] rfl rfl 33 _ k0 (by kernel_rfl) (by simp) (by simp [Value.oneCell']) ?_); intro w6 k6 g6 s6))
  refine bodyPost_ret (results_row_tmp (fr := (0, 0)) rfl _ _ w.heap.size 33 _ _ rfl k6 Tryz.underlying33 rfl (by kernel_rfl)) rfl ?_
  exact ⟨rfl, y0.grown g6 y0.size (fun k e => by injection e with e; omega)⟩
set_option maxRecDepth 100000 in
set_option maxHeartbeats 4000000 in
theorem rwrite_any (n i nd cd nw cw no co : Nat) (Ad Aw Ao : Option Addr) (b : List UInt8) (way : List (Nat × List UInt8)) (xo : List Value) (w : World)
    (hw : w.ownsRow 0 142 2 (.slice Aw nw cw) nw (encW way)) (hn2 : nw ≤ 1048576) (ho : w.ownsRow 0 169 2 (.slice Ao no co) no xo) (hx : ∀ u ∈ xo, u.oneCell' = true) (hn3 : no ≤ 1048576) (hi : i < n) (hb : b.length = 192) :
    Calls Tryz.prog 29 #[.agg #[.int .i64 (n : Int), .slice Ad nd cd, .slice Aw nw cw, .int .i64 (-1), .bool false, .slice Ao no co], .int .i64 (i : Int), .string ⟨b.toArray⟩] w fun e w' => ∃ A2 c2 Ao' co' xo', e = .returned (.tuple #[.agg #[.int .i64 (n : Int), .slice Ad nd cd, .slice A2 (nw + 1) c2, .int .i64 (-1), .bool false, .slice Ao' (no + 1) co'], .int .i64 0]) ∧
      w'.ownsRow w.heap.size 142 2 (.slice A2 (nw + 1) c2) (nw + 1) (encW (way ++ [(i, b)])) ∧ w'.ownsRow w.heap.size 169 2 (.slice Ao' (no + 1) co') (no + 1) xo' ∧ (∀ u ∈ xo', u.oneCell' = true) ∧ Below w.heap.size w w' := by
  obtain ⟨W0, hW0⟩ : ∃ W0 : World, W0 = (w.alloc (.cells #[.int .i64 (n : Int), .slice Ad nd cd, .slice Aw nw cw, .int .i64 (-1), .bool false, .slice Ao no co] 33)).alloc (.cells #[.int .i64 0, .slice none 0 0, .slice none 0 0, .int .i64 0, .bool false, .slice none 0 0] 33) := ⟨_, rfl⟩
  have y0 : Below w.heap.size w W0 := by rw [hW0]; exact ((Below.refl _ _).alloc (Nat.le_refl _) _).alloc (by simp) _
  have s0 : W0.heap.size = w.heap.size + 2 := by rw [hW0]; simp
  have k0 : Blk W0 w.heap.size 33 #[.int .i64 (n : Int), .slice Ad nd cd, .slice Aw nw cw, .int .i64 (-1), .bool false, .slice Ao no co] := by rw [hW0]; exact (Blk.new_of rfl rfl).alloc _
  have k1 : Blk W0 (w.heap.size + 1) 33 #[.int .i64 0, .slice none 0 0, .slice none 0 0, .int .i64 0, .bool false, .slice none 0 0] := by rw [hW0]; exact Blk.new_of (by simp) rfl
  have hfi := rfits_any n i nd cd nw cw no co Ad Aw Ao (-1) b W0 hi hb
  have hmo := fun W h => more_any Aw nw cw i b way W h hn2
  have hnt := fun A c W h => noted_any (n : Int) (-1) 2 (i : Int) Ad A Ao nd cd (nw + 1) c no co false xo W h hx hn3
  have HW0 := Lib.hid hW0
  have hlt0 : w.heap.size < W0.heap.size := by omega
  have hlt1 : w.heap.size + 1 < W0.heap.size := by omega
  clear hW0
  go_enter Tryz.func29, Tryz.ntmps29
  go_wp2_with (first | (go_at_call 57; rw [← HW0.out]; (with_reducible refine hfi.mono ?_); rintro e w1 ⟨rfl, b1⟩; have k01 := k0.below b1 hlt0; have k11 := k1.below b1 hlt1; have y1 := y0.trans (b1.mono y0.size); have j0 := k01.cell 0; have j1 := k01.cell 1; have j2 : w1.cell? ⟨w.heap.size, 2, none⟩ = some (.slice Aw nw cw) := k01.cell 2; have j3 : w1.cell? ⟨w.heap.size, 3, none⟩ = some (.int .i64 (-1)) := k01.cell 3; have hw1 := own_keep hw fun k e => y1.block k (World.ownsRow.lt hw k e).2) | (go_at_call 58; (with_reducible refine (hmo _ hw1).mono ?_); rintro e w2 ⟨A2, c2, rfl, o2, b2⟩; have k02 := k01.below b2 k01.lt; have k12 := k11.below b2 k11.lt; have y2 := y1.trans (b2.mono y1.size); have q2 : w2.cell? ⟨w.heap.size, 2, none⟩ = some (.slice Aw nw cw) := k02.cell 2; have f2 := k02.frozen 2; have s2 := b2.size; have l1 := k11.lt; have y3 := y2.setCell (p := ⟨w.heap.size, 2, none⟩) (Nat.le_refl _) (.slice A2 (nw + 1) c2); have k03 := k02.set_ 2 (.slice A2 (nw + 1) c2); have k13 := k12.far (p := ⟨w.heap.size, 2, none⟩) (by show w.heap.size + 1 ≠ w.heap.size; omega) (.slice A2 (nw + 1) c2); have o3 := ownsRow_setCell_below o2 (a := ⟨w.heap.size, 2, none⟩) (by show w.heap.size < w1.heap.size; omega) (.slice A2 (nw + 1) c2); have ho3 := own_keep ho fun k e => y3.block k (World.ownsRow.lt ho k e).2; have lo3 := World.ownsRow.lt o3) | ((with_reducible refine wpList_load_blk (o := ⟨some 12, _, _, _, _, _⟩) rfl 33 _ rfl w.heap.size rfl 33 _ _ (by rw [← HW0.out]; exact k0) Tryz.underlying33 rfl (by kernel_rfl) ?_)) | ((with_reducible refine wpList_load_blk (o := ⟨some 39, _, _, _, _, _⟩) rfl 33 _ rfl w.heap.size rfl 33 _ _ k03 Tryz.underlying33 rfl (by kernel_rfl) ?_)) | (go_at_call 59; (with_reducible refine (hnt A2 c2 _ ho3).mono ?_); rintro e w5 ⟨A5, c5, x5, rfl, o5, ox5, b5⟩; have k15 := k13.below b5 k13.lt; have y5 := y3.trans (b5.mono y3.size); have o35 := own_keep o3 fun k e => b5.block k (lo3 k e).2; have s5 := b5.size) | ((with_reducible refine wpList_store_blk (o := ⟨none, .store 33 (.tmp 6) (.tmp 41), _, _, _, _⟩) rfl 33 (.tmp 6) (.tmp 41) rfl (w.heap.size + 1) #[.int .i64 (n : Int), .slice Ad nd cd, .slice A2 (nw + 1) c2, .int .i64 (-1), .bool false, .slice A5 (no + 1) c5] rfl rfl 33 _ k15 (by kernel_rfl) (by simp) (by simp [Value.oneCell']) ?_); intro w6 k6 g6 s6))
  refine bodyPost_ret (results_row_tmp (fr := (0, 0)) rfl _ _ (w.heap.size + 1) 33 _ _ rfl k6 Tryz.underlying33 rfl (by kernel_rfl)) rfl ?_
  have lo5 := World.ownsRow.lt o5
  have l13 := k13.lt
  exact ⟨A2, c2, A5, c5, x5, rfl, ownsRow_lower (World.ownsRow.kept o35 g6 (.inr fun e => by have := (lo3 _ e).1; omega)) (by omega), ownsRow_lower (World.ownsRow.kept o5 g6 (.inr fun e => by have := (lo5 _ e).1; omega)) y3.size, ox5, y5.grown g6 y5.size (fun k e => by injection e with e; omega)⟩
end Go.Proofs.YtkhebllmnagkmaaGreatDoor
/- Contract of the reference's Tamper. Conditions: what it names. -/
namespace Go.Proofs.YtkhebllmnagkmaaGreatDoor
open Go.RowKit
set_option linter.unusedVariables false

set_option maxRecDepth 100000 in
set_option maxHeartbeats 4000000 in
theorem rtamper_any (n i nd cd nw cw no co : Nat) (Ad Aw Ao : Option Addr) (left : Int) (b : List UInt8) (done way : List (Nat × List UInt8)) (w : World)
    (hd : w.ownsRow 0 142 2 (.slice Ad nd cd) nd (encW done)) (hn : nd ≤ 1048576) (hw : w.ownsRow 0 142 2 (.slice Aw nw cw) nw (encW way)) (hl2 : way.length = nw) (hn2 : nw ≤ 1048576) (hi : i < n) (hb : b.length = 192) :
    Calls Tryz.prog 24 #[.agg #[.int .i64 (n : Int), .slice Ad nd cd, .slice Aw nw cw, .int .i64 left, .bool false, .slice Ao no co], .int .i64 (i : Int), .string ⟨b.toArray⟩] w fun e w' => ∃ A1 c1 A2 c2, e = .returned (.tuple #[.agg #[.int .i64 (n : Int), .slice A1 (nd + 1) c1, .slice A2 (way.filter fun p => p.1 != i).length c2, .int .i64 left, .bool false, .slice Ao no co], .int .i64 0]) ∧
      w'.ownsRow w.heap.size 142 2 (.slice A1 (nd + 1) c1) (nd + 1) (encW (done ++ [(i, b)])) ∧ w'.ownsRow w.heap.size 142 2 (.slice A2 (way.filter fun p => p.1 != i).length c2) (way.filter fun p => p.1 != i).length (encW (way.filter fun p => p.1 != i)) ∧ Below w.heap.size w w' := by
  obtain ⟨i0, ii0, hz0, hz1, hz2⟩ := info_parts infoW
  obtain ⟨W0, hW0⟩ : ∃ W0 : World, W0 = (w.alloc (.cells #[.int .i64 (n : Int), .slice Ad nd cd, .slice Aw nw cw, .int .i64 left, .bool false, .slice Ao no co] 33)).alloc (.cells #[.int .i64 0, .slice none 0 0, .slice none 0 0, .int .i64 0, .bool false, .slice none 0 0] 33) := ⟨_, rfl⟩
  have y0 : Below w.heap.size w W0 := by rw [hW0]; exact ((Below.refl _ _).alloc (Nat.le_refl _) _).alloc (by simp) _
  have s0 : W0.heap.size = w.heap.size + 2 := by rw [hW0]; simp
  have k0 : Blk W0 w.heap.size 33 #[.int .i64 (n : Int), .slice Ad nd cd, .slice Aw nw cw, .int .i64 left, .bool false, .slice Ao no co] := by rw [hW0]; exact (Blk.new_of rfl rfl).alloc _
  have k1 : Blk W0 (w.heap.size + 1) 33 #[.int .i64 0, .slice none 0 0, .slice none 0 0, .int .i64 0, .bool false, .slice none 0 0] := by rw [hW0]; exact Blk.new_of (by simp) rfl
  have hfi := rfits_any n i nd cd nw cw no co Ad Aw Ao left b W0 hi hb
  have hmo := fun W h => more_any Ad nd cd i b done W h hn
  have HW0 := Lib.hid hW0
  have hlt0 : w.heap.size < W0.heap.size := by omega
  have hlt1 : w.heap.size + 1 < W0.heap.size := by omega
  clear hW0
  go_enter Tryz.func24, Tryz.ntmps24
  go_wp2_with (first | (go_at_call 57; rw [← HW0.out]; (with_reducible refine hfi.mono ?_); rintro e w1 ⟨rfl, b1⟩; have k01 := k0.below b1 hlt0; have k11 := k1.below b1 hlt1; have y1 := y0.trans (b1.mono y0.size); have j1 : w1.cell? ⟨w.heap.size, 1, none⟩ = some (.slice Ad nd cd) := k01.cell 1; have hd1 := own_keep hd fun k e => y1.block k (World.ownsRow.lt hd k e).2; have hw1 := own_keep hw fun k e => y1.block k (World.ownsRow.lt hw k e).2) | (go_at_call 58; (with_reducible refine (hmo _ hd1).mono ?_); rintro e w2 ⟨A2, c2, rfl, o2, b2⟩; have k02 := k01.below b2 k01.lt; have k12 := k11.below b2 k11.lt; have y2 := y1.trans (b2.mono y1.size); have q2 : w2.cell? ⟨w.heap.size, 1, none⟩ = some (.slice Ad nd cd) := k02.cell 1; have f2 := k02.frozen 1; have s2 := b2.size; have l1 := k11.lt; have y3 := y2.setCell (p := ⟨w.heap.size, 1, none⟩) (Nat.le_refl _) (.slice A2 (nd + 1) c2); have k03 := k02.set_ 1 (.slice A2 (nd + 1) c2); have k13 := k12.far (p := ⟨w.heap.size, 1, none⟩) (by show w.heap.size + 1 ≠ w.heap.size; omega) (.slice A2 (nd + 1) c2); have o3 := ownsRow_setCell_below o2 (a := ⟨w.heap.size, 1, none⟩) (by show w.heap.size < w1.heap.size; omega) (.slice A2 (nd + 1) c2)) | ((with_reducible refine wpList_load_blk (o := ⟨some 11, _, _, _, _, _⟩) rfl 33 _ rfl w.heap.size rfl 33 _ _ (by rw [← HW0.out]; exact k0) Tryz.underlying33 rfl (by kernel_rfl) ?_)))
  obtain ⟨W2, hW2⟩ : ∃ W2 : World, W2 = w2.setCell ⟨w.heap.size, 1, none⟩ (.slice A2 (nd + 1) c2) := ⟨_, rfl⟩
  rw [← hW2] at k03 k13 y3 o3 ⊢
  have kD : Blk W2 w.heap.size 33 #[.int .i64 (n : Int), .slice A2 (nd + 1) c2, .slice Aw nw cw, .int .i64 left, .bool false, .slice Ao no co] := k03
  have hw2 := own_keep hw fun k e => y3.block k (World.ownsRow.lt hw k e).2
  have hs2 : W2.heap.size = w2.heap.size := by rw [hW2]; simp [World.setCell]
  have o3' : W2.ownsRow (w.heap.size + 2) 142 2 (.slice A2 (nd + 1) c2) (nd + 1) (encW (done ++ [(i, b)])) := ownsRow_lower o3 (by have := b1.size; omega)
  have hws : w.heap.size + 2 ≤ W2.heap.size := by have := b1.size; omega
  have flt_take : ∀ k p, way[k]? = some p → (way.take (k + 1)).filter (fun p => p.1 != i) = ((way.take k).filter fun p => p.1 != i) ++ (if p.1 = i then [] else [p]) := fun k p hp => by
    rw [List.take_add_one, hp, List.filter_append]
    by_cases h : p.1 = i <;> simp [h]
  have flt_len : ∀ k, ((way.take k).filter fun p => p.1 != i).length ≤ nw := fun k => Nat.le_trans (List.length_filter_le _ _) (by rw [List.length_take]; omega)
  have HL2 := Lib.hid hl2
  have HFT := Lib.hid flt_take
  have HFL := Lib.hid flt_len
  clear hs2 hW2 k03 o3 hfi hmo j1 hd1 hw1 q2 f2 b1 b2 k01 k11 k02 k12 y1 y2 hl2 flt_take flt_len o2 hd hw
  go_wp2
  go_loopw [9, 10] (fun vl ix wr => ∃ (k : Nat) (A : Option Addr) (c : Nat), k ≤ nw ∧ ix = .int .i64 k ∧ vl = .slice A ((way.take k).filter fun p => p.1 != i).length c ∧ wr.ownsRow W2.heap.size 142 2 (.slice A ((way.take k).filter fun p => p.1 != i).length c) ((way.take k).filter fun p => p.1 != i).length (encW ((way.take k).filter fun p => p.1 != i)) ∧ Below W2.heap.size W2 wr) (fun _ ix _ => nw - (intOf ix).toNat)
  case atStart => exact ⟨0, none, 0, by omega, rfl, rfl, World.ownsRow_nil _ _ _ _, Below.refl _ _⟩
  case round =>
    obtain ⟨k, A, c, hk, rfl, rfl, hol, hwr⟩ := hrel
    have kDr := kD.below hwr (by omega)
    have c2' : wr.cell? ⟨w.heap.size, 2, none⟩ = some (.slice Aw nw cw) := kDr.cell 2
    by_cases hlt : k < nw
    · obtain ⟨p, hp⟩ : ∃ p, way[k]? = some p := ⟨_, List.getElem?_eq_getElem (by have := HL2.out; omega)⟩
      obtain ⟨g, cap, hv, _, hgl⟩ := hw2.form (by omega)
      injection hv with hA
      subst hA
      obtain ⟨h1, h2⟩ := encW_get way k p hp
      have hcl := World.ownsRow.cells hw2 (g := g) rfl
      have q0 : wr.cell? ⟨g, k * 2, none⟩ = some (.int .i64 (p.1 : Int)) := (hwr.cell (p := ⟨g, k * 2, none⟩) hgl).trans (by have h := hcl _ _ h1; rw [add_head, Nat.mul_comm] at h; exact h)
      have q1 : wr.cell? ⟨g, k * 2 + 1, none⟩ = some (.string ⟨p.2.toArray⟩) := (hwr.cell (p := ⟨g, k * 2 + 1, none⟩) hgl).trans (by have h := hcl _ _ h2; rw [add_head, Nat.mul_comm 2] at h; exact h)
      have HS := Lib.hid (HFT.out k p hp)
      have hlen := HFL.out k
      have hft := HFL.out (k + 1)
      clear h1 h2 hcl hp
      by_cases hpi : p.1 = i
      · have hpI : (p.1 : Int) = (i : Int) := by omega
        have d1 : ((p.1 : Int) != (i : Int)) = false := by rw [hpI]; simp
        have HI := Lib.hid hpi
        clear hpi hft
        generalize hfk : (way.take k).filter (fun p => p.1 != i) = fk at *
        go_wp2
        go_roundw
        case rel =>
          have hs := HS.out
          rw [if_pos HI.out, List.append_nil] at hs
          refine ⟨k + 1, A, c, by omega, by go_num, by rw [hs], ?_, hwr⟩
          rw [hs]
          exact hol
        case measure => simp [intOf]; omega
      · have hpI : ¬ (p.1 : Int) = (i : Int) := by omega
        have d1 : ((p.1 : Int) != (i : Int)) = true := by rw [bne_iff_ne]; exact hpI
        have HI := Lib.hid hpi
        have hs := HS.out
        rw [if_neg hpi] at hs
        rw [hs, List.length_append, List.length_singleton] at hft
        have hone : ∀ u ∈ [Value.int .i64 (p.1 : Int), .string ⟨p.2.toArray⟩], u.oneCell' = true := by intro u hu; simp only [List.mem_cons, List.not_mem_nil, or_false] at hu; rcases hu with rfl | rfl <;> rfl
        have HEQ := Lib.hid hs
        generalize hfk : (way.take k).filter (fun p => p.1 != i) = fk at *
        have hap : encW (fk ++ [p]) = encW fk ++ [.int .i64 (p.1 : Int), .string ⟨p.2.toArray⟩] := encW_append fk [p]
        have HAP := Lib.hid hap
        have HM : Hid (fk.length + 1 ≤ maxLen ∧ (fk.length + 1) * 24 ≤ 140737488355328) := Lib.hid ⟨by unfold maxLen; omega, by omega⟩
        have hbnd := World.ownsRow.lt hol
        have hsw := hwr.size
        generalize encW fk = xs at *
        clear hpi hft hs hap HS
        go_wp2_with (first | (at_builtin; refine wpList_append_any _ rfl (.tmp 41) (.tmp 47) 30 rfl W2.heap.size 142 i0 _ 2 24 Tryz.underlying30 ii0 hz0 hz1 hz2 rfl (by omega) (.slice A fk.length c) fk.length xs rfl (World.ownsRow.alloc hol _) _ (some ⟨wr.heap.size, 0, none⟩) 1 1 [_, _] rfl (Blk.rows 1 2 (Blk.new wr 142 #[.int .i64 (p.1 : Int), .string ⟨p.2.toArray⟩]) rfl) hone HM.out.1 HM.out.2 (by rw [size_alloc']; omega) ?_; intro v9 w9 hown9 hg9 hat9; obtain ⟨A9, c9, rfl⟩ := own_shape hown9))
        go_roundw
        case rel =>
          have b9 : Below W2.heap.size W2 w9 := (hwr.alloc hsw (.cells #[.int .i64 (p.1 : Int), .string ⟨p.2.toArray⟩] 142)).grown hg9 (by rw [size_alloc']; omega) (fun b e => (hbnd b e).1)
          refine ⟨k + 1, by omega, by go_num, A9, c9, ⟨rfl, by rw [HEQ.out, List.length_append]; rfl, rfl⟩, ?_, b9⟩
          rw [HEQ.out, List.length_append, HAP.out]
          exact hown9
        case measure => simp [intOf]; omega
    · have hkk : k = nw := by omega
      have htk : way.take k = way := by rw [hkk]; exact List.take_of_length_le (by have := HL2.out; omega)
      rw [htk] at hol
      try rw [htk]
      have hps : nw ≤ k := by omega
      have f2 := kDr.frozen 2
      have hk1r := k13.below hwr (by omega)
      obtain ⟨fw, hfw⟩ : ∃ fw, fw = way.filter fun p => p.1 != i := ⟨_, rfl⟩
      rw [← hfw] at hol ⊢
      have HFW := Lib.hid hfw
      clear hfw
      have kL := kDr.set_ 2 (.slice A fw.length c)
      have kS := hk1r.far (p := ⟨w.heap.size, 2, none⟩) (by show w.heap.size + 1 ≠ w.heap.size; omega) (.slice A fw.length c)
      have yr := y3.trans (hwr.mono y3.size)
      have yL := yr.setCell (p := ⟨w.heap.size, 2, none⟩) (Nat.le_refl _) (.slice A fw.length c)
      have oF := ownsRow_setCell_below hol (a := ⟨w.heap.size, 2, none⟩) (by show w.heap.size < W2.heap.size; omega) (.slice A fw.length c)
      have oD := ownsRow_setCell_below (own_keep o3' fun b e => hwr.block b (World.ownsRow.lt o3' b e).2) (a := ⟨w.heap.size, 2, none⟩) (by show w.heap.size < w.heap.size + 2; omega) (.slice A fw.length c)
      have lF := World.ownsRow.lt oF
      have lD := World.ownsRow.lt oD
      clear hlt hk hkk htk
      go_wp2_with (first | ((with_reducible refine wpList_load_blk (o := ⟨some 51, _, _, _, _, _⟩) rfl 33 _ rfl w.heap.size rfl 33 _ _ kL Tryz.underlying33 rfl (by kernel_rfl) ?_)) | ((with_reducible refine wpList_store_blk (o := ⟨none, .store 33 (.tmp 6) (.tmp 51), _, _, _, _⟩) rfl 33 (.tmp 6) (.tmp 51) rfl (w.heap.size + 1) #[.int .i64 (n : Int), .slice A2 (nd + 1) c2, .slice A fw.length c, .int .i64 left, .bool false, .slice Ao no co] rfl rfl 33 _ kS (by kernel_rfl) (by simp) (by simp [Value.oneCell']) ?_); intro w6 k6 g6 s6))
      refine bodyPost_ret (results_row_tmp (fr := (0, 0)) rfl _ _ (w.heap.size + 1) 33 _ _ rfl k6 Tryz.underlying33 rfl (by kernel_rfl)) rfl ?_
      have hfw := HFW.out
      clear HFW
      subst hfw
      exact ⟨A2, c2, A, c, rfl, ownsRow_lower (World.ownsRow.kept oD g6 (.inr fun e => by have := (lD _ e).1; omega)) (by omega), ownsRow_lower (World.ownsRow.kept oF g6 (.inr fun e => by have := (lF _ e).1; omega)) (by omega), yL.grown g6 yL.size (fun k e => by injection e with e; omega)⟩
end Go.Proofs.YtkhebllmnagkmaaGreatDoor
/- Contract of the reference's New of a journal. Conditions: what it names. -/
namespace Go.Proofs.YtkhebllmnagkmaaGreatDoor
open Go.RowKit
set_option linter.unusedVariables false

def rjHead (J : Jr) : List Value := bs J.key ++ [.int .i64 (J.first : Int), .int .u64 (J.size : Int)]
def rjCells (J : Jr) : List Value := rjHead J ++ (stCells J.start J.count J.tag ++ [.int .u64 (J.next : Int), .int .u64 (J.limit : Int)])
structure RJAt (w : World) (gj : Nat) (J : Jr) : Prop where
  blk : Blk w gj 44 (rjCells J).toArray
  hk : J.key.length = 32
  ht : J.tag.length = 32
theorem rjHead_length (J : Jr) (hk : J.key.length = 32) : (rjHead J).length = 34 := by simp [rjHead, bs_length, hk]
theorem rjCells_length (J : Jr) (hk : J.key.length = 32) (ht : J.tag.length = 32) : (rjCells J).length = 70 := by unfold rjCells; rw [List.length_append, rjHead_length _ hk, List.length_append, stCells_length, ht]; rfl
theorem rjCells_one (J : Jr) : (rjCells J).toArray.all (·.oneCell') = true := by
  rw [Array.all_eq_true_iff_forall_mem]
  intro x hx
  simp only [List.mem_toArray, rjCells, rjHead, stCells, List.mem_append, List.mem_cons, List.not_mem_nil, or_false] at hx
  rcases hx with (hx | rfl | rfl) | ((rfl | rfl) | hx) | rfl | rfl
  · exact bs_one x hx
  all_goals first | rfl | exact bs_one x hx
section
variable {w w' : World} {gj : Nat} {J : Jr}
theorem RJAt.at_ (h : RJAt w gj J) (i : Nat) (v : Value) (hv : (rjCells J)[i]? = some v) : w.cell? ⟨gj, i, none⟩ = some v := (h.blk.cell i).trans (by rw [List.getElem?_toArray]; exact hv)
theorem RJAt.c32 (h : RJAt w gj J) : w.cell? ⟨gj, 32, none⟩ = some (.int .i64 (J.first : Int)) := h.at_ 32 _ (by unfold rjCells; rw [List.getElem?_append_left (by rw [rjHead_length _ h.hk]; omega)]; unfold rjHead; rw [List.getElem?_append_right (by simp [bs_length, h.hk])]; simp [bs_length, h.hk])
theorem RJAt.c33 (h : RJAt w gj J) : w.cell? ⟨gj, 33, none⟩ = some (.int .u64 (J.size : Int)) := h.at_ 33 _ (by unfold rjCells; rw [List.getElem?_append_left (by rw [rjHead_length _ h.hk]; omega)]; unfold rjHead; rw [List.getElem?_append_right (by simp [bs_length, h.hk])]; simp [bs_length, h.hk])
theorem RJAt.tail (h : RJAt w gj J) (i : Nat) (v : Value) (hv : (stCells J.start J.count J.tag ++ [Value.int .u64 (J.next : Int), .int .u64 (J.limit : Int)])[i]? = some v) : w.cell? ⟨gj, 34 + i, none⟩ = some v :=
  h.at_ _ _ (by unfold rjCells; rw [List.getElem?_append_right (by rw [rjHead_length _ h.hk]; omega), rjHead_length _ h.hk, Nat.add_sub_cancel_left]; exact hv)
theorem RJAt.c34 (h : RJAt w gj J) : w.cell? ⟨gj, 34, none⟩ = some (.int .u64 (J.start : Int)) := h.tail 0 _ rfl
theorem RJAt.c35 (h : RJAt w gj J) : w.cell? ⟨gj, 35, none⟩ = some (.int .u64 (J.count : Int)) := h.tail 1 _ rfl
theorem RJAt.c68 (h : RJAt w gj J) : w.cell? ⟨gj, 68, none⟩ = some (.int .u64 (J.next : Int)) := h.tail 34 _ (by rw [List.getElem?_append_right (by rw [stCells_length, h.ht]; omega), stCells_length, h.ht]; rfl)
theorem RJAt.c69 (h : RJAt w gj J) : w.cell? ⟨gj, 69, none⟩ = some (.int .u64 (J.limit : Int)) := h.tail 35 _ (by rw [List.getElem?_append_right (by rw [stCells_length, h.ht]; omega), stCells_length, h.ht]; rfl)
theorem RJAt.st (h : RJAt w gj J) : w.rangeAt gj 34 (stCells J.start J.count J.tag) := fun j v hj => h.tail j v (by
  rw [List.getElem?_append_left (List.getElem?_eq_some_iff.1 hj).1]
  exact hj)
theorem RJAt.key_ (h : RJAt w gj J) : w.rangeAt gj 0 (bs J.key) := fun j v hj => h.at_ (0 + j) v (by
  have hl := (List.getElem?_eq_some_iff.1 hj).1
  rw [bs_length, h.hk] at hl
  unfold rjCells
  rw [Nat.zero_add, List.getElem?_append_left (by rw [rjHead_length _ h.hk]; omega)]
  unfold rjHead
  rw [List.getElem?_append_left (by simp [bs_length, h.hk]; omega)]
  exact hj)
theorem RJAt.keep (h : RJAt w gj J) (hk : w'.heap[gj]? = w.heap[gj]?) : RJAt w' gj J := ⟨hk.trans h.blk, h.hk, h.ht⟩
theorem RJAt.under (h : RJAt w gj J) (hb : Below w.heap.size w w') : RJAt w' gj J := h.keep (hb.block gj h.blk.lt)
theorem RJAt.alloc (h : RJAt w gj J) (o : Obj) : RJAt (w.alloc o) gj J := h.under ((Below.refl _ _).alloc (Nat.le_refl _) _)
end
theorem built_rj (J : Jr) (hk : J.key.length = 32) (ht : J.tag.length = 32) :
    Tryz.prog.built 44 [(0, .agg (bs J.key).toArray), (1, .int .i64 (J.first : Int)), (2, .int .u64 (J.size : Int)), (3, .agg (stCells J.start J.count J.tag).toArray), (4, .int .u64 (J.next : Int)), (5, .int .u64 (J.limit : Int))] = some (rjCells J).toArray := by
  obtain ⟨first, size, start, count, next, limit, key, tag⟩ := J
  obtain ⟨f, hf⟩ := list_ofFn 32 key hk
  obtain ⟨h, hh⟩ := list_ofFn 32 tag ht
  clear hk ht
  subst hf hh
  kernel_rfl
theorem rj_next (J : Jr) (n : Nat) (hk : J.key.length = 32) (ht : J.tag.length = 32) : (rjCells J).toArray.setIfInBounds 68 (.int .u64 (n : Int)) = (rjCells { J with next := n }).toArray := by
  obtain ⟨first, size, start, count, next, limit, key, tag⟩ := J
  obtain ⟨f, hf⟩ := list_ofFn 32 key hk
  obtain ⟨h, hh⟩ := list_ofFn 32 tag ht
  clear hk ht
  subst hf hh
  kernel_rfl
set_option maxRecDepth 100000 in
set_option maxHeartbeats 4000000 in
theorem rjnew_any (places : Nat) (J : Jr) (w : World) (hk : J.key.length = 32) (ht : J.tag.length = 32) (h1 : 1 ≤ J.size) (h2 : J.first + J.size ≤ places) (hp : places ≤ 1048576) (h3 : J.start < J.size) (h4 : J.count ≤ J.size) (h5 : 1 ≤ J.next) (h6 : J.limit ≤ 9223372036854775807) :
    Calls Tryz.prog 9 #[.int .i64 (places : Int), .agg (bs J.key).toArray, .int .i64 (J.first : Int), .int .i64 (J.size : Int), .agg (stCells J.start J.count J.tag).toArray, .int .u64 (J.next : Int), .int .u64 (J.limit : Int)] w fun e w' =>
      e = .returned (.tuple #[.agg (rjCells J).toArray, .int .i64 0]) ∧ Below w.heap.size w w' := by
  have hbuilt := built_rj J hk ht
  have hjl := rjCells_length J hk ht
  have hj1 := rjCells_one J
  obtain ⟨W0, hW0⟩ : ∃ W0 : World, W0 = ((w.alloc (.cells (bs J.key).toArray 23)).alloc (.cells (stCells J.start J.count J.tag).toArray 42)).alloc (.cells Tryz.zeroCells44 44) := ⟨_, rfl⟩
  have y0 : Below w.heap.size w W0 := by rw [hW0]; exact (((Below.refl _ _).alloc (Nat.le_refl _) _).alloc (by simp) _).alloc (by simp; omega) _
  have hs0 : W0.heap.size = w.heap.size + 3 := by rw [hW0]; simp
  have kk : Blk W0 w.heap.size 23 (bs J.key).toArray := by rw [hW0]; exact ((Blk.new_of rfl rfl).alloc _).alloc _
  have ks : Blk W0 (w.heap.size + 1) 42 (stCells J.start J.count J.tag).toArray := by rw [hW0]; exact (Blk.new_of (by simp) rfl).alloc _
  have kj : Blk W0 (w.heap.size + 2) 44 Tryz.zeroCells44 := by rw [hW0]; exact Blk.new_of (by simp) rfl
  have q0 : ∀ o : Obj, (((w.alloc (.cells (bs J.key).toArray 23)).alloc (.cells (stCells J.start J.count J.tag).toArray 42)).alloc o).cell? ⟨w.heap.size + 1, 0, none⟩ = some (.int .u64 (J.start : Int)) := fun o => (Blk.alloc (Blk.new_of (by simp) rfl : Blk ((w.alloc (.cells (bs J.key).toArray 23)).alloc (.cells (stCells J.start J.count J.tag).toArray 42)) (w.heap.size + 1) 42 (stCells J.start J.count J.tag).toArray) o).cell 0
  have q1 : ∀ o : Obj, (((w.alloc (.cells (bs J.key).toArray 23)).alloc (.cells (stCells J.start J.count J.tag).toArray 42)).alloc o).cell? ⟨w.heap.size + 1, 1, none⟩ = some (.int .u64 (J.count : Int)) := fun o => (Blk.alloc (Blk.new_of (by simp) rfl : Blk ((w.alloc (.cells (bs J.key).toArray 23)).alloc (.cells (stCells J.start J.count J.tag).toArray 42)) (w.heap.size + 1) 42 (stCells J.start J.count J.tag).toArray) o).cell 1
  have kkO : ∀ o : Obj, Blk (((w.alloc (.cells (bs J.key).toArray 23)).alloc (.cells (stCells J.start J.count J.tag).toArray 42)).alloc o) w.heap.size 23 (bs J.key).toArray := fun o => ((Blk.new_of rfl rfl).alloc _).alloc o
  have ksO : ∀ o : Obj, Blk (((w.alloc (.cells (bs J.key).toArray 23)).alloc (.cells (stCells J.start J.count J.tag).toArray 42)).alloc o) (w.heap.size + 1) 42 (stCells J.start J.count J.tag).toArray := fun o => (Blk.new_of (by simp) rfl).alloc o
  have hsl := stCells_length J.start J.count J.tag
  rw [ht] at hsl
  have hkl : (bs J.key).length = 32 := by rw [bs_length, hk]
  have hz : Tryz.zeroCells44.size = (rjCells J).toArray.size := by rw [show (rjCells J).toArray.size = 70 by rw [List.size_toArray, hjl]]; kernel_rfl
  have hi : (Tryz.prog.info? 44).map (·.size) = some (rjCells J).toArray.size := by rw [List.size_toArray, hjl]; kernel_rfl
  generalize hkey : bs J.key = key at *
  generalize hst : stCells J.start J.count J.tag = st at *
  generalize hcs : rjCells J = cs at *
  have HK := Lib.hid hkl
  have HSL := Lib.hid hsl
  have HS0 := Lib.hid hs0
  have HI := Lib.hid hi
  have HZ := Lib.hid hz
  have HJ1 := Lib.hid hj1
  have HW0 := Lib.hid hW0
  have HB := Lib.hid hbuilt
  clear hkl hsl hjl hs0 hkey hst hcs hW0 hbuilt hk ht hi hz hj1
  generalize J.first = first at *
  generalize J.size = size at *
  generalize J.next = next at *
  generalize J.limit = limit at *
  generalize J.start = start at *
  generalize J.count = count at *
  have g1 : ¬ (first : Int) < 0 := by omega
  have g2 : ¬ (size : Int) < 1 := by omega
  have g3 : ¬ (places : Int) < (first : Int) := by omega
  have g4 : ¬ (places : Int) - (first : Int) < (size : Int) := by omega
  have g5 : ¬ (next : Int) = 0 := by omega
  have g6 : ¬ 9223372036854775807 < (limit : Int) := by omega
  have g7 : ¬ (size : Int) ≤ (start : Int) := by omega
  have g8 : ¬ (size : Int) < (count : Int) := by omega
  have hw64 : IntKind.u64.wrap (size : Int) = (size : Int) := by rw [IntKind.wrap_u64]; omega
  have hwi : IntKind.i64.wrap ((places : Int) - (first : Int)) = (places : Int) - (first : Int) := by rw [IntKind.wrap_i64]; omega
  have hsz : size < 18446744073709551616 := by omega
  have hf2 : first ≤ 1048576 := by omega
  have hs2 : size ≤ 1048576 := by omega
  go_enter Tryz.func9, Tryz.ntmps9
  go_wp2_with (first | ((with_reducible refine wpList_load_mid (op := ⟨some 57, _, _, _, _, _⟩) rfl 23 _ rfl w.heap.size 0 rfl key _ (Blk.range (kkO _)) Tryz.underlying23 rfl (by rw [HK.out]; kernel_rfl) ?_)) | ((with_reducible refine wpList_load_mid (op := ⟨some 61, _, _, _, _, _⟩) rfl 42 _ rfl (w.heap.size + 1) 0 rfl st _ (Blk.range (ksO _)) Tryz.underlying42 rfl (by rw [HSL.out]; kernel_rfl) ?_)) | ((refine wpList_build_plain (o := ⟨some 64, _, _, _, _, _⟩) rfl 44 [_, _, _, _, _, _] rfl _ rfl cs.toArray HB.out ?_)) | ((with_reducible refine wpList_store_blk (o := ⟨none, .store 44 (.tmp 14) (.tmp 64), _, _, _, _⟩) rfl 44 (.tmp 14) (.tmp 64) rfl (w.heap.size + 2) cs.toArray rfl rfl 44 Tryz.zeroCells44 (by rw [← HW0.out]; exact kj) HI.out HZ.out HJ1.out ?_); intro w3 k3 g3' s3))
  refine bodyPost_ret (results_row_tmp (fr := (0, 0)) rfl _ _ (w.heap.size + 2) 44 _ _ rfl k3 Tryz.underlying44 rfl HI.out) rfl ?_
  rw [HW0.out] at y0
  exact ⟨rfl, y0.grown g3' y0.size (fun k e => by injection e with e; omega)⟩
end Go.Proofs.YtkhebllmnagkmaaGreatDoor
