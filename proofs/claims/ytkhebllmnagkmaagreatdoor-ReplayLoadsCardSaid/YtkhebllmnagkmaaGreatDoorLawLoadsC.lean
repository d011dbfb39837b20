/- ReplayLoads: a journal that is filled by any changes, and tampered with, is loaded as the reference says, by any key, at any places, of any state. The card ties the two tables that the row lists to the program's text; beyond that, no condition. -/
import Derived.Test.YtkhebllmnagkmaaGreatDoorG34
import Derived.Test.YtkhebllmnagkmaaGreatDoorG35
import Derived.Test.YtkhebllmnagkmaaGreatDoorTie
import Derived.Test.YtkhebllmnagkmaaGreatDoorCards
import Derived.SevenTiedAt
import Derived.WalkKit
import Derived.ProofKit
import Derived.ShutString
import Derived.ChangeOld
import Derived.SizedLaws
import Derived.Deep.Strs
namespace Go.Proofs.YtkhebllmnagkmaaGreatDoor
open Go.ChangeShapes Go.WideShapes Go.ChangeAt Go.RowKit
set_option linter.unusedVariables false
set_option maxRecDepth 100000 in
/-- A state that comes in. -/
theorem open_state {H : Type} {enc : TypeId × Value → H} {W : World} {fuel : Nat} {cs : List Value} {x : DataW H × List MemPlace} (h : DataW.trod enc Tryz.prog W 0 (fun _ => true) true fuel 41 cs = some x) :
    ∃ (a b : Nat) (tag : List UInt8), tag.length = 32 ∧ a < 18446744073709551616 ∧ b < 18446744073709551616 ∧ cs = stCells a b tag := by
  obtain ⟨y0, y1, y2, n, _, hl, h0, h1, h2⟩ := Deep.trod_struct3 Tryz.underlying41 h
  obtain ⟨k0, e0, _, w0⟩ := DataW.trod_int Tryz.underlying39 h0
  obtain ⟨k1, e1, _, w1⟩ := DataW.trod_int Tryz.underlying39 h1
  obtain ⟨key, hk, e2⟩ := open_key h2
  have c1 : Tryz.prog.cellsOf 39 = 1 := by kernel_rfl
  have c2 : Tryz.prog.cellsOf 23 = 32 := by kernel_rfl
  have hl2 : cs.length = 34 := hl.trans (by kernel_rfl)
  have b0 := bounds_u64 w0
  have b1 := bounds_u64 w1
  have e0' : cs.take 1 = [.int .u64 k0] := by rw [← c1]; exact e0
  have e1' : (cs.drop 1).take 1 = [.int .u64 k1] := by rw [← c1]; exact e1
  have e2' : (cs.drop 2).take 32 = bs key := by rw [← c2]; exact e2
  refine ⟨k0.toNat, k1.toNat, key, hk, by omega, by omega, ?_⟩
  have q0 : ((k0.toNat : Nat) : Int) = k0 := by omega
  have q1 : ((k1.toNat : Nat) : Int) = k1 := by omega
  unfold stCells
  rw [q0, q1]
  cases cs with
  | nil => simp at hl2
  | cons a cs =>
    cases cs with
    | nil => simp at hl2
    | cons b cs =>
      simp only [List.length_cons] at hl2
      simp at e0' e1'
      have e3 : cs.take 32 = bs key := e2'
      rw [List.take_of_length_le (by omega)] at e3
      rw [e0', e1', e3]
      rfl
set_option maxRecDepth 100000 in
theorem loads_lifted (os : Os) (started : os.Started) (H : Type) (enc : TypeId × Value → H) :
    ReturnsInHanded {} Tryz.checked os 4 .any (fun w args => (Rows.replayLoadsSpec.pre enc Tryz.prog Tryz.f4 [] false w args ∧ laidMetH Tryz.prog laid2 w) ∧ sizedMet enc Tryz.prog Tryz.f4 (OpenSpec.ofChange Rows.replayLoadsSpec) false w args)
      (Rows.replayLoadsSpec.post enc Tryz.prog Tryz.f4 false true false false) := by
  refine returnsInHanded_of_change_and (C := Tryz.checked) (X := fun w _ => laidMetH Tryz.prog laid2 w) (fun _ _ _ hh h => h.of_heap hh) ownD started (by kernel_rfl) Tryz.func4
    (ChangeSpec.witness_shaped (enc := enc) (C := Tryz.checked) (os := os) (X := fun w _ => laidMetH Tryz.prog laid2 w) false (World.doorLaid Tryz.prog 400 os) #[.agg (Array.replicate 32 (.int .u8 0)), .int .u8 0, .slice none 0 0, .agg (#[.int .u64 0, .int .u64 0] ++ Array.replicate 32 (.int .u8 0)), .int .u8 0, .int .i64 0, .int .i64 0, .int .u8 0] 8 rfl (World.shaped_of_RefB (by kernel_rfl) (by kernel_rfl)) (by kernel_rfl) (by kernel_rfl) (by kernel_rfl) (doorMet os _)) ?_
  intro W base args ds gs before hval0 hW _ _ hL _
  have hval : ∀ (j : Nat) t v, Tryz.f4.params[j]? = some t → args[j]? = some v → Value.okWide Tryz.prog W .any base t v := hval0
  have hW' := hW
  obtain ⟨p, q, hA0, hV, rfl, hfz, hnd⟩ := hW
  have hA : DataW.TrodAll enc Tryz.prog W 0 (fun _ => true) true Tryz.f4.params.toList args.toList ds p := hA0
  rw [Tryz.params4] at hA hval
  obtain ⟨v0, vs0, d0, ds0, p0, q0, hargs, rfl, rfl, h0, r0⟩ := trodAll_cons hA
  obtain ⟨v1, vs1, d1, ds1, p1, q1, rfl, rfl, rfl, h1, r1⟩ := trodAll_cons r0
  obtain ⟨v2, vs2, d2, ds2, p2, q2, rfl, rfl, rfl, h2, r2⟩ := trodAll_cons r1
  obtain ⟨v3, vs3, d3, ds3, p3, q3, rfl, rfl, rfl, h3, r3⟩ := trodAll_cons r2
  obtain ⟨v4, vs4, d4, ds4, p4, q4, rfl, rfl, rfl, h4, r4⟩ := trodAll_cons r3
  obtain ⟨v5, vs5, d5, ds5, p5, q5, rfl, rfl, rfl, h5, r5⟩ := trodAll_cons r4
  obtain ⟨v6, vs6, d6, ds6, p6, q6, rfl, rfl, rfl, h6, r6⟩ := trodAll_cons r5
  obtain ⟨v7, vs7, d7, ds7, p7, q7, rfl, rfl, rfl, h7, r7⟩ := trodAll_cons r6
  obtain ⟨rfl, rfl, rfl⟩ := trodAll_nil r7
  obtain rfl : args = #[v0, v1, v2, v3, v4, v5, v6, v7] := by cases args; simp_all
  obtain ⟨rfl, rfl⟩ := trodVars_none hV
  have h0k := h0
  have h1k := h1
  have h2k := h2
  have h3k := h3
  have h4k := h4
  have h5k := h5
  have h6k := h6
  have h7k := h7
  obtain ⟨f0, h0'⟩ := h0
  obtain ⟨f2, h2'⟩ := h2
  obtain ⟨f3, h3'⟩ := h3
  obtain ⟨cs0, rfl, _⟩ := okWide_array Tryz.underlying23 (hval 0 23 _ rfl rfl)
  obtain ⟨z1, rfl, _, _, hz1⟩ := open_int Tryz.underlying5 (hval 1 5 _ rfl rfl) h1
  obtain ⟨a0, len, cap, rfl⟩ := okWide_slice Tryz.underlying60 (hval 2 60 _ rfl rfl)
  obtain ⟨cs3, rfl, _⟩ := okWide_struct Tryz.underlying41 (hval 3 41 _ rfl rfl)
  obtain ⟨z4, rfl, _, _, hz4⟩ := open_int Tryz.underlying5 (hval 4 5 _ rfl rfl) h4
  obtain ⟨z5, rfl, _, _, hz5⟩ := open_int Tryz.underlying3 (hval 5 3 _ rfl rfl) h5
  obtain ⟨z6, rfl, _, _, hz6⟩ := open_int Tryz.underlying3 (hval 6 3 _ rfl rfl) h6
  obtain ⟨z7, rfl, _, _, hz7⟩ := open_int Tryz.underlying5 (hval 7 5 _ rfl rfl) h7
  obtain ⟨key, hk, hcs0⟩ := open_key h0'
  have hcs0' : cs0 = (bs key).toArray := by
    have h : cs0.toList = bs key := by simpa [Value.cells] using hcs0
    rw [← h]
  subst hcs0'
  obtain ⟨sa, sb, stag, hst, hs1, hs2, hcs3⟩ := open_state h3'
  have hcs3' : cs3 = (stCells sa sb stag).toArray := by
    have h : cs3.toList = stCells sa sb stag := by simpa [Value.cells] using hcs3
    rw [← h]
  subst hcs3'
  obtain ⟨A, n, c, xs, ll, hcs, hr, hl, hi, h64, hn⟩ := open_changes_in h2'
  have hv : (Value.slice a0 len cap) = .slice A n c := by simpa [Value.cells] using hcs
  injection hv with e1 e2 e3
  subst e1 e2 e3
  have hb1 := bounds_u8 hz1
  obtain ⟨u1, hu1⟩ : ∃ u : UInt8, z1 = (u.toNat : Int) := ⟨UInt8.ofNat z1.toNat, by rw [UInt8.toNat_ofNat']; omega⟩
  subst hu1
  have hb4 := bounds_u8 hz4
  obtain ⟨u4, hu4⟩ : ∃ u : UInt8, z4 = (u.toNat : Int) := ⟨UInt8.ofNat z4.toNat, by rw [UInt8.toNat_ofNat']; omega⟩
  subst hu4
  have hb7 := bounds_u8 hz7
  obtain ⟨u7, hu7⟩ : ∃ u : UInt8, z7 = (u.toNat : Int) := ⟨UInt8.ofNat z7.toNat, by rw [UInt8.toNat_ofNat']; omega⟩
  subst hu7
  have hlt0 : ∀ x ∈ p0, x.block < W.heap.size := fun x hx => hW'.lt x (by simp [hx])
  have hlt1 : ∀ x ∈ p1, x.block < W.heap.size := fun x hx => hW'.lt x (by simp [hx])
  have hlt2 : ∀ x ∈ p2, x.block < W.heap.size := fun x hx => hW'.lt x (by simp [hx])
  have hlt3 : ∀ x ∈ p3, x.block < W.heap.size := fun x hx => hW'.lt x (by simp [hx])
  have hlt4 : ∀ x ∈ p4, x.block < W.heap.size := fun x hx => hW'.lt x (by simp [hx])
  have hlt5 : ∀ x ∈ p5, x.block < W.heap.size := fun x hx => hW'.lt x (by simp [hx])
  have hlt6 : ∀ x ∈ p6, x.block < W.heap.size := fun x hx => hW'.lt x (by simp [hx])
  have hlt7 : ∀ x ∈ p7, x.block < W.heap.size := fun x hx => hW'.lt x (by simp [hx])
  clear hA0 hval0
  refine (replayLoads_any key u1 a0 len cap xs ll sa sb stag u4 z5 z6 u7 W hk hr hl hi h64 hn hs1 hs2 hst (laid_tabs hL)).mono fun e W' ⟨he, bel⟩ => ?_
  subst he
  exact ⟨_, rfl, _, _, _, [], _, [], hW', trodAll_mk1 (shut_bool Tryz.underlying4 _), ⟨_, _, Below.trod laidOutD (by kernel_rfl) (of_decide_eq_true (by kernel_rfl)) h0k bel hlt0, ⟨_, _, Below.trod laidOutD (by kernel_rfl) (of_decide_eq_true (by kernel_rfl)) h1k bel hlt1, ⟨_, _, Below.trod laidOutD (by kernel_rfl) (of_decide_eq_true (by kernel_rfl)) h2k bel hlt2, ⟨_, _, Below.trod laidOutD (by kernel_rfl) (of_decide_eq_true (by kernel_rfl)) h3k bel hlt3, ⟨_, _, Below.trod laidOutD (by kernel_rfl) (of_decide_eq_true (by kernel_rfl)) h4k bel hlt4, trodAll_mk3 (Below.trod laidOutD (by kernel_rfl) (of_decide_eq_true (by kernel_rfl)) h5k bel hlt5) (Below.trod laidOutD (by kernel_rfl) (of_decide_eq_true (by kernel_rfl)) h6k bel hlt6) (Below.trod laidOutD (by kernel_rfl) (of_decide_eq_true (by kernel_rfl)) h7k bel hlt7), rfl⟩, rfl⟩, rfl⟩, rfl⟩, rfl⟩, rfl, bel.frame _, fun h => by cases h⟩
theorem loads_over : Rows.replayLoadsRow.holds Tryz.pinned (OpenSpec.ofChange Rows.replayLoadsSpec) :=
  OpenClaim.holds_of_wide 4 Tryz.f4 rfl rfl rfl rfl rfl rfl rfl ⟨rfl, rfl, rfl, rfl, rfl⟩ rfl rfl rfl rfl rfl (by kernel_rfl) Tryz.func4 (by kernel_rfl)
    (of_decide_eq_true (by kernel_rfl)) (by unfold Func.isWrapper; first | (rw [if_pos (by decide +kernel)]; kernel_rfl) | (rw [if_neg (by decide +kernel)]; exact ⟨rfl, rfl⟩))
    (fun os started H enc _ => loads_lifted os started H enc)
theorem loads_row_holds : Rows.ReplayLoadsSaid := loads_over
/-- The tied card, under a short name, for the claim. -/
theorem replayLoads_holds : Rows.ReplayLoadsCardSaid :=
  Claim7.holds_tied_plain_at .later [] [.data, .data] true (true, "f8f31ded7a51777549c9bdc3759269be1246ad6f5e9a62a40abc97bca4d6f1b3") false
    loads_over (fun _ h => by cases h) (by kernel_rfl) (fun _ h => by cases h) replayLoads_row_tie rfl ⟨rfl, rfl⟩ (by kernel_rfl) rfl
    (fun f fn hf hfn => by
      obtain rfl : f = 4 := Option.some.inj ((show Tryz.prog.funcNamed "reliquary/reliquarylaw14.ReplayLoads" = some 4 by kernel_rfl).symm.trans hf) |>.symm
      obtain rfl : fn = Tryz.f4 := (Option.some.inj (Tryz.func4.symm.trans hfn)).symm
      exact ⟨by kernel_rfl, fun j t ht => by
        rw [Tryz.params4] at ht
        have hm : t ∈ [23, 5, 60, 41, 5, 3, 3, 5] := by simpa using Array.mem_of_getElem? ht
        have hall : ([23, 5, 60, 41, 5, 3, 3, 5].all fun u => !Tryz.prog.wantsStandIn u) = true := by kernel_rfl
        exact (show Tryz.prog.wantsStandIn t = false by simpa using List.all_eq_true.1 hall t hm)⟩)
    (by kernel_rfl)
#print axioms replayLoads_holds
end Go.Proofs.YtkhebllmnagkmaaGreatDoor
