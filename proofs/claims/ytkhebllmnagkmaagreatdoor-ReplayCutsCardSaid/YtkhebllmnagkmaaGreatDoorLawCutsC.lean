/- ReplayCuts: a change that is cut short, or whose parts do not meet the disk, leaves what a load tells as the reference says. The card ties the two tables that the row lists to the program's text; beyond that, no condition. -/
import Derived.Test.YtkhebllmnagkmaaGreatDoorG31
import Derived.Test.YtkhebllmnagkmaaGreatDoorG32
import Derived.Test.YtkhebllmnagkmaaGreatDoorTie
import Derived.Test.YtkhebllmnagkmaaGreatDoorCards
import Derived.SevenTiedAt
import Derived.WalkKit
import Derived.ProofKit
import Derived.ShutString
import Derived.ChangeOld
import Derived.SizedLaws
import Derived.Deep.SlicePairs
namespace Go.Proofs.YtkhebllmnagkmaaGreatDoor
open Go.ChangeShapes Go.WideShapes Go.ChangeAt Go.RowKit
set_option linter.unusedVariables false
/-- The length of a row of images that came in is an int's. -/
theorem open_image_max {H : Type} {enc : TypeId × Value → H} {w : World} {fuel : Nat} {cs : List Value} {x : DataW H × List MemPlace} (h : DataW.trod enc Tryz.prog w 0 (fun _ => true) true fuel 24 cs = some x) : ∀ (A : Option Addr) (n c : Nat), cs = [.slice A n c] → n ≤ 9223372036854775807 := by
  intro A n c hc
  rcases Deep.open_slice_pairs Tryz.underlying24 Tryz.underlying79 (by kernel_rfl) rfl rfl (by kernel_rfl) (by kernel_rfl) h with ⟨rfl, _⟩ | ⟨a, len, cap, m, fu, V0, V1, D0, D1, P0, P1, rfl, hb, hl, hm, _⟩
  · injection hc with hc _
    injection hc with _ hc _
    omega
  · injection hc with hc _
    injection hc with _ hc _
    unfold maxLen at hm
    omega
set_option maxRecDepth 100000 in
theorem cuts_lifted (os : Os) (started : os.Started) (H : Type) (enc : TypeId × Value → H) :
    ReturnsInHanded {} Tryz.checked os 3 .any (fun w args => (Rows.replayCutsSpec.pre enc Tryz.prog Tryz.f3 [] false w args ∧ laidMetH Tryz.prog laid2 w) ∧ sizedMet enc Tryz.prog Tryz.f3 (OpenSpec.ofChange Rows.replayCutsSpec) false w args)
      (Rows.replayCutsSpec.post enc Tryz.prog Tryz.f3 false true false false) := by
  refine returnsInHanded_of_change_and (C := Tryz.checked) (X := fun w _ => laidMetH Tryz.prog laid2 w) (fun _ _ _ hh h => h.of_heap hh) ownD started (by kernel_rfl) Tryz.func3
    (ChangeSpec.witness_shaped (enc := enc) (C := Tryz.checked) (os := os) (X := fun w _ => laidMetH Tryz.prog laid2 w) false (World.doorLaid Tryz.prog 400 os) #[.agg (Array.replicate 32 (.int .u8 0)), .slice none 0 0, .int .u8 0, .bool false] 8 rfl (World.shaped_of_RefB (by kernel_rfl) (by kernel_rfl)) (by kernel_rfl) (by kernel_rfl) (by kernel_rfl) (doorMet os _)) ?_
  intro W base args ds gs before hval0 hW _ _ hL _
  have hval : ∀ (j : Nat) t v, Tryz.f3.params[j]? = some t → args[j]? = some v → Value.okWide Tryz.prog W .any base t v := hval0
  have hW' := hW
  obtain ⟨p, q, hA0, hV, rfl, hfz, hnd⟩ := hW
  have hA : DataW.TrodAll enc Tryz.prog W 0 (fun _ => true) true Tryz.f3.params.toList args.toList ds p := hA0
  rw [Tryz.params3] at hA hval
  obtain ⟨v0, vs0, d0, ds0, p0, q0, hargs, rfl, rfl, h0, r0⟩ := trodAll_cons hA
  obtain ⟨v1, vs1, d1, ds1, p1, q1, rfl, rfl, rfl, h1, r1⟩ := trodAll_cons r0
  obtain ⟨v2, vs2, d2, ds2, p2, q2, rfl, rfl, rfl, h2, r2⟩ := trodAll_cons r1
  obtain ⟨v3, vs3, d3, ds3, p3, q3, rfl, rfl, rfl, h3, r3⟩ := trodAll_cons r2
  obtain ⟨rfl, rfl, rfl⟩ := trodAll_nil r3
  obtain rfl : args = #[v0, v1, v2, v3] := by cases args; simp_all
  obtain ⟨rfl, rfl⟩ := trodVars_none hV
  have h0k := h0
  have h1k := h1
  have h2k := h2
  have h3k := h3
  obtain ⟨f0, h0'⟩ := h0
  obtain ⟨f1, h1'⟩ := h1
  obtain ⟨cs0, rfl, _⟩ := okWide_array Tryz.underlying23 (hval 0 23 _ rfl rfl)
  obtain ⟨a0, len, cap, rfl⟩ := okWide_slice Tryz.underlying24 (hval 1 24 _ rfl rfl)
  obtain ⟨z, rfl, _, _, hz⟩ := open_int Tryz.underlying5 (hval 2 5 _ rfl rfl) h2
  obtain ⟨lk, rfl⟩ := okWide_bool Tryz.underlying4 (hval 3 4 _ rfl rfl)
  obtain ⟨key, hk, hcs0⟩ := open_key h0'
  have hcs0' : cs0 = (bs key).toArray := by
    have h : cs0.toList = bs key := by simpa [Value.cells] using hcs0
    rw [← h]
  subst hcs0'
  have hmax := open_image_max h1'
  obtain ⟨A, n, c, xs, l, hcs, hr, hl, hi, h64⟩ := open_image_row h1'
  have hv : (Value.slice a0 len cap) = .slice A n c := by simpa [Value.cells] using hcs
  injection hv with e1 e2 e3
  subst e1 e2 e3
  have hn := hmax a0 len cap (by simp [Value.cells])
  have hb := bounds_u8 hz
  obtain ⟨u, hu⟩ : ∃ u : UInt8, z = (u.toNat : Int) := ⟨UInt8.ofNat z.toNat, by rw [UInt8.toNat_ofNat']; omega⟩
  subst hu
  have hlt0 : ∀ x ∈ p0, x.block < W.heap.size := fun x hx => hW'.lt x (by simp [hx])
  have hlt1 : ∀ x ∈ p1, x.block < W.heap.size := fun x hx => hW'.lt x (by simp [hx])
  have hlt2 : ∀ x ∈ p2, x.block < W.heap.size := fun x hx => hW'.lt x (by simp [hx])
  have hlt3 : ∀ x ∈ p3, x.block < W.heap.size := fun x hx => hW'.lt x (by simp [hx])
  clear hA0 hval0
  refine (replayCuts_any key a0 len cap xs l u lk W hk hr hl hi h64 hn (laid_tabs hL)).mono fun e W' ⟨he, bel⟩ => ?_
  subst he
  exact ⟨_, rfl, _, _, _, [], _, [], hW', trodAll_mk1 (shut_bool Tryz.underlying4 _), ⟨_, _, Below.trod laidOutD (by kernel_rfl) (of_decide_eq_true (by kernel_rfl)) h0k bel hlt0, trodAll_mk3 (Below.trod laidOutD (by kernel_rfl) (of_decide_eq_true (by kernel_rfl)) h1k bel hlt1) (Below.trod laidOutD (by kernel_rfl) (of_decide_eq_true (by kernel_rfl)) h2k bel hlt2) (Below.trod laidOutD (by kernel_rfl) (of_decide_eq_true (by kernel_rfl)) h3k bel hlt3), rfl⟩, rfl, bel.frame _, fun h => by cases h⟩
theorem cuts_over : Rows.replayCutsRow.holds Tryz.pinned (OpenSpec.ofChange Rows.replayCutsSpec) :=
  OpenClaim.holds_of_wide 3 Tryz.f3 rfl rfl rfl rfl rfl rfl rfl ⟨rfl, rfl, rfl, rfl, rfl⟩ rfl rfl rfl rfl rfl (by kernel_rfl) Tryz.func3 (by kernel_rfl)
    (of_decide_eq_true (by kernel_rfl)) (by unfold Func.isWrapper; first | (rw [if_pos (by decide +kernel)]; kernel_rfl) | (rw [if_neg (by decide +kernel)]; exact ⟨rfl, rfl⟩))
    (fun os started H enc _ => cuts_lifted os started H enc)
theorem cuts_row_holds : Rows.ReplayCutsSaid := cuts_over
/-- The tied card, under a short name, for the claim. -/
theorem replayCuts_holds : Rows.ReplayCutsCardSaid :=
  Claim7.holds_tied_plain_at .later [] [.data, .data] true (true, "f8f31ded7a51777549c9bdc3759269be1246ad6f5e9a62a40abc97bca4d6f1b3") false
    cuts_over (fun _ h => by cases h) (by kernel_rfl) (fun _ h => by cases h) replayCuts_row_tie rfl ⟨rfl, rfl⟩ (by kernel_rfl) rfl
    (fun f fn hf hfn => by
      obtain rfl : f = 3 := Option.some.inj ((show Tryz.prog.funcNamed "reliquary/reliquarylaw14.ReplayCuts" = some 3 by kernel_rfl).symm.trans hf) |>.symm
      obtain rfl : fn = Tryz.f3 := (Option.some.inj (Tryz.func3.symm.trans hfn)).symm
      exact ⟨by kernel_rfl, fun j t ht => by
        rw [Tryz.params3] at ht
        have hm : t ∈ [23, 24, 5, 4] := by simpa using Array.mem_of_getElem? ht
        have hall : ([23, 24, 5, 4].all fun u => !Tryz.prog.wantsStandIn u) = true := by kernel_rfl
        exact (show Tryz.prog.wantsStandIn t = false by simpa using List.all_eq_true.1 hall t hm)⟩)
    (by kernel_rfl)
#print axioms replayCuts_holds
end Go.Proofs.YtkhebllmnagkmaaGreatDoor
