/- ReplayRolls: an older image of the disk is refused, or two rows of bytes of one digest are shown. The card ties the two tables that the row lists to the program's text; beyond that, no condition. -/
import Derived.Test.YtkhebllmnagkmaaDoorG20
import Derived.Test.YtkhebllmnagkmaaDoorG23
import Derived.Test.YtkhebllmnagkmaaDoorTie
import Derived.Test.YtkhebllmnagkmaaDoorCards
import Derived.SevenTiedAt
import Derived.WalkKit
import Derived.ProofKit
import Derived.ShutString
import Derived.ChangeOld
import Derived.SizedLaws
import Derived.Lib.SmallJoins
namespace Go.Proofs.YtkhebllmnagkmaaDoor
open Go.ChangeShapes Go.WideShapes Go.ChangeAt Go.RowKit
set_option linter.unusedVariables false
set_option maxRecDepth 100000 in
theorem rolls_lifted (os : Os) (started : os.Started) (H : Type) (enc : TypeId × Value → H) :
    ReturnsInHanded {} Tryd.checked os 6 .any (fun w args => (Rows.replayRollsSpec.pre enc Tryd.prog Tryd.f6 [] false w args ∧ laidMetH Tryd.prog laid2 w) ∧ sizedMet enc Tryd.prog Tryd.f6 (OpenSpec.ofChange Rows.replayRollsSpec) false w args)
      (Rows.replayRollsSpec.post enc Tryd.prog Tryd.f6 false true false false) := by
  refine returnsInHanded_of_change_and (C := Tryd.checked) (X := fun w _ => laidMetH Tryd.prog laid2 w) (fun _ _ _ hh h => h.of_heap hh) ownD started (by kernel_rfl) Tryd.func6
    (ChangeSpec.witness_shaped (enc := enc) (C := Tryd.checked) (os := os) (X := fun w _ => laidMetH Tryd.prog laid2 w) false (World.doorLaid Tryd.prog 400 os) #[.agg (Array.replicate 32 (.int .u8 0)), .agg #[.int .u64 0, .slice none 0 0], .agg #[.int .u64 0, .slice none 0 0]] 8 rfl (World.shaped_of_RefB (by kernel_rfl) (by kernel_rfl)) (by kernel_rfl) (by kernel_rfl) (by kernel_rfl) (doorMet os _)) ?_
  intro W base args ds gs before hval0 hW _ _ hL _
  have hval : ∀ (j : Nat) t v, Tryd.f6.params[j]? = some t → args[j]? = some v → Value.okWide Tryd.prog W .any base t v := hval0
  have hW' := hW
  obtain ⟨p, q, hA0, hV, rfl, hfz, hnd⟩ := hW
  have hA : DataW.TrodAll enc Tryd.prog W 0 (fun _ => true) true Tryd.f6.params.toList args.toList ds p := hA0
  rw [Tryd.params6] at hA hval
  obtain ⟨v0, vs0, d0, ds0, p0, q0, hargs, rfl, rfl, h0, r0⟩ := trodAll_cons hA
  obtain ⟨v1, vs1, d1, ds1, p1, q1, rfl, rfl, rfl, h1, r1⟩ := trodAll_cons r0
  obtain ⟨v2, vs2, d2, ds2, p2, q2, rfl, rfl, rfl, h2, r2⟩ := trodAll_cons r1
  obtain ⟨rfl, rfl, rfl⟩ := trodAll_nil r2
  obtain rfl : args = #[v0, v1, v2] := by cases args; simp_all
  obtain ⟨rfl, rfl⟩ := trodVars_none hV
  have h0k := h0
  have h1k := h1
  have h2k := h2
  obtain ⟨f0, h0'⟩ := h0
  obtain ⟨cs0, rfl, _⟩ := okWide_array Tryd.underlying39 (hval 0 39 _ rfl rfl)
  obtain ⟨x10, x11, y10, y11, m1, rfl, _, _, g10, g11⟩ := Joins.open_agg2 Tryd.underlying36 (by kernel_rfl) (by kernel_rfl) (hval 1 36 _ rfl rfl) h1
  obtain ⟨x20, x21, y20, y21, m2, rfl, _, _, g20, g21⟩ := Joins.open_agg2 Tryd.underlying36 (by kernel_rfl) (by kernel_rfl) (hval 2 36 _ rfl rfl) h2
  obtain ⟨z1, e1, _, hw1⟩ := DataW.trod_int Tryd.underlying33 g10
  obtain ⟨z2, e2, _, hw2⟩ := DataW.trod_int Tryd.underlying33 g20
  obtain ⟨A1, b1, c1, e3, hc1, hr1⟩ := open_bytes_in g11
  obtain ⟨A2, b2, c2, e4, hc2, hr2⟩ := open_bytes_in g21
  have hz1 := bounds_u64 hw1
  have hz2 := bounds_u64 hw2
  have e1 : x10 = .int .u64 z1 := by simpa using e1
  have e2 : x20 = .int .u64 z2 := by simpa using e2
  have e3 : x11 = .slice A1 b1.length c1 := by simpa using e3
  have e4 : x21 = .slice A2 b2.length c2 := by simpa using e4
  subst e1 e2 e3 e4
  obtain ⟨u1, rfl⟩ : ∃ u1 : Nat, z1 = (u1 : Int) := ⟨z1.toNat, by omega⟩
  obtain ⟨u2, rfl⟩ : ∃ u2 : Nat, z2 = (u2 : Int) := ⟨z2.toNat, by omega⟩
  obtain ⟨key, hk, hcs0⟩ := open_key h0'
  have hcs0' : cs0 = (bs key).toArray := by
    have h : cs0.toList = bs key := by simpa [Value.cells] using hcs0
    rw [← h]
  subst hcs0'
  have hlt0 : ∀ x ∈ p0, x.block < W.heap.size := fun x hx => hW'.lt x (by simp [hx])
  have hlt1 : ∀ x ∈ p1, x.block < W.heap.size := fun x hx => hW'.lt x (by simp [hx])
  have hlt2 : ∀ x ∈ p2, x.block < W.heap.size := fun x hx => hW'.lt x (by simp [hx])
  clear hA0 hval0
  refine (replayRolls_any key (u1, b1) (u2, b2) A1 A2 c1 c2 W hk hr1 hc1 (by show u1 < _; omega) hr2 hc2 (by show u2 < _; omega) (laid_tabs hL)).mono fun e W' ⟨he, bel⟩ => ?_
  subst he
  exact ⟨_, rfl, _, _, _, [], _, [], hW', trodAll_mk1 (shut_bool Tryd.underlying4 _), trodAll_mk3 (Below.trod laidOutD (by kernel_rfl) (of_decide_eq_true (by kernel_rfl)) h0k bel hlt0) (Below.trod laidOutD (by kernel_rfl) (of_decide_eq_true (by kernel_rfl)) h1k bel hlt1) (Below.trod laidOutD (by kernel_rfl) (of_decide_eq_true (by kernel_rfl)) h2k bel hlt2), rfl, bel.frame _, fun h => by cases h⟩
theorem rolls_over : Rows.replayRollsRow.holds Tryd.pinned (OpenSpec.ofChange Rows.replayRollsSpec) :=
  OpenClaim.holds_of_wide 6 Tryd.f6 rfl rfl rfl rfl rfl rfl rfl ⟨rfl, rfl, rfl, rfl, rfl⟩ rfl rfl rfl rfl rfl (by kernel_rfl) Tryd.func6 (by kernel_rfl)
    (of_decide_eq_true (by kernel_rfl)) (by unfold Func.isWrapper; first | (rw [if_pos (by decide +kernel)]; kernel_rfl) | (rw [if_neg (by decide +kernel)]; exact ⟨rfl, rfl⟩))
    (fun os started H enc _ => rolls_lifted os started H enc)
theorem rolls_row_holds : Rows.ReplayRollsSaid := rolls_over
/-- The tied card, under a short name, for the claim. -/
theorem replayRolls_holds : Rows.ReplayRollsCardSaid :=
  Claim7.holds_tied_plain_at .later [] [.data, .data] true (true, "04a3da5c009367402185cf112f61fa075c188906c1f425cc0032d89db0e54135") false
    rolls_over (fun _ h => by cases h) (by kernel_rfl) (fun _ h => by cases h) replayRolls_row_tie rfl ⟨rfl, rfl⟩ (by kernel_rfl) rfl
    (fun f fn hf hfn => by
      obtain rfl : f = 6 := Option.some.inj ((show Tryd.prog.funcNamed "reliquary/reliquarylaw14.ReplayRolls" = some 6 by kernel_rfl).symm.trans hf) |>.symm
      obtain rfl : fn = Tryd.f6 := (Option.some.inj (Tryd.func6.symm.trans hfn)).symm
      exact ⟨by kernel_rfl, fun j t ht => by
        rw [Tryd.params6] at ht
        have hm : t ∈ [39, 36, 36] := by simpa using Array.mem_of_getElem? ht
        have hall : ([39, 36, 36].all fun u => !Tryd.prog.wantsStandIn u) = true := by kernel_rfl
        exact (show Tryd.prog.wantsStandIn t = false by simpa using List.all_eq_true.1 hall t hm)⟩)
    (by kernel_rfl)
#print axioms replayRolls_holds
end Go.Proofs.YtkhebllmnagkmaaDoor
