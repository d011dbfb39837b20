/- ReplayOld: of changes that are loaded back, the last bytes of each block are the model's, by rising numbers. The card ties the two tables that the row lists to the program's text; beyond that, no condition. -/
import Derived.Test.YtkhebllmnagkmaaDoorG20
import Derived.Test.YtkhebllmnagkmaaDoorG21
import Derived.Test.YtkhebllmnagkmaaDoorTie
import Derived.Test.YtkhebllmnagkmaaDoorCards
import Derived.SevenTiedAt
import Derived.WalkKit
import Derived.ProofKit
import Derived.ShutString
import Derived.ChangeOld
import Derived.SizedLaws
namespace Go.Proofs.YtkhebllmnagkmaaDoor
open Go.ChangeShapes Go.WideShapes Go.ChangeAt Go.RowKit
set_option linter.unusedVariables false
set_option maxRecDepth 100000 in
theorem old_lifted (os : Os) (started : os.Started) (H : Type) (enc : TypeId × Value → H) :
    ReturnsInHanded {} Tryd.checked os 5 .any (fun w args => (Rows.replayOldSpec.pre enc Tryd.prog Tryd.f5 [] false w args ∧ laidMetH Tryd.prog laid2 w) ∧ sizedMet enc Tryd.prog Tryd.f5 (OpenSpec.ofChange Rows.replayOldSpec) false w args)
      (Rows.replayOldSpec.post enc Tryd.prog Tryd.f5 false true false false) := by
  refine returnsInHanded_of_change_and (C := Tryd.checked) (X := fun w _ => laidMetH Tryd.prog laid2 w) (fun _ _ _ hh h => h.of_heap hh) ownD started (by kernel_rfl) Tryd.func5
    (ChangeSpec.witness_shaped (enc := enc) (C := Tryd.checked) (os := os) (X := fun w _ => laidMetH Tryd.prog laid2 w) false (World.doorLaid Tryd.prog 400 os) #[.agg (Array.replicate 32 (.int .u8 0)), .slice none 0 0] 8 rfl (World.shaped_of_RefB (by kernel_rfl) (by kernel_rfl)) (by kernel_rfl) (by kernel_rfl) (by kernel_rfl) (doorMet os _)) ?_
  intro W base args ds gs before hval0 hW _ _ hL _
  have hval : ∀ (j : Nat) t v, Tryd.f5.params[j]? = some t → args[j]? = some v → Value.okWide Tryd.prog W .any base t v := hval0
  have hW' := hW
  obtain ⟨p, q, hA0, hV, rfl, hfz, hnd⟩ := hW
  have hA : DataW.TrodAll enc Tryd.prog W 0 (fun _ => true) true Tryd.f5.params.toList args.toList ds p := hA0
  rw [Tryd.params5] at hA hval
  obtain ⟨v0, vs0, d0, ds0, p0, q0, hargs, rfl, rfl, h0, r0⟩ := trodAll_cons hA
  obtain ⟨v2, vs2, d2, ds2, p2, q2, rfl, rfl, rfl, h2, r2⟩ := trodAll_cons r0
  obtain ⟨rfl, rfl, rfl⟩ := trodAll_nil r2
  obtain rfl : args = #[v0, v2] := by cases args; simp_all
  obtain ⟨rfl, rfl⟩ := trodVars_none hV
  have h0k := h0
  have h2k := h2
  obtain ⟨f0, h0'⟩ := h0
  obtain ⟨f2, h2'⟩ := h2
  obtain ⟨cs0, rfl, _⟩ := okWide_array Tryd.underlying39 (hval 0 39 _ rfl rfl)
  obtain ⟨a0, len, cap, rfl⟩ := okWide_slice Tryd.underlying22 (hval 1 22 _ rfl rfl)
  obtain ⟨key, hk, hcs0⟩ := open_key h0'
  have hcs0' : cs0 = (bs key).toArray := by
    have h : cs0.toList = bs key := by simpa [Value.cells] using hcs0
    rw [← h]
  subst hcs0'
  obtain ⟨A, n, c, xs, ll, hcs, hr, hl, hi, h64, hn⟩ := open_changes_in h2'
  have hv : (Value.slice a0 len cap) = .slice A n c := by simpa [Value.cells] using hcs
  injection hv with e1 e2 e3
  subst e1 e2 e3
  have hlt0 : ∀ x ∈ p0, x.block < W.heap.size := fun x hx => hW'.lt x (by simp [hx])
  have hlt2 : ∀ x ∈ p2, x.block < W.heap.size := fun x hx => hW'.lt x (by simp [hx])
  clear hA0 hval0
  refine (replayOld_any key a0 len cap xs ll W hk hr hl hi h64 hn (laid_tabs hL)).mono fun e W' ⟨he, bel⟩ => ?_
  subst he
  exact ⟨_, rfl, _, _, _, [], _, [], hW', trodAll_mk1 (shut_bool Tryd.underlying4 _), trodAll_mk2 (Below.trod laidOutD (by kernel_rfl) (of_decide_eq_true (by kernel_rfl)) h0k bel hlt0) (Below.trod laidOutD (by kernel_rfl) (of_decide_eq_true (by kernel_rfl)) h2k bel hlt2), rfl, bel.frame _, fun h => by cases h⟩
theorem old_over : Rows.replayOldRow.holds Tryd.pinned (OpenSpec.ofChange Rows.replayOldSpec) :=
  OpenClaim.holds_of_wide 5 Tryd.f5 rfl rfl rfl rfl rfl rfl rfl ⟨rfl, rfl, rfl, rfl, rfl⟩ rfl rfl rfl rfl rfl (by kernel_rfl) Tryd.func5 (by kernel_rfl)
    (of_decide_eq_true (by kernel_rfl)) (by unfold Func.isWrapper; first | (rw [if_pos (by decide +kernel)]; kernel_rfl) | (rw [if_neg (by decide +kernel)]; exact ⟨rfl, rfl⟩))
    (fun os started H enc _ => old_lifted os started H enc)
theorem old_row_holds : Rows.ReplayOldSaid := old_over
/-- The tied card, under a short name, for the claim. -/
theorem replayOld_holds : Rows.ReplayOldCardSaid :=
  Claim7.holds_tied_plain_at .later [] [.data, .data] true (true, "04a3da5c009367402185cf112f61fa075c188906c1f425cc0032d89db0e54135") false
    old_over (fun _ h => by cases h) (by kernel_rfl) (fun _ h => by cases h) replayOld_row_tie rfl ⟨rfl, rfl⟩ (by kernel_rfl) rfl
    (fun f fn hf hfn => by
      obtain rfl : f = 5 := Option.some.inj ((show Tryd.prog.funcNamed "reliquary/reliquarylaw14.ReplayOld" = some 5 by kernel_rfl).symm.trans hf) |>.symm
      obtain rfl : fn = Tryd.f5 := (Option.some.inj (Tryd.func5.symm.trans hfn)).symm
      exact ⟨by kernel_rfl, fun j t ht => by
        rw [Tryd.params5] at ht
        have hm : t ∈ [39, 22] := by simpa using Array.mem_of_getElem? ht
        have hall : ([39, 22].all fun u => !Tryd.prog.wantsStandIn u) = true := by kernel_rfl
        exact (show Tryd.prog.wantsStandIn t = false by simpa using List.all_eq_true.1 hall t hm)⟩)
    (by kernel_rfl)
#print axioms replayOld_holds
end Go.Proofs.YtkhebllmnagkmaaDoor
