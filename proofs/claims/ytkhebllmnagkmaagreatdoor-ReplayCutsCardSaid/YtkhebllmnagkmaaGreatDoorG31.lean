/- Contracts and lemmas under the statements of this seat, one behind the other. Conditions: what each names. -/
import Derived.Test.YtkhebllmnagkmaaGreatDoorG30
import Derived.Test.YtkhebllmnagkmaaGreatDoorG17
import Derived.WalkKit
import Derived.ProofKit
/- Contract of the law's stateOf, and the comparison of two equal states of the reference. Conditions: what each names. -/
namespace Go.Proofs.YtkhebllmnagkmaaGreatDoor
open Go.RowKit
set_option linter.unusedVariables false

theorem built_rs (start count : Nat) (tag : List UInt8) (ht : tag.length = 32) :
    Tryz.prog.built 42 [(0, .int .u64 (start : Int)), (1, .int .u64 (count : Int)), (2, .agg (bs tag).toArray)] = some (stCells start count tag).toArray := by
  obtain ⟨h, hh⟩ := list_ofFn 32 tag ht
  clear ht
  subst hh
  kernel_rfl
set_option maxRecDepth 100000 in
set_option maxHeartbeats 4000000 in
theorem stateOf_any (start count : Nat) (tag : List UInt8) (w : World) (ht : tag.length = 32) :
    Calls Tryz.prog 14 #[.agg (stCells start count tag).toArray] w fun e w' => e = .returned (.agg (stCells start count tag).toArray) ∧ Below w.heap.size w w' := by
  have hbuilt := built_rs start count tag ht
  have hsl := stCells_length start count tag
  rw [ht] at hsl
  have hs1 := stCells_one start count tag
  have ksO : ∀ o : Obj, Blk ((w.alloc (.cells (stCells start count tag).toArray 41)).alloc o) w.heap.size 41 (stCells start count tag).toArray := fun o => (Blk.new_of rfl rfl).alloc o
  have q0 : ∀ o : Obj, ((w.alloc (.cells (stCells start count tag).toArray 41)).alloc o).cell? ⟨w.heap.size, 0, none⟩ = some (.int .u64 (start : Int)) := fun o => (ksO o).cell 0
  have q1 : ∀ o : Obj, ((w.alloc (.cells (stCells start count tag).toArray 41)).alloc o).cell? ⟨w.heap.size, 1, none⟩ = some (.int .u64 (count : Int)) := fun o => (ksO o).cell 1
  have rg : ∀ o : Obj, ((w.alloc (.cells (stCells start count tag).toArray 41)).alloc o).rangeAt w.heap.size 2 (bs tag) := fun o j u hj => by
    refine ((ksO o).cell _).trans ?_
    rw [List.getElem?_toArray]
    unfold stCells
    rw [List.getElem?_append_right (by simp)]
    simpa using hj
  have hti : (Tryz.prog.info? 23).map (·.size) = some (bs tag).length := by rw [bs_length, ht]; kernel_rfl
  have hsi : (Tryz.prog.info? 42).map (·.size) = some (stCells start count tag).toArray.size := by rw [List.size_toArray, hsl]; kernel_rfl
  have hsz : st0.toArray.size = (stCells start count tag).toArray.size := by rw [List.size_toArray, List.size_toArray, hsl]; rfl
  have y0 : ∀ o : Obj, Below w.heap.size w ((w.alloc (.cells (stCells start count tag).toArray 41)).alloc o) := fun o => ((Below.refl _ _).alloc (Nat.le_refl _) _).alloc (by simp) _
  generalize stCells start count tag = st at *
  have HB := Lib.hid hbuilt
  have HTI := Lib.hid hti
  have HSI := Lib.hid hsi
  have HSZ := Lib.hid hsz
  have HS1 := Lib.hid hs1
  clear hbuilt hti hsi hsz hs1 hsl ht
  go_enter Tryz.func14, Tryz.ntmps14
  go_wp2_with (first | ((with_reducible refine wpList_load_mid (op := ⟨some 8, _, _, _, _, _⟩) rfl 23 _ rfl w.heap.size 2 rfl (bs tag) _ (rg _) Tryz.underlying23 rfl HTI.out ?_)) | ((refine wpList_build_plain (o := ⟨some 9, _, _, _, _, _⟩) rfl 42 [_, _, _] rfl _ rfl st.toArray HB.out ?_)) | ((refine wpList_store_blk (o := ⟨none, .store 42 (.tmp 2) (.tmp 9), _, _, _, _⟩) rfl 42 (.tmp 2) (.tmp 9) rfl (w.heap.size + 1) st.toArray rfl rfl 42 st0.toArray (Blk.new_of (by simp) rfl) HSI.out HSZ.out HS1.out ?_); intro w3 k3 g3 s3))
  exact ret_cell 2 42 rfl rfl (w.heap.size + 1) 42 _ _ rfl k3 Tryz.underlying42 rfl HSI.out ⟨rfl, (y0 _).grown g3 (y0 _).size (fun k e => by injection e with e; omega)⟩
theorem run_neq_state (W : World) (start count : Nat) (tag : List UInt8) (ht : tag.length = 32) : (binOp .neq 42 (.agg (stCells start count tag).toArray) (.agg (stCells start count tag).toArray)).run Tryz.prog W = .ok (.bool false) W := by
  have h1 := Tryz.underlying42
  have h2 := Tryz.underlying39
  have h3 := Tryz.underlying23
  have hp0 : ∀ W, (part 39 (stCells start count tag).toArray 0).run Tryz.prog W = .ok (.int .u64 (start : Int)) W := fun W => by
    unfold stCells
    simp [part, isAgg, run_underlying h2]
  have hp1 : ∀ W, (part 39 (stCells start count tag).toArray 1).run Tryz.prog W = .ok (.int .u64 (count : Int)) W := fun W => by
    unfold stCells
    simp [part, isAgg, run_underlying h2]
  have hp2 : ∀ W, (part 23 (stCells start count tag).toArray 2).run Tryz.prog W = .ok (.agg (bs tag).toArray) W := fun W => by
    have hag : (isAgg 23).run Tryz.prog W = .ok true W := by simp [isAgg, run_underlying h3]
    have hsz : (sizeOf 23).run Tryz.prog W = .ok 32 W := by simp [go_sem]
    have hx : (stCells start count tag).toArray.extract 2 (2 + 32) = (bs tag).toArray := by
      have hb := bs_length tag
      rw [ht] at hb
      unfold stCells
      generalize bs tag = b at *
      simp [List.extract_toArray, List.extract]
      exact List.take_of_length_le (by omega)
    unfold part
    rw [Sem.run_bind, hag, Result.andThen_ok]
    simp only [if_true, Sem.run_bind, hsz, Result.andThen_ok, Sem.run_pure, hx]
  have he := fun W => run_equalIn_bytes (P := Tryz.prog) W 9997 23 5 32 Tryz.underlying23 Tryz.underlying5 (fun w => by simp [go_sem]) tag tag ht ht
  rw [show (tag.map Extern.Stop.cell).toArray = (bs tag).toArray from rfl] at he
  have hun : Tryz.prog.underlying 42 = some (.struct (Tryz.prog.fieldsOf 42)) := by kernel_rfl
  have hst : Tryz.prog.stoodInHeld 42 = false := by kernel_rfl
  have hfl : (Tryz.prog.fieldsOf 42).toList = [⟨"Start", 39, 0, false, "", "", 0⟩, ⟨"Count", 39, 1, false, "", "", 8⟩, ⟨"Tag", 23, 2, false, "", "", 16⟩] := by kernel_rfl
  have hi := fun W x => run_equalIn_int (P := Tryz.prog) W 9998 39 .u64 .u64 x x h2
  generalize (stCells start count tag).toArray = st at *
  generalize (bs tag).toArray = bt at *
  rw [run_neq_struct, run_equalIn_agg W 9999 42 _ _ hun hst, hfl]
  have n0 : ("Start" : String) ≠ "_" := by decide
  have n1 : ("Count" : String) ≠ "_" := by decide
  have n2 : ("Tag" : String) ≠ "_" := by decide
  clear hun hst hfl
  simp only [Op.eqFields, if_pos n0, if_pos n1, if_pos n2, Sem.run_bind, hp0, hp1, hp2, hi, he, Result.andThen_ok, beq_self_eq_true, Bool.not_true, Bool.false_eq_true, if_false, Sem.run_pure]
end Go.Proofs.YtkhebllmnagkmaaGreatDoor
/- ReplayCuts, the plain part: what the reference's disk holds is what the program's holds. No condition beyond what each names. -/
namespace Go.Proofs.YtkhebllmnagkmaaGreatDoor
open Go.RowKit
set_option linter.unusedVariables false

theorem readR_readAt (D : Dk) (m i : Nat) (h : D.places = List.replicate m zeros192) (hi : i < m) : readR [] D.way i = readAt D i := by
  unfold readR readAt lastW
  rw [h]
  cases List.find? (fun p => p.1 == i) D.way.reverse with
  | some p => rfl
  | none =>
    show zeros192 = (List.replicate m zeros192).getD i []
    rw [List.getD_eq_getElem?_getD, List.getElem?_replicate, if_pos hi]
    rfl
theorem rSlots_ldSlots (D : Dk) (m first size start n : Nat) (h : D.places = List.replicate m zeros192) (h1 : 1 ≤ size) (h2 : first + size ≤ m) : rSlots [] D.way first size start n = ldSlots D first size start n := by
  unfold rSlots ldSlots
  refine List.map_congr_left fun k _ => ?_
  rw [readR_readAt D m _ h]
  have := Nat.mod_lt (start + k) (show 0 < size by omega)
  unfold ldPlace
  omega
end Go.Proofs.YtkhebllmnagkmaaGreatDoor
/- What the laws of the Door seat share: the program's switches, the door's own heap, arrays that come in. No condition beyond what each names. -/
namespace Go.Proofs.YtkhebllmnagkmaaGreatDoor
open Go.ChangeShapes Go.WideShapes Go.ChangeAt Go.RowKit
set_option linter.unusedVariables false
theorem okWide_array {P : Program} {w : World} {r : Reach} {base : Nat} {t : TypeId} {v : Value} {n : Nat} {e : TypeId} (ht : P.underlying t = some (.array n e)) (h : Value.okWide P w r base t v) : ∃ cs, v = .agg cs ∧ cs.size = P.cellsOf t := by
  simp only [Value.okWide, ht] at h
  obtain ⟨cs, h1, h2, _⟩ := h
  exact ⟨cs, h1, h2⟩
section
variable {H : Type} {enc : TypeId × Value → H} {W : World}
/-- A key that comes in: thirty-two bytes. -/
theorem open_key {fuel : Nat} {cs : List Value} {x : DataW H × List MemPlace} (h : DataW.trod enc Tryz.prog W 0 (fun _ => true) true fuel 23 cs = some x) : ∃ key : List UInt8, key.length = 32 ∧ cs = bs key := by
  obtain ⟨zs, hz, _, hc, hw⟩ := open_arr_ints Tryz.underlying23 Tryz.underlying5 (by kernel_rfl) (by kernel_rfl) h
  refine ⟨zs.map fun z => UInt8.ofNat z.toNat, by rw [List.length_map]; exact hz, ?_⟩
  rw [hc]
  refine List.ext_getElem? fun i => ?_
  rw [bs_get, List.getElem?_map, List.getElem?_map]
  cases hi : zs[i]? with
  | none => rfl
  | some z =>
    have hb := bounds_u8 (hw z (List.mem_of_getElem? hi))
    simp only [Option.map_some, Option.some.injEq]
    congr 1
    rw [UInt8.toNat_ofNat']
    omega
end
theorem ownD : ownKnob Tryz.prog.godebug = none := by kernel_rfl
theorem laidOutD : laidOutB Tryz.prog = true := by kernel_rfl
/-- The door's own heap meets the condition: closed facts. -/
theorem doorMet (os : Os) (args : Array Value) : laidMetH Tryz.prog laid2 ((World.doorLaid Tryz.prog 400 os).forCall (fun _ _ => 0) ⟨#[], args, []⟩).memory :=
  laidMetH_of_parts3 (fuel := 8) (laidMet_of_run' 8 (by kernel_rfl) (by kernel_rfl)) (by kernel_rfl) (by kernel_rfl)
end Go.Proofs.YtkhebllmnagkmaaGreatDoor
