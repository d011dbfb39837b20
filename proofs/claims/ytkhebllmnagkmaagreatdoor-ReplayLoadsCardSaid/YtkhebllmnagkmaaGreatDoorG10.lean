/- Contracts and lemmas under the statements of this seat, one behind the other. Conditions: what each names. -/
import Derived.Test.YtkhebllmnagkmaaGreatDoorG9
import Derived.Laws.Tables
/- Contracts of the package journal: may, Room, State, Adopt, New. Conditions: what each names. -/
namespace Go.Proofs.YtkhebllmnagkmaaGreatDoor
open Go.RowKit
set_option linter.unusedVariables false

/-! ### the journal in memory -/
structure Jr where
  first : Nat
  size : Nat
  start : Nat
  count : Nat
  next : Nat
  limit : Nat
  key : List UInt8
  tag : List UInt8
def stCells (start count : Nat) (tag : List UInt8) : List Value := [.int .u64 (start : Int), .int .u64 (count : Int)] ++ bs tag
def jrHead (gd : Nat) (J : Jr) : List Value := [Value.pointer (some ⟨gd, 0, none⟩)] ++ bs J.key ++ [.int .i64 (J.first : Int), .int .u64 (J.size : Int)]
def jrCells (gd : Nat) (J : Jr) : List Value := jrHead gd J ++ (stCells J.start J.count J.tag ++ [.int .u64 (J.next : Int), .int .u64 (J.limit : Int)])
structure JAt (w : World) (gj gd : Nat) (J : Jr) : Prop where
  blk : Blk w gj 89 (jrCells gd J).toArray
  hk : J.key.length = 32
  ht : J.tag.length = 32
theorem stCells_length (a b : Nat) (tag : List UInt8) : (stCells a b tag).length = 2 + tag.length := by simp [stCells, bs_length]; omega
theorem stCells_one (a b : Nat) (tag : List UInt8) : (stCells a b tag).toArray.all (·.oneCell') = true := by
  rw [Array.all_eq_true_iff_forall_mem]
  intro x hx
  simp only [List.mem_toArray, stCells, List.mem_append, List.mem_cons, List.not_mem_nil, or_false] at hx
  rcases hx with (rfl | rfl) | hx
  · rfl
  · rfl
  · exact bs_one x hx
theorem jrHead_length (gd : Nat) (J : Jr) (hk : J.key.length = 32) : (jrHead gd J).length = 35 := by simp [jrHead, bs_length, hk]
section
variable {w w' : World} {gj gd : Nat} {J : Jr}
theorem JAt.at_ (h : JAt w gj gd J) (i : Nat) (v : Value) (hv : (jrCells gd J)[i]? = some v) : w.cell? ⟨gj, i, none⟩ = some v := (h.blk.cell i).trans (by rw [List.getElem?_toArray]; exact hv)
theorem JAt.c0 (h : JAt w gj gd J) : w.cell? ⟨gj, 0, none⟩ = some (.pointer (some ⟨gd, 0, none⟩)) := h.at_ 0 _ rfl
theorem JAt.c33 (h : JAt w gj gd J) : w.cell? ⟨gj, 33, none⟩ = some (.int .i64 (J.first : Int)) := h.at_ 33 _ (by unfold jrCells; rw [List.getElem?_append_left (by rw [jrHead_length _ _ h.hk]; omega)]; unfold jrHead; rw [List.getElem?_append_right (by simp [bs_length, h.hk])]; simp [bs_length, h.hk])
theorem JAt.c34 (h : JAt w gj gd J) : w.cell? ⟨gj, 34, none⟩ = some (.int .u64 (J.size : Int)) := h.at_ 34 _ (by unfold jrCells; rw [List.getElem?_append_left (by rw [jrHead_length _ _ h.hk]; omega)]; unfold jrHead; rw [List.getElem?_append_right (by simp [bs_length, h.hk])]; simp [bs_length, h.hk])
theorem JAt.tail (h : JAt w gj gd J) (i : Nat) (v : Value) (hv : (stCells J.start J.count J.tag ++ [Value.int .u64 (J.next : Int), .int .u64 (J.limit : Int)])[i]? = some v) : w.cell? ⟨gj, 35 + i, none⟩ = some v :=
  h.at_ _ _ (by unfold jrCells; rw [List.getElem?_append_right (by rw [jrHead_length _ _ h.hk]; omega), jrHead_length _ _ h.hk, Nat.add_sub_cancel_left]; exact hv)
theorem JAt.c35 (h : JAt w gj gd J) : w.cell? ⟨gj, 35, none⟩ = some (.int .u64 (J.start : Int)) := h.tail 0 _ rfl
theorem JAt.c36 (h : JAt w gj gd J) : w.cell? ⟨gj, 36, none⟩ = some (.int .u64 (J.count : Int)) := h.tail 1 _ rfl
theorem JAt.c69 (h : JAt w gj gd J) : w.cell? ⟨gj, 69, none⟩ = some (.int .u64 (J.next : Int)) := h.tail 34 _ (by rw [List.getElem?_append_right (by rw [stCells_length, h.ht]; omega), stCells_length, h.ht]; rfl)
theorem JAt.c70 (h : JAt w gj gd J) : w.cell? ⟨gj, 70, none⟩ = some (.int .u64 (J.limit : Int)) := h.tail 35 _ (by rw [List.getElem?_append_right (by rw [stCells_length, h.ht]; omega), stCells_length, h.ht]; rfl)
theorem JAt.st (h : JAt w gj gd J) : w.rangeAt gj 35 (stCells J.start J.count J.tag) := fun j v hj => h.tail j v (by
  rw [List.getElem?_append_left (List.getElem?_eq_some_iff.1 hj).1]
  exact hj)
theorem JAt.key_ (h : JAt w gj gd J) : w.rangeAt gj 1 (bs J.key) := fun j v hj => h.at_ (1 + j) v (by
  have hl := (List.getElem?_eq_some_iff.1 hj).1
  rw [bs_length, h.hk] at hl
  unfold jrCells
  rw [List.getElem?_append_left (by rw [jrHead_length _ _ h.hk]; omega)]
  unfold jrHead
  rw [List.getElem?_append_left (by simp [bs_length, h.hk]; omega), List.getElem?_append_right (by simp), List.length_singleton, Nat.add_sub_cancel_left]
  exact hj)
theorem JAt.keep (h : JAt w gj gd J) (hk : w'.heap[gj]? = w.heap[gj]?) : JAt w' gj gd J := ⟨hk.trans h.blk, h.hk, h.ht⟩
theorem JAt.under (h : JAt w gj gd J) (hb : Below w.heap.size w w') : JAt w' gj gd J := h.keep (hb.block gj h.blk.lt)
theorem JAt.alloc (h : JAt w gj gd J) (o : Obj) : JAt (w.alloc o) gj gd J := h.under ((Below.refl _ _).alloc (Nat.le_refl _) _)
theorem JAt.drew (h : JAt w gj gd J) : JAt w.drew gj gd J := h.under (Below.refl _ _).drew
end

/-! ### may, Room -/
theorem may_yes (start count size : Nat) (tag : List UInt8) (w : World) (h1 : start < size) (h2 : count ≤ size) :
    Calls Tryz.prog 32 #[.agg (stCells start count tag).toArray, .int .u64 (size : Int)] w fun e w' => e = .returned (.bool true) ∧ Below w.heap.size w w' := by
  have k0 : Blk (w.alloc (.cells (stCells start count tag).toArray 41)) w.heap.size 41 (stCells start count tag).toArray := Blk.new _ _ _
  have c0 : (w.alloc (.cells (stCells start count tag).toArray 41)).cell? ⟨w.heap.size, 0, none⟩ = some (.int .u64 (start : Int)) := k0.cell 0
  have c1 : (w.alloc (.cells (stCells start count tag).toArray 41)).cell? ⟨w.heap.size, 1, none⟩ = some (.int .u64 (count : Int)) := k0.cell 1
  have y0 : Below w.heap.size w (w.alloc (.cells (stCells start count tag).toArray 41)) := (Below.refl _ _).alloc (Nat.le_refl _) _
  have g1 : (start : Int) < size := by omega
  have g2 : (count : Int) ≤ size := by omega
  generalize (stCells start count tag).toArray = st at *
  go_enter Tryz.func32, Tryz.ntmps32
  go_wp2
  go_ret
  exact ⟨rfl, y0⟩
set_option maxRecDepth 100000 in
theorem room_any (gj gd : Nat) (J : Jr) (w : World) (h : JAt w gj gd J) (hc : J.count ≤ J.size) (hs : J.size < 18446744073709551616) :
    Calls Tryz.prog 34 #[.pointer (some ⟨gj, 0, none⟩)] w fun e w' => e = .returned (.int .u64 ((J.size - J.count : Nat) : Int)) ∧ ∃ m, w' = w.drewN m := by
  have c1 := h.c34
  have c2 := h.c36
  generalize J.size = s at *
  generalize J.count = c at *
  have hsub : ((s - c : Nat) : Int) = (s : Int) - (c : Int) := by omega
  rw [hsub]
  have hw : IntKind.u64.wrap ((s : Int) - (c : Int)) = (s : Int) - (c : Int) := by rw [IntKind.wrap_u64]; omega
  clear h hsub
  go_enter Tryz.func34, Tryz.ntmps34
  go_wp2
  go_region_held3 (fun w' => w'.cell? ⟨gj, 34, none⟩ = some (.int .u64 (s : Int)) ∧ w'.cell? ⟨gj, 36, none⟩ = some (.int .u64 (c : Int))) (exact ⟨c1, c2⟩) (fail)
  clear hw
  go_wp2
  go_ret
  exact ⟨rfl, 1, rfl⟩

end Go.Proofs.YtkhebllmnagkmaaGreatDoor
/- Contract of journal.New. Conditions: what each names. -/
namespace Go.Proofs.YtkhebllmnagkmaaGreatDoor
open Go.RowKit
set_option linter.unusedVariables false

theorem list_ofFn {α : Type} (n : Nat) (l : List α) (h : l.length = n) : ∃ f : Fin n → α, l = List.ofFn f := by
  subst h
  exact ⟨fun i => l[i], (List.ofFn_getElem).symm⟩
theorem built_jr (gd : Nat) (J : Jr) (hk : J.key.length = 32) (ht : J.tag.length = 32) :
    Tryz.prog.built 89 [(0, .pointer (some ⟨gd, 0, none⟩)), (1, .agg (bs J.key).toArray), (2, .int .i64 (J.first : Int)), (3, .int .u64 (J.size : Int)), (4, .agg (stCells J.start J.count J.tag).toArray), (5, .int .u64 (J.next : Int)), (6, .int .u64 (J.limit : Int))] = some (jrCells gd J).toArray := by
  obtain ⟨first, size, start, count, next, limit, key, tag⟩ := J
  obtain ⟨f, hf⟩ := list_ofFn 32 key hk
  obtain ⟨h, hh⟩ := list_ofFn 32 tag ht
  clear hk ht
  subst hf hh
  kernel_rfl
theorem wpList_load_mid_w {P : Program} {ops : Array Oper} {rest : List Oper} {op : Oper} {a : Act} {w : World} {Q : Exit → Act → World → Prop} (hw : Region.wanted op (yielded ops a.tmps) = true) (ty : TypeId) (x : Operand) (ho : op.op = .load ty x)
    (b o : Nat) (hx : a.eval x = .pointer (some ⟨b, o, none⟩)) (cs : List Value) (d : TypeDesc) (hc : w.rangeAt b o cs)
    (hu : P.underlying ty = some d) (hd : d.isRow = true) (hi : (P.info? ty).map (·.size) = some cs.length)
    (h : wpList P ops Q rest (a.put op.dst (.agg cs.toArray)) w) : wpList P ops Q (op :: rest) a w := by
  unfold wpList
  rw [if_pos hw]
  exact .inl (wp_load_mid ty x ho b o hx cs d hc hu hd hi h)
theorem wpList_build_plain {P : Program} {ops : Array Oper} {rest : List Oper} {o : Oper} {a : Act} {w : World} {Q : Exit → Act → World → Prop} (hgd : o.guard = none) (t : TypeId) (parts : List (Nat × Operand)) (ho : o.op = .build t parts.toArray)
    (vs : List (Nat × Value)) (hv : parts.map (fun p => (p.1, a.eval p.2)) = vs) (cells : Array Value) (hb : P.built t vs = some cells)
    (h : wpList P ops Q rest (a.put o.dst (.agg cells)) w) : wpList P ops Q (o :: rest) a w := by
  refine wpList_plain hgd fun K hK' => ?_
  have hrun := run_build (P := P) w t vs.toArray cells (by simpa using hb)
  unfold Oper.wp
  have he : (execOp a.eval o).run P w = .ok (.value (.agg cells)) w := by
    subst hv
    unfold execOp
    simp only [ho]
    rw [List.map_toArray, Sem.run_bind, hrun]
    rfl
  rw [he]
  exact hK' _ _ h
set_option maxRecDepth 100000 in
set_option maxHeartbeats 2000000 in
theorem jnew_any (gd : Nat) (F : Nat → Prop) (D : Dk) (J : Jr) (w : World) (hD : Disk w gd F D) (hk : J.key.length = 32) (ht : J.tag.length = 32) (h1 : 1 ≤ J.size) (h2 : J.first + J.size ≤ D.places.length) (hp : D.places.length ≤ 1048576) (h3 : J.start < J.size) (h4 : J.count ≤ J.size) (h5 : 1 ≤ J.next) (h6 : J.limit ≤ 9223372036854775807) :
    Calls Tryz.prog 8 #[.pointer (some ⟨gd, 0, none⟩), .agg (bs J.key).toArray, .int .i64 (J.first : Int), .int .i64 (J.size : Int), .agg (stCells J.start J.count J.tag).toArray, .int .u64 (J.next : Int), .int .u64 (J.limit : Int)] w fun e w' =>
      ∃ gj, e = .returned (.tuple #[.pointer (some ⟨gj, 0, none⟩), .int .i64 0]) ∧ w.heap.size ≤ gj ∧ JAt w' gj gd J ∧ Below w.heap.size w w' := by
  have hsize := fun W hD => dsize_any gd F D W hD
  have hmay := fun W => may_yes J.start J.count J.size J.tag W h3 h4
  have hbuilt := built_jr gd J hk ht
  obtain ⟨W0, hW0⟩ : ∃ W0 : World, W0 = (w.alloc (.cells (bs J.key).toArray 23)).alloc (.cells (stCells J.start J.count J.tag).toArray 41) := ⟨_, rfl⟩
  have y0 : Below w.heap.size w W0 := by rw [hW0]; exact ((Below.refl _ _).alloc (Nat.le_refl _) _).alloc (by simp) _
  have hs0 : W0.heap.size = w.heap.size + 2 := by rw [hW0]; simp
  have kk : Blk W0 w.heap.size 23 (bs J.key).toArray := by rw [hW0]; exact (Blk.new_of rfl rfl).alloc _
  have ks : Blk W0 (w.heap.size + 1) 41 (stCells J.start J.count J.tag).toArray := by rw [hW0]; exact Blk.new_of (by simp) rfl
  have hD0 : Disk W0 gd F D := hD.under y0
  have hsl := stCells_length J.start J.count J.tag
  rw [ht] at hsl
  have hkl : (bs J.key).length = 32 := by rw [bs_length, hk]
  have hjl : (jrCells gd J).length = 71 := by unfold jrCells; rw [List.length_append, jrHead_length _ _ hk, List.length_append, hsl]; rfl
  have hfin : ∀ W' gj, Blk W' gj 89 (jrCells gd J).toArray → JAt W' gj gd J := fun W' gj hb => ⟨hb, hk, ht⟩
  generalize hkey : bs J.key = key at *
  generalize hst : stCells J.start J.count J.tag = st at *
  generalize hcs : jrCells gd J = cs at *
  have HK := Lib.hid hkl
  have HSL := Lib.hid hsl
  have HJL := Lib.hid hjl
  have HS0 := Lib.hid hs0
  have HKEY := Lib.hid hkey
  have HST := Lib.hid hst
  have HCS := Lib.hid hcs
  have g1 : ¬ (J.first : Int) < 0 := by omega
  have g2 : ¬ (J.size : Int) < 1 := by omega
  have g3 : ¬ (D.places.length : Int) < (J.first : Int) := by omega
  have g4 : ¬ (D.places.length : Int) - (J.first : Int) < (J.size : Int) := by omega
  have g5 : ¬ (J.next : Int) < 1 := by omega
  have g6 : ¬ 9223372036854775807 < (J.limit : Int) := by omega
  have HW0 := Lib.hid hW0
  have HB := Lib.hid hbuilt
  clear hkl hsl hjl hs0 hkey hst hcs hW0 hbuilt hk ht
  have hsz : J.size < 18446744073709551616 := by omega
  have hf2 : J.first ≤ 1048576 := by omega
  have hs2 : J.size ≤ 1048576 := by omega
  generalize J.first = first at *
  generalize J.size = size at *
  generalize J.next = next at *
  generalize J.limit = limit at *
  have d3 : decide (D.places.length < first) = false := decide_eq_false (by omega)
  have d4 : decide ((D.places.length : Int) - (first : Int) < (size : Int)) = false := decide_eq_false (by omega)
  have d5 : decide (next < 1) = false := decide_eq_false (by omega)
  have d6 : decide ((next : Int) < 1) = false := decide_eq_false (by omega)
  have d7 : decide (9223372036854775807 < limit) = false := decide_eq_false (by omega)
  have d8 : decide (9223372036854775807 < (limit : Int)) = false := decide_eq_false (by omega)
  go_enter Tryz.func8, Tryz.ntmps8
  go_wp2_with (first | (go_at_call 31; refine (hsize _ (by rw [← HW0.out]; exact hD0)).mono ?_; rintro e w1 ⟨rfl, rfl⟩) | ((refine wpList_load_mid_w (op := ⟨some 37, _, _, _, _, _⟩) (by rfl) 41 _ rfl (w.heap.size + 1) 0 rfl st _ (by rw [← HW0.out]; exact Blk.range ks) Tryz.underlying41 rfl (by rw [HSL.out]; kernel_rfl) ?_)) | (go_at_call 32; refine (hmay _).mono ?_; rintro e w1 ⟨rfl, b1⟩; rw [← HW0.out] at b1; have kk1 := kk.below b1 kk.lt; have ks1 := ks.below b1 ks.lt) | ((with_reducible refine wpList_load_mid (op := ⟨some 52, _, _, _, _, _⟩) rfl 23 _ rfl w.heap.size 0 rfl key _ (Blk.range kk1) Tryz.underlying23 rfl (by rw [HK.out]; kernel_rfl) ?_)) | ((with_reducible refine wpList_load_mid (op := ⟨some 56, _, _, _, _, _⟩) rfl 41 _ rfl (w.heap.size + 1) 0 rfl st _ (Blk.range ks1) Tryz.underlying41 rfl (by rw [HSL.out]; kernel_rfl) ?_)) | ((refine wpList_build_plain (o := ⟨some 59, _, _, _, _, _⟩) rfl 89 [_, _, _, _, _, _, _] rfl _ rfl cs.toArray HB.out ?_)))
  refine bodyPost_ret (results_tmp2 rfl _ _ _) rfl ?_
  have y1 : Below w.heap.size w w1 := y0.trans (b1.mono y0.size)
  exact ⟨w1.heap.size, rfl, y1.size, hfin _ _ (Blk.new _ _ _), y1.alloc y1.size _⟩
end Go.Proofs.YtkhebllmnagkmaaGreatDoor
/- Contract of the closure of the journal's Append: one record is sealed, linked, written. Conditions: what each names. -/
namespace Go.Proofs.YtkhebllmnagkmaaGreatDoor
open Go.RowKit
set_option linter.unusedVariables false

/-- As Only, but for one block more. -/
structure OnlyBut (F : Nat → Prop) (b : Nat) (w w' : World) : Prop where
  os : w'.os = w.os
  tape : w'.tape = w.tape
  output : w'.output = w.output
  size : w.heap.size ≤ w'.heap.size
  block : ∀ k, k < w.heap.size → k ≠ b → (¬ F k ∨ ∃ t, Kind w k t ∧ t ∉ wet) → w'.heap[k]? = w.heap[k]?
section
variable {F F' : Nat → Prop} {b : Nat} {w w' w1 : World}
theorem OnlyBut.refl (F : Nat → Prop) (b : Nat) (w : World) : OnlyBut F b w w := ⟨rfl, rfl, rfl, Nat.le_refl _, fun _ _ _ _ => rfl⟩
theorem OnlyBut.trans (h : OnlyBut F b w w1) (k : OnlyBut F' b w1 w') (hF : ∀ i, i < w.heap.size → F' i → F i) : OnlyBut F b w w' :=
  ⟨k.os.trans h.os, k.tape.trans h.tape, k.output.trans h.output, Nat.le_trans h.size k.size, fun i hi hb hn =>
    (k.block i (Nat.lt_of_lt_of_le hi h.size) hb (hn.imp (fun hn hf => hn (hF i hi hf)) (fun ⟨t, ht, hw⟩ => ⟨t, ht.same (h.block i hi hb (.inr ⟨t, ht, hw⟩)), hw⟩))).trans (h.block i hi hb hn)⟩
theorem OnlyBut.of_only (h : Only F w w') : OnlyBut F b w w' := ⟨h.os, h.tape, h.output, h.size, fun k hk _ hn => h.block k hk hn⟩
theorem OnlyBut.of_below (h : Below w.heap.size w w') : OnlyBut F b w w' := OnlyBut.of_only (Only.of_below h)
theorem OnlyBut.under (h : OnlyBut F b w w1) (hb : Below w1.heap.size w1 w') : OnlyBut F b w w' := h.trans (OnlyBut.of_below (F := F) hb) (fun _ _ hf => hf)
theorem OnlyBut.only (h : OnlyBut F b w w1) (k : Only F' w1 w') (hF : ∀ i, i < w.heap.size → F' i → F i) : OnlyBut F b w w' := h.trans (OnlyBut.of_only k) hF
theorem OnlyBut.grown (h : OnlyBut F b w w1) (hg : w1.grownBy w' (some b)) : OnlyBut F b w w' := h.trans (F' := F) ⟨hg.os, hg.tape, hg.output, hg.size, fun k hk hb _ => hg.block k hk (fun e => hb (by injection e))⟩ (fun _ _ hf => hf)
/-- Where the one block is new. -/
theorem OnlyBut.only_of (h : OnlyBut F b w1 w') (h0 : Only F w w1) (hb : w.heap.size ≤ b) : Only F w w' :=
  ⟨h.os.trans h0.os, h.tape.trans h0.tape, h.output.trans h0.output, Nat.le_trans h0.size h.size, fun k hk hn =>
    (h.block k (Nat.lt_of_lt_of_le hk h0.size) (by omega) (hn.imp id (fun ⟨t, ht, hw⟩ => ⟨t, ht.same (h0.block k hk (.inr ⟨t, ht, hw⟩)), hw⟩))).trans (h0.block k hk hn)⟩
end
theorem jr_next (gd : Nat) (J : Jr) (hk : J.key.length = 32) (ht : J.tag.length = 32) (n : Nat) : (jrCells gd J).toArray.setIfInBounds 69 (.int .u64 (n : Int)) = (jrCells gd { J with next := n }).toArray := by
  obtain ⟨first, size, start, count, next, limit, key, tag⟩ := J
  obtain ⟨f, hf⟩ := list_ofFn 32 key hk
  obtain ⟨h, hh⟩ := list_ofFn 32 tag ht
  clear hk ht
  subst hf hh
  kernel_rfl
theorem st_count (a c : Nat) (x : Value) (tag : List UInt8) : (stCells a c tag).toArray.setIfInBounds 1 x = ([Value.int .u64 (a : Int), x] ++ bs tag).toArray := by simp [stCells]
theorem DiskAt.keepW {F : Nat → Prop} {w w' : World} {g : Nat} {D : Dk} {vp vu vo : Value} {xp xu xo : List Value} (h : DiskAt w g F D vp vu vo xp xu xo) (hs : w.heap.size ≤ w'.heap.size) (hk : ∀ k t, Kind w k t → ((F k ∧ t ∈ wet ∧ t ≠ 89) ∨ t = 5) → w'.heap[k]? = w.heap[k]?) : DiskAt w' g F D vp vu vo xp xu xo :=
  ⟨(hk g _ h.blk.kind (.inl ⟨h.fg, by decide, by decide⟩)).trans h.blk, h.fg, own_keep h.op (fun k e => hk k _ (own_kind h.op e) (.inl ⟨h.fp k e, by decide, by decide⟩)), h.fp, h.rp.keep hs fun k hK => hk k _ hK (.inr rfl), own_keep h.ou (fun k e => hk k _ (own_kind h.ou e) (.inl ⟨h.fu k e, by decide, by decide⟩)), h.fu,
    h.ru.keep hs fun k hK => hk k _ hK (.inr rfl), own_keep h.oo (fun k e => hk k _ (own_kind h.oo e) (.inl ⟨h.fo k e, by decide, by decide⟩)), h.fo⟩
theorem Disk.keepW {F : Nat → Prop} {w w' : World} {g : Nat} {D : Dk} (h : Disk w g F D) (hs : w.heap.size ≤ w'.heap.size) (hk : ∀ k t, Kind w k t → ((F k ∧ t ∈ wet ∧ t ≠ 89) ∨ t = 5) → w'.heap[k]? = w.heap[k]?) : Disk w' g F D := by
  obtain ⟨vp, vu, vo, xp, xu, xo, h⟩ := h
  exact ⟨vp, vu, vo, xp, xu, xo, h.keepW hs hk⟩
theorem Blk.there_mid {w : World} {g o n : Nat} {t : TypeId} {cs : Array Value} (h : Blk w g t cs) (hn : o + n ≤ cs.size) : w.there g o n := fun j hj =>
  ⟨by rw [h.cell (o + j), Array.getElem?_eq_getElem (by omega)]; rfl, h.frozen (o + j)⟩
theorem Blk.same_ne {w : World} {g k : Nat} {t t' : TypeId} {cs : Array Value} (h : Blk w g t cs) (hk : Kind w k t') (hne : t' ≠ t) : k ≠ g := by
  rintro rfl
  exact hne (hk.uniq h.kind)
set_option maxRecDepth 100000 in
set_option maxHeartbeats 4000000 in
theorem put_any (bj gj gd bs' : Nat) (F : Nat → Prop) (D : Dk) (J : Jr) (start count block : Nat) (tag bytes : List UInt8) (last : Bool) (A : Option Addr) (c : Nat) (w : World)
    (hbj : Blk w bj 36 #[.pointer (some ⟨gj, 0, none⟩)]) (hJ : JAt w gj gd J) (hst : Blk w bs' 41 (stCells start count tag).toArray) (hD : Disk w gd F D) (hFj : ¬ F gj) (htl : tag.length = 32)
    (hdn : D.down = false) (hlf : D.left < 0) (hn1 : D.way.length ≤ 1048576) (hn2 : D.ops ≤ 1048576) (hpl : D.places.length ≤ 1048576)
    (hr : Reads w w.heap.size 1 A 160 (bs bytes)) (hbl : block < 18446744073709551616) (h1 : 1 ≤ J.size) (h2 : J.first + J.size ≤ D.places.length) (h3 : start < J.size) (h4 : count ≤ J.size) (hv0 : 1 ≤ J.next) (hv1 : J.next < 9223372036854775807) (hT : Tabs w) (hgj2 : 1 + 0 < gj) (hbs2 : 1 + 0 < bs') :
    Calls Tryz.prog 35 #[.agg #[.int .u64 (block : Int), .slice A 160 c, .bool last], .pointer (some ⟨bj, 0, none⟩), .pointer (some ⟨bs', 0, none⟩)] w fun e w' => e = .returned (.int .i64 0) ∧
      Blk w' bs' 41 (stCells start (count + 1) (linkB tag (J.first + (start + count) % J.size) (sealB J.key (J.first + (start + count) % J.size) J.next (recB block bytes last)))).toArray ∧ JAt w' gj gd { J with next := J.next + 1 } ∧
      Disk w' gd (more F w.heap.size) { D with way := D.way ++ [(J.first + (start + count) % J.size, sealB J.key (J.first + (start + count) % J.size) J.next (recB block bytes last))], ops := D.ops + 1 } ∧ OnlyBut (fun k => F k ∨ k = gj) bs' w w' := by
  have hmod : (start + count) % J.size < J.size := Nat.mod_lt _ (by omega)
  have hpm : (((start + count) % J.size : Nat) : Int) = ((start : Int) + (count : Int)) % (J.size : Int) := by simp
  obtain ⟨place, hplace⟩ : ∃ place, place = J.first + (start + count) % J.size := ⟨_, rfl⟩
  have hpi : (place : Int) = (J.first : Int) + ((start : Int) + (count : Int)) % (J.size : Int) := by rw [hplace, ← hpm]; simp
  have hplt : place < D.places.length := by omega
  rw [← hplace]
  obtain ⟨W0, hW0⟩ : ∃ W0 : World, W0 = w.alloc (.cells #[.int .u64 (block : Int), .slice A 160 c, .bool last] 95) := ⟨_, rfl⟩
  have y0 : Below w.heap.size w W0 := by rw [hW0]; exact (Below.refl _ _).alloc (Nat.le_refl _) _
  have kr : Blk W0 w.heap.size 95 #[.int .u64 (block : Int), .slice A 160 c, .bool last] := by rw [hW0]; exact Blk.new_of rfl rfl
  have hbj0 := hbj.below y0 hbj.lt
  have hst0 := hst.below y0 hst.lt
  have hJ0 := hJ.under y0
  have a1 : W0.cell? ⟨bj, 0, none⟩ = some (.pointer (some ⟨gj, 0, none⟩)) := hbj0.cell 0
  have a2 := hJ0.c33
  have a3 := hJ0.c34
  have a4 : W0.cell? ⟨bs', 0, none⟩ = some (.int .u64 (start : Int)) := hst0.cell 0
  have a5 : W0.cell? ⟨bs', 1, none⟩ = some (.int .u64 (count : Int)) := hst0.cell 1
  have hwa : IntKind.u64.wrap ((start : Int) + (count : Int)) = (start : Int) + (count : Int) := by rw [IntKind.wrap_u64]; omega
  have hmi : ((start : Int) + (count : Int)) % (J.size : Int) < (J.size : Int) := by rw [← hpm]; omega
  have hmj : (0 : Int) ≤ ((start : Int) + (count : Int)) % (J.size : Int) := by rw [← hpm]; omega
  have hsz0 : ¬ (J.size : Int) = 0 := by omega
  have hsz1 : ¬ J.size = 0 := by omega
  have htm : ((start : Int) + (count : Int)).tmod (J.size : Int) = ((start : Int) + (count : Int)) % (J.size : Int) := Int.tmod_eq_emod_of_nonneg (by omega)
  have hsz2 : ((J.size : Int) == 0) = false := by rw [beq_eq_false_iff_ne]; omega
  have hw5 : IntKind.i64.wrap (place : Int) = (place : Int) := by rw [IntKind.wrap_i64]; omega
  have hw6 : IntKind.u32.wrap (place : Int) = (place : Int) := by rw [IntKind.wrap_u32]; omega
  have hw2 : IntKind.i64.wrap (((start : Int) + (count : Int)) % (J.size : Int)) = ((start : Int) + (count : Int)) % (J.size : Int) := by rw [IntKind.wrap_i64]; omega
  have hw3 : IntKind.i64.wrap ((J.first : Int) + ((start : Int) + (count : Int)) % (J.size : Int)) = (place : Int) := by rw [IntKind.wrap_i64]; omega
  have hw4 : (J.first : Int) + ((start : Int) + (count : Int)) % (J.size : Int) = (place : Int) := hpi.symm
  have HW0 := Lib.hid hW0
  have HPM := Lib.hid hpm
  have HPL := Lib.hid hplace
  have HPI := Lib.hid hpi
  have HDN := Lib.hid hdn
  have HTL := Lib.hid htl
  clear hW0 hpm hplace hpi hdn htl
  go_enter Tryz.func35, Tryz.ntmps35
  go_wp2
  rw [← HW0.out]
  go_region_held3 (fun w' => w'.cell? ⟨bj, 0, none⟩ = some (.pointer (some ⟨gj, 0, none⟩)) ∧ w'.cell? ⟨gj, 33, none⟩ = some (.int .i64 (J.first : Int)) ∧ w'.cell? ⟨gj, 34, none⟩ = some (.int .u64 (J.size : Int)) ∧ w'.cell? ⟨bs', 0, none⟩ = some (.int .u64 (start : Int)) ∧ w'.cell? ⟨bs', 1, none⟩ = some (.int .u64 (count : Int))) (exact ⟨a1, a2, a3, a4, a5⟩) (fail)
  have ydr : Below w.heap.size w W0.drew := y0.drew
  have hk := hJ.hk
  have hrl := recB_length block bytes last
  have hby : bytes.length = 160 := by have := hr.1; rw [bs_length] at this; omega
  rw [hby] at hrl
  have hrp : Reads W0.drew W0.drew.heap.size 1 A 160 (bs bytes) := (hr.below ydr).more ydr.size
  have hput := rput_any block bytes last A c W0.drew hrp hbl
  have q1 : W0.drew.cell? ⟨w.heap.size, 0, none⟩ = some (.int .u64 (block : Int)) := kr.cell 0
  have q2 : W0.drew.cell? ⟨w.heap.size, 1, none⟩ = some (.slice A 160 c) := kr.cell 1
  have q3 : W0.drew.cell? ⟨w.heap.size, 2, none⟩ = some (.bool last) := kr.cell 2
  have hplace32 : place < 4294967296 := by omega
  have hsl : sealB J.key place J.next (recB block bytes last) = sealB J.key place J.next (recB block bytes last) := rfl
  have hslen := sealB_length J.key place J.next (recB block bytes last)
  have hseal := fun W A c h hT => seal_any J.key (recB block bytes last) place J.next A c W h (.inr hrl) hk hplace32 (by omega) (by omega) hT
  generalize hslot : sealB J.key place J.next (recB block bytes last) = slot at *
  generalize hrb : recB block bytes last = rb at *
  have HSLOT := Lib.hid hslot
  have HRB := Lib.hid hrb
  have HSL := Lib.hid hslen
  have HRL := Lib.hid hrl
  clear hsl hslot hrb hslen hrl hwa hmi hmj hsz0 hsz1 hsz2 hw2 hw3 hw4 hw5 htm a1 a2 a3 a4 a5 hby
  go_wp2_with (go_at_call 36; refine hput.mono ?_; rintro e w1 ⟨v1, rfl, hv1, b1⟩; obtain ⟨A1, c1, rfl⟩ := hv1.shape)
  have y1 : Below w.heap.size w w1 := ydr.trans (b1.mono ydr.size)
  have hJ1 : JAt w1.drew gj gd J := (hJ.under y1).drew
  have hbj1 : Blk w1.drew bj 36 #[.pointer (some ⟨gj, 0, none⟩)] := (hbj.below y1 hbj.lt).drew
  have r1 : Reads w1.drew w1.drew.heap.size 1 A1 rb.length (bs rb) := hv1.reads
  have hT1 : Tabs w1.drew := (hT.under y1).drew
  have d1 : w1.drew.cell? ⟨bj, 0, none⟩ = some (.pointer (some ⟨gj, 0, none⟩)) := hbj1.cell 0
  have d2 := hJ1.c69
  have d3 := hJ1.key_
  have l1 := hbj1.lt
  have l2 := hJ1.blk.lt
  have hi39 : (Tryz.prog.info? 23).map (·.size) = some (bs J.key).length := by rw [bs_length, hk]; kernel_rfl
  have hu39 := Tryz.underlying23
  clear q1 q2 q3 hput hrp kr
  go_region_held3 (fun w' => w'.cell? ⟨bj, 0, none⟩ = some (.pointer (some ⟨gj, 0, none⟩)) ∧ w'.cell? ⟨gj, 69, none⟩ = some (.int .u64 (J.next : Int)) ∧ w'.rangeAt gj 1 (bs J.key)) (first | (exact ⟨d1, d2, d3⟩) | (exact ⟨e1, e2, e3⟩)) (first | (go_at_call 37; refine (hseal _ A1 c1 r1 hT1).mono ?_; rintro e w2 ⟨g2, rfl, hg2, k2, b2⟩; have e1 := (b2.cell (p := ⟨bj, 0, none⟩) l1).trans d1; have e2 := (b2.cell (p := ⟨gj, 69, none⟩) l2).trans d2; have e3 := range_below d3 b2 l2))
  have y2 : Below w.heap.size w w2 := y1.trans ((below_of_drewN (n := 1) b2).mono y1.size)
  clear hseal d1 d2 d3 hJ1 hbj1 r1 hT1 hi39 hu39
  have hst2 := hst.below y2 hst.lt
  have hJ2 := hJ.under y2
  have hbj2 := hbj.below y2 hbj.lt
  have f1 : w2.cell? ⟨bj, 0, none⟩ = some (.pointer (some ⟨gj, 0, none⟩)) := hbj2.cell 0
  have f2 := hJ2.c69
  have f3 := hJ2.blk.frozen 69
  have n1 : bj ≠ gj := fun e => by subst e; exact absurd (hbj2.kind.uniq hJ2.blk.kind) (by decide)
  have n2 : bs' ≠ gj := fun e => by subst e; exact absurd (hst2.kind.uniq hJ2.blk.kind) (by decide)
  have n3 : bj ≠ bs' := fun e => by subst e; exact absurd (hbj2.kind.uniq hst2.kind) (by decide)
  have n4 : gj ≠ bs' := n2.symm
  have n5 : gj ≠ bj := n1.symm
  have n6 : bs' ≠ bj := n3.symm
  have f4 : w2.cell? ⟨bs', 1, none⟩ = some (.int .u64 (count : Int)) := hst2.cell 1
  have f5 := hst2.frozen 1
  have ex : ((J.next : Int) + 1) = ((J.next + 1 : Nat) : Int) := by simp
  have ey : ((count : Int) + 1) = ((count + 1 : Nat) : Int) := by simp
  obtain ⟨W4, hW4⟩ : ∃ W4 : World, W4 = (w2.setCell ⟨gj, 69, none⟩ (.int .u64 ((J.next : Int) + 1))).setCell ⟨bs', 1, none⟩ (.int .u64 ((count : Int) + 1)) := ⟨_, rfl⟩
  have st4 : Blk W4 bs' 41 (stCells start (count + 1) tag).toArray := by
    rw [hW4, ey]
    have h := (hst2.far (p := ⟨gj, 69, none⟩) n2 (.int .u64 ((J.next : Int) + 1))).set_ 1 (.int .u64 ((count + 1 : Nat) : Int))
    rw [st_count] at h
    exact h
  have J4 : JAt W4 gj gd { J with next := J.next + 1 } := by
    refine ⟨?_, hJ.hk, hJ.ht⟩
    rw [hW4, ex]
    have h := (hJ2.blk.set_ 69 (.int .u64 ((J.next + 1 : Nat) : Int))).far (p := ⟨bs', 1, none⟩) n4 (.int .u64 ((count : Int) + 1))
    rw [jr_next gd J hJ.hk hJ.ht] at h
    exact h
  have hs4 : W4.heap.size = w2.heap.size := by rw [hW4]; simp [World.setCell]
  have far4 : ∀ k, k ≠ gj → k ≠ bs' → W4.heap[k]? = w2.heap[k]? := fun k h1 h2 => by rw [hW4]; exact (Below.heap_setCell _ _ _ _ h2).trans (Below.heap_setCell _ _ _ _ h1)
  have O2 : OnlyBut (fun k => F k ∨ k = gj) bs' w w2 := OnlyBut.of_below y2
  have O4 : OnlyBut (fun k => F k ∨ k = gj) bs' w W4 := by
    have h1 := O2.only (Only.setCell (Only.refl (fun k => F k ∨ k = gj) w2) (p := ⟨gj, 69, none⟩) (.inl (.inr rfl)) hJ2.blk.kind (by decide) (.int .u64 ((J.next : Int) + 1))) (fun _ _ hf => hf)
    rw [hW4]
    exact h1.grown (only_setCell (World.grownBy.refl _ _) (.inl rfl) _)
  have bj4 : Blk W4 bj 36 #[.pointer (some ⟨gj, 0, none⟩)] := (far4 bj n1 n3).trans hbj2
  have u8far : ∀ k, Kind w2 k 5 → W4.heap[k]? = w2.heap[k]? := fun k hK => far4 k (hJ2.blk.same_ne hK (by decide)) (hst2.same_ne hK (by decide))
  have r4 : Reads W4 W4.heap.size 1 (some ⟨g2, 0, none⟩) 192 (bs slot) := by
    have h := (Blk.reads (w := W4) ((u8far g2 k2.kind).trans k2))
    rw [HSL.out] at h
    exact h
  have hD2 := hD.under y2
  have hD4 : Disk W4 gd F D := hD2.keepW (by omega) fun k t hK hf => by
    rcases hf with ⟨h1, h2, h3⟩ | h1
    · exact far4 k (fun e => hFj (e ▸ h1)) (fun e => by subst e; exact absurd h2 (hK.uniq hst2.kind ▸ by decide))
    · subst h1; exact u8far k hK
  have T4 : Tabs W4 := by
    have h2 := hT.under y2
    exact ⟨fun i hi => (World.cell?_of_block (a := ⟨1, i, none⟩) (far4 _ (by show 1 ≠ gj; omega) (by show 1 ≠ bs'; omega))).trans (h2.k i hi), fun i hi => (World.cell?_of_block (a := ⟨0, i, none⟩) (far4 _ (by show 0 ≠ gj; omega) (by show 0 ≠ bs'; omega))).trans (h2.q i hi), by rw [hs4]; exact h2.size⟩
  have rg4 : W4.rangeAt bs' 2 (bs tag) := fun j v hj => by
    refine (st4.cell (2 + j)).trans ?_
    rw [List.getElem?_toArray]
    unfold stCells
    rw [List.getElem?_append_right (by simp), List.length_cons, List.length_singleton, Nat.add_sub_cancel_left]
    exact hj
  have HW4 := Lib.hid hW4
  clear hW4
  have htl := HTL.out
  have hlink := link_any tag slot place (some ⟨g2, 0, none⟩) 192 W4 htl hplace32 r4 T4
  have hll := linkB_length tag place slot
  generalize hlk : linkB tag place slot = lk at *
  have HLK := Lib.hid hlk
  have HLL := Lib.hid hll
  have hi39 : (Tryz.prog.info? 23).map (·.size) = some (bs tag).length := by rw [bs_length, htl]; kernel_rfl
  have hi39b : (Tryz.prog.info? 23).map (·.size) = some (bs lk).toArray.size := by rw [List.size_toArray, bs_length, hll]; kernel_rfl
  have HI := Lib.hid hi39
  have HIB := Lib.hid hi39b
  have h1b : (bs lk).toArray.all (·.oneCell') = true := bs_all _
  have HOB := Lib.hid h1b
  clear hlk hll hi39 hi39b h1b htl ex ey hJ0 hst0 hbj0 b1 b2 hv1
  go_wp2_with (first | ((with_reducible refine wpList_load_mid (op := ⟨some 63, _, _, _, _, _⟩) rfl 23 _ rfl bs' 2 rfl (bs tag) _ (by rw [← HW4.out]; exact rg4) Tryz.underlying23 rfl HI.out ?_)) | (go_at_call 16; rw [← HW4.out]; refine hlink.mono ?_; rintro e w5 ⟨rfl, b5⟩; have st5 := st4.below b5 st4.lt; have th5 : w5.there bs' 2 (bs lk).toArray.size := st5.there_mid (by rw [List.size_toArray, List.size_toArray, stCells_length, bs_length, HLL.out, HTL.out]; exact Nat.le_refl _)) | ((with_reducible refine wpList_store_mid (op := ⟨none, .store 23 (.tmp 68) (.tmp 67), _, _, _, _⟩) rfl 23 (.tmp 68) (.tmp 67) rfl bs' 2 (bs lk).toArray rfl rfl th5 HIB.out HOB.out ?_); rw [List.toList_toArray]; have k6 := Blk.put (g := bs') (t := 41) (bs lk) [.int .u64 (start : Int), .int .u64 ((count + 1 : Nat) : Int)] (bs tag) [] w5 (by rw [bs_length, bs_length, HLL.out, HTL.out]) (by rw [List.append_nil]; exact st5); have g6 : w5.grownBy (w5.setCells bs' 2 (bs lk)) (some bs') := grownBy_setCells _ _ _ (World.grownBy.refl _ _); have J6 := (J4.under b5).keep (g6.block gj (J4.under b5).blk.lt (fun e => by injection e with e; exact n4 e)); have bj6 := (bj4.below b5 bj4.lt).grown g6 (fun e => by injection e with e; exact n3 e); have p1 : (w5.setCells bs' 2 (bs lk)).cell? ⟨bj, 0, none⟩ = some (.pointer (some ⟨gj, 0, none⟩)) := bj6.cell 0; have p2 := J6.c0))
  have hD6 : Disk (w5.setCells bs' 2 (bs lk)) gd F D := (hD4.under b5).keepW g6.size (fun k t hK hf => g6.block k hK.lt (fun e => by
    injection e with e
    subst e
    rcases hf with ⟨_, h2, _⟩ | h1
    · rw [hK.uniq st5.kind] at h2
      exact absurd h2 (by decide)
    · subst h1
      exact absurd (hK.uniq st5.kind) (by decide)))
  have kk4 : Blk W4 g2 5 (bs slot).toArray := (u8far g2 k2.kind).trans k2
  have kk6 := (kk4.below b5 kk4.lt).grown g6 (fun e => by injection e with e; subst e; exact absurd (k2.kind.uniq hst2.kind) (by decide))
  have r6 := kk6.reads
  rw [HSL.out] at r6
  refine (dwrite_any gd place F D (some ⟨g2, 0, none⟩) 192 slot _ hD6 HDN.out hlf hplt r6 hn1 hn2).mono ?_
  rintro e w7 ⟨rfl, hD7, hO7⟩
  clear f1 f2 f3 f4 f5 p1 p2 hlink e1 e2 e3 hD6 r6 kk4 kk6
  go_wp2
  go_ret
  have hs6 : (w5.setCells bs' 2 (bs lk)).heap.size ≥ w.heap.size := by have h1 := O4.size; have h2 := b5.size; have h3 := g6.size; omega
  refine ⟨rfl, ?_, J6.keep (hO7.block gj J6.blk.lt (.inl hFj)), ?_, ((O4.under b5).grown g6).only hO7 (fun i hi hf => .inl hf)⟩
  · rw [HRB.out, HSLOT.out, HLK.out]
    have h := hO7.blk k6 (.inr (by decide))
    rw [List.append_nil] at h
    exact h
  · rw [HRB.out, HSLOT.out]
    exact hD7.mono fun k hk hf => hf.imp id (fun h => by omega)
end Go.Proofs.YtkhebllmnagkmaaGreatDoor
