/- Contracts and lemmas under the statements of this seat, one behind the other. Conditions: what each names. -/
import Derived.Test.YtkhebllmnagkmaaDoorG19
import Derived.Test.YtkhebllmnagkmaaDoorG11
import Derived.Test.YtkhebllmnagkmaaDoorG15
import Derived.WalkKit
import Derived.ProofKit
import Derived.Test.YtkhebllmnagkmaaDoorG9
/- Contract of the journal's Adopt, of a state that may be. Conditions: what it names. -/
namespace Go.Proofs.YtkhebllmnagkmaaDoor
open Go.RowKit
set_option linter.unusedVariables false

/-- A call of a function by its contract, as one step of a region that draws its order, its guard let by. -/
theorem step_call_w {P : Program} {ops : Array Oper} {o : Oper} {a : Act} {w : World} {K : Act → World → Prop} {Q : Exit → Act → World → Prop} {E : Prop} (hw : Region.wanted o (yielded ops a.tmps) = true) (f : FuncId) (argOps : List Operand) (tys : Array TypeId)
    (ho : o.op = .call { callee := .value (.func f), args := argOps.toArray, argTypes := tys }) (args : List Value) (ha : argOps.map a.eval = args) (he : ∀ args w, (callFunc f args).run P w = .ok (.enter f args) w) (R : Ending → World → Prop) (hc : Calls P f args.toArray w R)
    (hR : ∀ e w', R e w' → ∃ v, e = .returned v ∧ K (a.put o.dst v) w') : if Region.wanted o (yielded ops a.tmps) = true then Oper.wp P o a w K Q else E := by
  rw [if_pos hw]
  subst ha
  unfold Oper.wp
  have hrun : (execOp a.eval o).run P w = .ok (.enter f (argOps.map a.eval).toArray) w := by
    simp only [execOp, ho, resolve, invoke, Act.eval, go_sem]
    simp [he]
  rw [hrun, Oper.upon_enter]
  refine hc.mono fun e w' h => ?_
  obtain ⟨v, rfl, hk⟩ := hR e w' h
  exact hk
theorem jr_adopt (gd : Nat) (J : Jr) (start count lim : Nat) (tag : List UInt8) (hk : J.key.length = 32) (ht : J.tag.length = 32) (ht2 : tag.length = 32) :
    (jrHead gd J ++ (stCells start count tag ++ [Value.int .u64 (J.next : Int), .int .u64 (J.limit : Int)])).toArray.setIfInBounds 70 (.int .u64 (lim : Int)) = (jrCells gd { J with start := start, count := count, tag := tag, limit := lim }).toArray := by
  unfold jrCells
  rw [List.setIfInBounds_toArray, List.set_append_right _ _ (by rw [jrHead_length _ _ hk]; omega), jrHead_length _ _ hk, List.set_append_right _ _ (by rw [stCells_length, ht2]; omega), stCells_length, ht2]
  rfl
set_option maxRecDepth 100000 in
set_option maxHeartbeats 2000000 in
theorem jadopt_any (gj gd start count lim : Nat) (tag : List UInt8) (J : Jr) (w : World) (h : JAt w gj gd J) (ht : tag.length = 32) (h1 : start < J.size) (h2 : count ≤ J.size) (h3 : lim ≤ 9223372036854775807) :
    Calls Tryd.prog 17 #[.pointer (some ⟨gj, 0, none⟩), .agg (stCells start count tag).toArray, .int .u64 (lim : Int)] w fun e w' => e = .returned (.tuple #[]) ∧ JAt w' gj gd { J with start := start, count := count, tag := tag, limit := lim } ∧ w.grownBy w' (some gj) := by
  have hmay := fun W => may_yes start count J.size tag W h1 h2
  have emay : ∀ args w, (callFunc 31 args).run Tryd.prog w = .ok (.enter 31 args) w := enters_of Tryd.func31 (by kernel_rfl) rfl
  obtain ⟨W0, hW0⟩ : ∃ W0 : World, W0 = w.alloc (.cells (stCells start count tag).toArray 48) := ⟨_, rfl⟩
  have y0 : Below w.heap.size w W0.drew := by rw [hW0]; exact ((Below.refl _ _).alloc (Nat.le_refl _) _).drew
  have hj : JAt W0.drew gj gd J := h.under y0
  have kb : Blk W0.drew w.heap.size 48 (stCells start count tag).toArray := by rw [hW0]; exact (Blk.new_of rfl rfl).drew
  have hl := stCells_length start count tag
  rw [ht] at hl
  have h1s := stCells_one start count tag
  have hcell : ∀ W : World, JAt W gj gd J → W.cell? ⟨gj, 34, none⟩ = some (.int .u64 (J.size : Int)) := fun W hW => hW.c34
  have hadopt := jr_adopt gd J start count lim tag h.hk h.ht ht
  have hfin : ∀ W, Blk W gj 81 (jrCells gd { J with start := start, count := count, tag := tag, limit := lim }).toArray → JAt W gj gd { J with start := start, count := count, tag := tag, limit := lim } := fun W hb => ⟨hb, h.hk, ht⟩
  generalize hst : stCells start count tag = st at *
  have hu := Tryd.underlying48
  have hi48 : (Tryd.prog.info? 48).map (·.size) = some st.length := by rw [hl]; kernel_rfl
  have c34 := hcell _ hj
  have hrg : W0.drew.rangeAt w.heap.size 0 st := Blk.range kb
  have hgl := h.blk.lt
  have HW0 := Lib.hid hW0
  have HL := Lib.hid hl
  have HS := Lib.hid hst
  have HC := Lib.hid hcell
  have hS0 : W0.drew.rangeAt w.heap.size 0 st ∧ W0.drew.cell? ⟨gj, 34, none⟩ = some (.int .u64 (J.size : Int)) := ⟨hrg, c34⟩
  clear hW0 hl hst hcell hu
  have hu := Tryd.underlying48
  go_enter Tryd.func17, Tryd.ntmps17
  go_wp2
  rw [← HW0.out]
  refine wp_region_held_drew (S := fun w' => w'.rangeAt w.heap.size 0 st ∧ w'.cell? ⟨gj, 34, none⟩ = some (.int .u64 (J.size : Int))) (by kernel_rfl) hS0 (fun _ => ?_)
  refine wpAnyH_take (i := 0) (oi := ⟨some 6, _, _, _, _, _⟩) (v := (.pointer (some ⟨gj, 0, none⟩))) rfl (by kernel_rfl) (by kernel_rfl) (by kernel_rfl) (fun _ _ _ h => h) (Or.inl ⟨by rfl, by intro W hS; obtain ⟨s1, s2⟩ := hS; go_simp⟩) hS0 ?_
  simp only [Act.put, List.setIfInBounds_toArray, List.set_cons_zero, List.set_cons_succ]
  refine wpAnyH_take (i := 1) (oi := ⟨some 7, _, _, _, _, _⟩) (v := (.bool true)) rfl (by kernel_rfl) (by kernel_rfl) (by kernel_rfl) (fun _ _ _ h => h) (Or.inl ⟨by rfl, by intro W hS; obtain ⟨s1, s2⟩ := hS; go_simp⟩) hS0 ?_
  simp only [Act.put, List.setIfInBounds_toArray, List.set_cons_zero, List.set_cons_succ]
  refine wpAnyH_take (i := 2) (oi := ⟨some 8, _, _, _, _, _⟩) (v := (.bool true)) rfl (by kernel_rfl) (by kernel_rfl) (by kernel_rfl) (fun _ _ _ h => h) (Or.inl ⟨by rfl, by intro W hS; obtain ⟨s1, s2⟩ := hS; go_simp⟩) hS0 ?_
  simp only [Act.put, List.setIfInBounds_toArray, List.set_cons_zero, List.set_cons_succ]
  refine wpAnyH_take (i := 3) (oi := ⟨some 9, _, _, _, _, _⟩) (v := .agg st.toArray) rfl (by kernel_rfl) (by kernel_rfl) (by kernel_rfl) (fun _ _ _ h => h) (yieldsIf_load_mid (by rfl) 48 _ rfl w.heap.size 0 (by rfl) st _ (fun W h => h.1) hu rfl hi48) hS0 ?_
  simp only [Act.put, List.setIfInBounds_toArray, List.set_cons_zero, List.set_cons_succ]
  refine wpAnyH_take (i := 4) (oi := ⟨some 10, _, _, _, _, _⟩) (v := (.pointer (some ⟨gj, 0, none⟩))) rfl (by kernel_rfl) (by kernel_rfl) (by kernel_rfl) (fun _ _ _ h => h) (Or.inl ⟨by rfl, by intro W hS; obtain ⟨s1, s2⟩ := hS; go_simp⟩) hS0 ?_
  simp only [Act.put, List.setIfInBounds_toArray, List.set_cons_zero, List.set_cons_succ]
  refine wpAnyH_take (i := 5) (oi := ⟨some 11, _, _, _, _, _⟩) (v := (.pointer (some ⟨gj, 0, none⟩))) rfl (by kernel_rfl) (by kernel_rfl) (by kernel_rfl) (fun _ _ _ h => h) (Or.inl ⟨by rfl, by intro W hS; obtain ⟨s1, s2⟩ := hS; go_simp⟩) hS0 ?_
  simp only [Act.put, List.setIfInBounds_toArray, List.set_cons_zero, List.set_cons_succ]
  refine wpAnyH_take (i := 6) (oi := ⟨some 12, _, _, _, _, _⟩) (v := (.pointer (some ⟨gj, 34, none⟩))) rfl (by kernel_rfl) (by kernel_rfl) (by kernel_rfl) (fun _ _ _ h => h) (Or.inl ⟨by rfl, by intro W hS; obtain ⟨s1, s2⟩ := hS; go_simp⟩) hS0 ?_
  simp only [Act.put, List.setIfInBounds_toArray, List.set_cons_zero, List.set_cons_succ]
  refine wpAnyH_take (i := 7) (oi := ⟨some 13, _, _, _, _, _⟩) (v := (.int .u64 (J.size : Int))) rfl (by kernel_rfl) (by kernel_rfl) (by kernel_rfl) (fun _ _ _ h => h) (Or.inl ⟨by rfl, by intro W hS; obtain ⟨s1, s2⟩ := hS; go_simp⟩) hS0 ?_
  simp only [Act.put, List.setIfInBounds_toArray, List.set_cons_zero, List.set_cons_succ]
  refine wpAnyH_ready (rs := [8]) (by kernel_rfl) (by simp) ?_
  refine AllReadyH.cons (o := ⟨some 14, .call { callee := .value (.func 31), args := #[.tmp 9, .tmp 13], argTypes := #[48, 33] }, _, _, _, _⟩) rfl (fun K' hK => ?_) AllReadyH.nil
  refine step_call_w (by rfl) 31 [.tmp 9, .tmp 13] _ rfl [.agg st.toArray, .int .u64 (J.size : Int)] rfl emay _ (hmay _) ?_
  rintro e w1 ⟨rfl, b1⟩
  have hS1 : w1.rangeAt w.heap.size 0 st ∧ w1.cell? ⟨gj, 34, none⟩ = some (.int .u64 (J.size : Int)) := ⟨range_below hrg b1 kb.lt, (b1.cell (p := ⟨gj, 34, none⟩) hj.blk.lt).trans c34⟩
  refine ⟨_, rfl, hK.out _ _ hS1 (fun _ => ?_)⟩
  clear hK
  simp only [Act.put, List.setIfInBounds_toArray, List.set_cons_zero, List.set_cons_succ]
  refine wpAnyH_take (i := 9) (oi := ⟨some 15, _, _, _, _, _⟩) (v := .bool true) rfl (by kernel_rfl) (by kernel_rfl) (by kernel_rfl) (fun _ _ _ h => h) (Or.inl ⟨by rfl, by intro W hS; go_simp⟩) hS1 ?_
  simp only [Act.put, List.setIfInBounds_toArray, List.set_cons_zero, List.set_cons_succ]
  refine wpAnyH_done (by kernel_rfl) ?_ _
  clear hS1
  have kb1 : Blk w1 w.heap.size 48 st.toArray := (b1.block _ kb.lt).trans kb
  have j1 : JAt w1 gj gd J := hj.under b1
  have hmin : IntKind.u64.wrap (lim : Int) = lim := by rw [IntKind.wrap_u64]; omega
  have hmn : min (lim : Int) 9223372036854775807 = lim := by omega
  iterate 10 go_step
  refine wpList_load_blk rfl 48 (.tmp 4) rfl w.heap.size rfl 48 st.toArray _ kb1 hu rfl (by rw [List.size_toArray]; exact hi48) ?_
  go_wp2
  obtain ⟨w2, hw2⟩ : ∃ w2 : World, w2 = w1.setRow gj (jrHead gd J ++ (st ++ [Value.int .u64 (J.next : Int), .int .u64 (J.limit : Int)])).toArray := ⟨_, rfl⟩
  have hsc : (storeCells ⟨gj, 35, none⟩ st).run Tryd.prog w1 = .ok () w2 := by
    have hsz : (jrCells gd J).length = 71 := by simp [jrCells, jrHead_length _ _ j1.hk, stCells_length, j1.ht]
    have := run_storeCells_at (P := Tryd.prog) gj 35 81 st 0 (jrCells gd J).toArray w1 j1.blk (by rw [List.size_toArray, hsz, HL.out]; decide) (fun v hv => by
      have := Array.all_eq_true_iff_forall_mem.1 h1s v (by simpa using hv)
      exact this)
    rw [this, hw2]
    have e1 : (jrCells gd J).take 35 = jrHead gd J := by unfold jrCells; rw [List.take_append_of_le_length (by rw [jrHead_length _ _ j1.hk]; omega), List.take_of_length_le (by rw [jrHead_length _ _ j1.hk]; omega)]
    have e2 : (jrCells gd J).drop (35 + 0 + st.length) = [Value.int .u64 (J.next : Int), .int .u64 (J.limit : Int)] := by
      rw [show 35 + 0 + st.length = 69 by rw [HL.out]]
      unfold jrCells
      rw [← List.append_assoc, List.drop_append_of_le_length (by simp [jrHead_length _ _ j1.hk, stCells_length, j1.ht]), List.drop_of_length_le (by simp [jrHead_length _ _ j1.hk, stCells_length, j1.ht])]
      rfl
    rw [List.toList_toArray, e2, Nat.add_zero, e1, List.append_assoc]
  have k2 : Blk w2 gj 81 (jrHead gd J ++ (st ++ [Value.int .u64 (J.next : Int), .int .u64 (J.limit : Int)])).toArray := by rw [hw2]; exact setRow_heap w1 gj _ _ _ _ j1.blk
  have g2 : w1.grownBy w2 (some gj) := by rw [hw2]; exact grownBy_setRow _ _ _
  have c70 : w2.cell? ⟨gj, 70, none⟩ = some (.int .u64 (J.limit : Int)) := (k2.cell 70).trans (by
    rw [List.getElem?_toArray, List.getElem?_append_right (by rw [jrHead_length _ _ j1.hk]; omega), jrHead_length _ _ j1.hk, List.getElem?_append_right (by rw [HL.out]; decide), HL.out]; rfl)
  have f70 : w2.frozen? ⟨gj, 70, none⟩ = false := k2.frozen 70
  have K2 := Lib.hid k2
  have G2 := Lib.hid g2
  clear hw2 k2 g2
  rw [hsc]
  clear hsc
  go_simp
  go_wp2
  go_end0
  have hB : Blk (w2.setCell ⟨gj, 70, none⟩ (.int .u64 (lim : Int))) gj 81 (jrCells gd { J with start := start, count := count, tag := tag, limit := lim }).toArray := by
    rw [setCell_eq_setRow w2 gj 70 _ _ _ _ K2.out, hadopt]
    exact setRow_heap w2 gj _ _ _ _ K2.out
  exact ⟨rfl, hfin _ hB, only_setCell ((only_of_below (y0.trans (b1.mono y0.size)) _).trans G2.out) (Or.inl rfl) _⟩
end Go.Proofs.YtkhebllmnagkmaaDoor
/- Contracts of record.Of and of the journal's Append, of no image. Conditions: what each names. -/
namespace Go.Proofs.YtkhebllmnagkmaaDoor
open Go.RowKit
set_option linter.unusedVariables false

theorem of_none (A : Option Addr) (c : Nat) (w : World) : Calls Tryd.prog 32 #[.slice A 0 c] w fun e w' => e = .returned (.tuple #[.slice none 0 0, .int .i64 1]) ∧ Below w.heap.size w w' := by
  go_enter Tryd.func32, Tryd.ntmps32
  go_wp2
  go_ret2
  exact ⟨rfl, Below.refl _ _⟩
set_option maxRecDepth 100000 in
set_option maxHeartbeats 4000000 in
theorem append_none (gj : Nat) (A : Option Addr) (c : Nat) (w : World) :
    Calls Tryd.prog 16 #[.pointer (some ⟨gj, 0, none⟩), .slice A 0 c] w fun e w' => e = .returned (.tuple #[.agg st0.toArray, .int .i64 1]) ∧ Below w.heap.size w w' := by
  obtain ⟨W0, hW0⟩ : ∃ W0 : World, W0 = (w.alloc (.cells #[.pointer (some ⟨gj, 0, none⟩)] 44)).alloc (.cells st0.toArray 48) := ⟨_, rfl⟩
  have y0 : Below w.heap.size w W0 := by rw [hW0]; exact ((Below.refl _ _).alloc (Nat.le_refl _) _).alloc (by simp) _
  have kz0 : Blk W0 (w.heap.size + 1) 48 st0.toArray := by rw [hW0]; exact Blk.new_of (by simp) rfl
  have hof := of_none A c W0
  rw [hW0] at hof
  have HW0 := Lib.hid hW0
  clear hW0
  go_enter Tryd.func16, Tryd.ntmps16
  go_wp2_with (first | (go_at_call 32; refine hof.mono ?_; rintro e w1 ⟨rfl, b1⟩; rw [← HW0.out] at b1) | ((with_reducible refine wpList_store_blk (o := ⟨none, .store 48 (.tmp 4) (.tmp 28), _, _, _, _⟩) rfl 48 (.tmp 4) (.tmp 28) rfl (w.heap.size + 1) st0.toArray rfl rfl 48 st0.toArray (kz0.below b1 kz0.lt) (by kernel_rfl) rfl (by kernel_rfl) ?_); intro w3 k3 g3 s3; have S3 := Lib.hid s3; clear s3))
  refine bodyPost_ret (results_row_tmp (fr := (0, 0)) rfl _ _ (w.heap.size + 1) 48 _ _ rfl k3 Tryd.underlying48 rfl (by kernel_rfl)) rfl ?_
  exact ⟨rfl, (y0.trans (b1.mono y0.size)).grown g3 (Nat.le_trans y0.size b1.size) (fun k e => by injection e with e; omega)⟩
end Go.Proofs.YtkhebllmnagkmaaDoor
/- Plain facts of a journal that is filled change by change: its slots, what is read at them, the changes that the records say. No condition. -/
namespace Go.Proofs.YtkhebllmnagkmaaDoor
open Go.RowKit
set_option linter.unusedVariables false

/-- The records of one change. -/
def recL (l : List Img) : List Rec := l.mapIdx fun k p => (p, decide (k + 1 = l.length))
/-- The slots that the records fill, from the ring's start on. -/
def ring (first size start : Nat) (key : List UInt8) (rl : List Rec) : List (Nat × List UInt8) :=
  rl.mapIdx fun k r => (ldPlace first size start k, sealB key (ldPlace first size start k) (1 + k) (recB r.1.1 r.1.2 r.2))
theorem recL_length (l : List Img) : (recL l).length = l.length := by simp [recL]
theorem ring_length (first size start : Nat) (key : List UInt8) (rl : List Rec) : (ring first size start key rl).length = rl.length := by simp [ring]
theorem ring_get (first size start : Nat) (key : List UInt8) (rl : List Rec) (k : Nat) (r : Rec) (h : rl[k]? = some r) : (ring first size start key rl)[k]? = some (ldPlace first size start k, sealB key (ldPlace first size start k) (1 + k) (recB r.1.1 r.1.2 r.2)) := by
  unfold ring
  rw [List.getElem?_mapIdx, h]
  rfl
theorem ring_append (J : Jr) (rl : List Rec) (l : List Img) (hc : J.count = rl.length) (hn : J.next = 1 + rl.length) : ring J.first J.size J.start J.key (rl ++ recL l) = ring J.first J.size J.start J.key rl ++ slotsOf J l := by
  apply List.ext_getElem?
  intro k
  unfold ring slotsOf recL
  rw [List.getElem?_mapIdx, List.getElem?_append, List.getElem?_append, List.length_mapIdx]
  split
  · rw [List.getElem?_mapIdx]
  · rw [List.getElem?_mapIdx, List.getElem?_mapIdx]
    cases hk : l[k - rl.length]? with
    | none => rfl
    | some p =>
      simp only [Option.map_some, Option.some.injEq]
      have e : ldPlace J.first J.size J.start k = placeAt J (k - rl.length) := by unfold ldPlace placeAt; rw [hc]; congr 3; omega
      rw [e, hn]
      congr 2
      omega
theorem tagOf_append (tag : List UInt8) (a b : List (Nat × List UInt8)) : tagOf tag (a ++ b) = tagOf (tagOf tag a) b := by unfold tagOf; rw [List.foldl_append]
theorem ldPlace_inj {first size start j k : Nat} (hj : j < size) (hk : k < size) (h : ldPlace first size start j = ldPlace first size start k) : j = k := by
  unfold ldPlace at h
  have h : (start + j) % size = (start + k) % size := by omega
  have h1 := Nat.div_add_mod (start + j) size
  have h2 := Nat.div_add_mod (start + k) size
  rw [h] at h1
  generalize (start + j) / size = a at h1
  generalize (start + k) / size = b at h2
  rcases Nat.lt_trichotomy a b with h3 | h3 | h3
  · have : size * (a + 1) ≤ size * b := Nat.mul_le_mul_left _ h3
    rw [Nat.mul_add] at this
    omega
  · subst h3; omega
  · have : size * (b + 1) ≤ size * a := Nat.mul_le_mul_left _ h3
    rw [Nat.mul_add] at this
    omega
theorem read_ring (D : Dk) (first size start : Nat) (key : List UInt8) (rl : List Rec) (hw : D.way = ring first size start key rl) (hl : rl.length ≤ size) (k : Nat) (r : Rec) (h : rl[k]? = some r) :
    readAt D (ldPlace first size start k) = sealB key (ldPlace first size start k) (1 + k) (recB r.1.1 r.1.2 r.2) := by
  have hk := (List.getElem?_eq_some_iff.1 h).1
  have hg := ring_get first size start key rl k r h
  unfold readAt
  rw [hw]
  cases hf : (ring first size start key rl).reverse.find? (fun p => p.1 == ldPlace first size start k) with
  | none =>
    have := List.find?_eq_none.1 hf _ (List.mem_reverse.2 (List.mem_of_getElem? hg))
    simp at this
  | some p =>
    have h1 := List.find?_some hf
    have h2 := List.mem_reverse.1 (List.mem_of_find?_eq_some hf)
    obtain ⟨j, hj, hpj⟩ := List.mem_iff_getElem.1 h2
    rw [ring_length] at hj
    have hgj := ring_get first size start key rl j rl[j] (List.getElem?_eq_getElem hj)
    rw [List.getElem?_eq_getElem (by rw [ring_length]; exact hj), hpj] at hgj
    injection hgj with hgj
    subst hgj
    have e := ldPlace_inj (by omega) (by omega) (beq_iff_eq.1 h1)
    subst e
    rw [List.getElem?_eq_getElem hj] at h
    injection h with h
    rw [h]
theorem ldSlots_ring (D : Dk) (first size start : Nat) (key : List UInt8) (rl : List Rec) (hw : D.way = ring first size start key rl) (hl : rl.length ≤ size) : ldSlots D first size start rl.length = ring first size start key rl := by
  apply List.ext_getElem?
  intro k
  by_cases hk : k < rl.length
  · have h := List.getElem?_eq_getElem hk
    rw [ldSlots_get _ _ _ _ _ _ hk, ring_get _ _ _ _ _ _ _ h, read_ring D first size start key rl hw hl k _ h]
  · rw [List.getElem?_eq_none (by rw [ldSlots_length]; omega), List.getElem?_eq_none (by rw [ring_length]; omega)]
theorem recL_snoc (t : List Img) (p : Img) : recL (t ++ [p]) = t.map (fun q => (q, false)) ++ [(p, true)] := by
  apply List.ext_getElem?
  intro k
  unfold recL
  rw [List.getElem?_mapIdx, List.getElem?_append, List.getElem?_append, List.length_map, List.length_append, List.length_singleton]
  split
  · rw [List.getElem?_map, List.getElem?_eq_getElem (by assumption)]
    simp
    omega
  · rcases Nat.eq_or_lt_of_le (Nat.le_of_not_lt (by assumption : ¬ k < t.length)) with h | h
    · subst h; simp
    · rw [List.getElem?_eq_none (by simp; omega), List.getElem?_eq_none (by simp; omega)]; rfl
theorem chg_false (t : List Img) : ∀ s : Chg, (t.map (fun q => ((q, false) : Rec))).foldl chgStep s = ⟨s.out, s.from', s.all ++ t⟩ := by
  induction t with
  | nil => intro s; simp
  | cons q t ih =>
    intro s
    rw [List.map_cons, List.foldl_cons, ih]
    simp [chgStep]
theorem chg_recL (rl : List Rec) (l : List Img) (hl : l ≠ []) (h : (chg rl).from' = (chg rl).all.length) :
    (chg (rl ++ recL l)).out = (chg rl).out ++ [l] ∧ (chg (rl ++ recL l)).from' = (chg (rl ++ recL l)).all.length := by
  rcases List.eq_nil_or_concat l with rfl | ⟨t, p, rfl⟩
  · exact absurd rfl hl
  · rw [List.concat_eq_append, recL_snoc]
    have e : chg (rl ++ (t.map (fun q => ((q, false) : Rec)) ++ [(p, true)])) = chgStep ⟨(chg rl).out, (chg rl).from', (chg rl).all ++ t⟩ (p, true) := by
      unfold chg
      rw [List.foldl_append, List.foldl_append, chg_false]
      rfl
    rw [e]
    have h2 := h
    generalize chg rl = s at *
    obtain ⟨so, sf, sa⟩ := s
    simp only at h2
    subst h2
    refine ⟨?_, ?_⟩
    · simp [chgStep]
    · simp [chgStep]
def recsOf (ll : List (List Img)) : List Rec := (ll.map recL).flatten
theorem recsOf_nil : recsOf [] = [] := rfl
theorem recsOf_snoc (ll : List (List Img)) (l : List Img) : recsOf (ll ++ [l]) = recsOf ll ++ recL l := by unfold recsOf; simp
theorem recsOf_length (ll : List (List Img)) : (recsOf ll).length = ll.flatten.length := by
  induction ll with
  | nil => rfl
  | cons l ll ih =>
    unfold recsOf at ih ⊢
    rw [List.map_cons, List.flatten_cons, List.flatten_cons, List.length_append, List.length_append, ih, recL_length]
theorem chg_recsOf (ll : List (List Img)) (h : ∀ l ∈ ll, l ≠ []) : (chg (recsOf ll)).out = ll ∧ (chg (recsOf ll)).from' = (chg (recsOf ll)).all.length := by
  revert h
  refine snoc_induction (P := fun ll => (∀ l ∈ ll, l ≠ []) → (chg (recsOf ll)).out = ll ∧ (chg (recsOf ll)).from' = (chg (recsOf ll)).all.length) (fun _ => ⟨rfl, rfl⟩) (fun ll l ih h => ?_) ll
  obtain ⟨h1, h2⟩ := ih fun x hx => h x (List.mem_append_left _ hx)
  rw [recsOf_snoc]
  have h3 := chg_recL (recsOf ll) l (h l (by simp)) h2
  rw [h1] at h3
  exact h3
theorem recsOf_last (ll : List (List Img)) (h : ∀ l ∈ ll, l ≠ []) : ∀ r, (recsOf ll)[(recsOf ll).length - 1]? = some r → r.2 = true := by
  rcases List.eq_nil_or_concat ll with rfl | ⟨ls, l, rfl⟩
  · intro r hr; cases hr
  · have hl : l ≠ [] := h l (by simp)
    rcases List.eq_nil_or_concat l with rfl | ⟨t, p, rfl⟩
    · exact absurd rfl hl
    · intro r hr
      rw [List.concat_eq_append, List.concat_eq_append, recsOf_snoc, recL_snoc, ← List.append_assoc] at hr
      rw [List.getElem?_append_right (by simp), List.length_append] at hr
      simp at hr
      rw [← hr]
theorem recsOf_mem (ll : List (List Img)) (r : Rec) (h : r ∈ recsOf ll) : ∃ l ∈ ll, r.1 ∈ l := by
  obtain ⟨x, hx, hr⟩ := List.mem_flatten.1 h
  obtain ⟨l, hl, rfl⟩ := List.mem_map.1 hx
  refine ⟨l, hl, ?_⟩
  obtain ⟨k, hk⟩ := List.getElem?_of_mem hr
  unfold recL at hk
  rw [List.getElem?_mapIdx] at hk
  cases hlk : l[k]? with
  | none => rw [hlk] at hk; cases hk
  | some p =>
    rw [hlk] at hk
    injection hk with hk
    subst hk
    exact List.mem_of_getElem? hlk
end Go.Proofs.YtkhebllmnagkmaaDoor
/- What Append, Adopt, State and Load do at a journal of sixteen slots that is filled change by change. Conditions: what each names. -/
namespace Go.Proofs.YtkhebllmnagkmaaDoor
open Go.RowKit
set_option linter.unusedVariables false

def z32 : List UInt8 := List.replicate 32 0
/-- The journal that holds the records. -/
def jrB (st : Nat) (key : List UInt8) (rl : List Rec) : Jr := ⟨3, 16, st, rl.length, 1 + rl.length, 1099511627776, key, tagOf z32 (ring 3 16 st key rl)⟩
def dkB (st : Nat) (key : List UInt8) (rl : List Rec) : Dk := ⟨List.replicate 20 zeros192, ring 3 16 st key rl, -1, false, rl.length⟩
theorem tagB_len (st : Nat) (key : List UInt8) (rl : List Rec) : (tagOf z32 (ring 3 16 st key rl)).length = 32 := tagOf_length _ _ (by unfold z32; exact List.length_replicate)
theorem ring_snoc (st : Nat) (key : List UInt8) (rl : List Rec) (l : List Img) : ring 3 16 st key (rl ++ recL l) = ring 3 16 st key rl ++ slotsOf (jrB st key rl) l := ring_append (jrB st key rl) rl l rfl rfl
theorem len_snoc (rl : List Rec) (l : List Img) : (rl ++ recL l).length = rl.length + l.length := by rw [List.length_append, recL_length]
theorem back_append (gj gd st : Nat) (key : List UInt8) (rl : List Rec) (F : Nat → Prop) (g o c : Nat) (xs : List Value) (l : List Img) (w : World)
    (hJ : JAt w gj gd (jrB st key rl)) (hD : Disk w gd F (dkB st key rl)) (hFj : ¬ F gj) (hr : Reads w w.heap.size 2 (some ⟨g, o, none⟩) l.length xs) (hi : RowI w xs l) (h160 : ∀ p ∈ l, p.2.length = 160) (h64 : ∀ p ∈ l, p.1 < 18446744073709551616)
    (hl0 : 1 ≤ l.length) (h16 : rl.length + l.length ≤ 16) (hst : st < 16) (hT : Tabs w) (hgj2 : 1 + 0 < gj) (hF2 : ∀ k, F k → 1 + 0 < k) :
    Calls Tryd.prog 16 #[.pointer (some ⟨gj, 0, none⟩), .slice (some ⟨g, o, none⟩) l.length c] w fun e w' =>
      e = .returned (.tuple #[.agg (stCells st (rl ++ recL l).length (tagOf z32 (ring 3 16 st key (rl ++ recL l)))).toArray, .int .i64 0]) ∧
      JAt w' gj gd { jrB st key rl with next := 1 + rl.length + l.length } ∧ Disk w' gd (more F w.heap.size) (dkB st key (rl ++ recL l)) ∧ Only (fun k => F k ∨ k = gj) w w' := by
  have h := append_any gj gd F (dkB st key rl) (jrB st key rl) g o l.length c xs l w hJ hD hFj rfl (by show (-1 : Int) < 0; omega) (by show (ring 3 16 st key rl).length + l.length ≤ 1048576; rw [ring_length]; omega) (by show rl.length + l.length ≤ 1048576; omega) (by show (List.replicate 20 zeros192).length ≤ 1048576; rw [List.length_replicate]; omega)
    hr rfl hi h160 h64 hl0 (by omega) (by show 1 ≤ 16; omega) (by show 3 + 16 ≤ (List.replicate 20 zeros192).length; rw [List.length_replicate]; omega) (by show st < 16; omega) (by show rl.length + l.length ≤ 16; omega) (by show 1 ≤ 1 + rl.length; omega) (by show 1 + rl.length + l.length ≤ 1099511627776; omega) (by show 1099511627776 ≤ 9223372036854775807; omega) hT hgj2 hF2
  refine h.mono fun e w' ⟨h1, h2, h3, h4⟩ => ⟨?_, h2, ?_, h4⟩
  · rw [h1, ring_snoc, tagOf_append, len_snoc]; rfl
  · have e : ({ dkB st key rl with way := (dkB st key rl).way ++ slotsOf (jrB st key rl) l, ops := (dkB st key rl).ops + l.length } : Dk) = dkB st key (rl ++ recL l) := by
      unfold dkB
      rw [ring_snoc, len_snoc]
    rw [e] at h3
    exact h3
theorem back_adopt (gj gd st : Nat) (key : List UInt8) (rl : List Rec) (l : List Img) (w : World) (hJ : JAt w gj gd { jrB st key rl with next := 1 + rl.length + l.length }) (h16 : rl.length + l.length ≤ 16) (hst : st < 16) :
    Calls Tryd.prog 17 #[.pointer (some ⟨gj, 0, none⟩), .agg (stCells st (rl ++ recL l).length (tagOf z32 (ring 3 16 st key (rl ++ recL l)))).toArray, .int .u64 1099511627776] w fun e w' => e = .returned (.tuple #[]) ∧ JAt w' gj gd (jrB st key (rl ++ recL l)) ∧ w.grownBy w' (some gj) := by
  refine (jadopt_any gj gd st (rl ++ recL l).length 1099511627776 (tagOf z32 (ring 3 16 st key (rl ++ recL l))) _ w hJ (tagB_len _ _ _) (by show st < 16; exact hst) (by show (rl ++ recL l).length ≤ 16; rw [len_snoc]; exact h16) (by omega)).mono fun e w' ⟨h1, h2, h3⟩ => ⟨h1, ?_, h3⟩
  have e : ({ jrB st key rl with next := 1 + rl.length + l.length, start := st, count := (rl ++ recL l).length, tag := tagOf z32 (ring 3 16 st key (rl ++ recL l)), limit := 1099511627776 } : Jr) = jrB st key (rl ++ recL l) := by
    unfold jrB
    rw [len_snoc, Nat.add_assoc]
  rw [← e]
  exact h2
theorem zeros_192 : ∀ b ∈ List.replicate 20 zeros192, b.length = 192 := fun b hb => by rw [(List.mem_replicate.1 hb).2]; exact List.length_replicate
theorem ring_192 (st : Nat) (key : List UInt8) (rl : List Rec) : ∀ p ∈ ring 3 16 st key rl, p.2.length = 192 := fun p hp => by
  obtain ⟨k, hk⟩ := List.getElem?_of_mem hp
  have hlt := (List.getElem?_eq_some_iff.1 hk).1
  rw [ring_length] at hlt
  rw [ring_get _ _ _ _ _ k _ (List.getElem?_eq_getElem hlt)] at hk
  injection hk with hk
  rw [← hk]
  exact padB_length _ _
theorem back_load (gd st : Nat) (key : List UInt8) (ll : List (List Img)) (F : Nat → Prop) (w : World) (hD : Disk w gd F (dkB st key (recsOf ll))) (hk : key.length = 32) (h16 : (recsOf ll).length ≤ 16) (hst : st < 16) (hT : Tabs w) (hF2 : ∀ k, F k → 1 + 0 < k)
    (h0 : ∀ l ∈ ll, l ≠ []) (hp : ∀ l ∈ ll, ∀ p ∈ l, p.2.length = 160 ∧ p.1 < 18446744073709551616) :
    Calls Tryd.prog 19 #[.pointer (some ⟨gd, 0, none⟩), .agg (bs key).toArray, .int .i64 3, .int .i64 16, .agg (stCells st (recsOf ll).length (tagOf z32 (ring 3 16 st key (recsOf ll)))).toArray] w fun e w' =>
      (∃ v ys, e = .returned (.tuple #[v, .int .i64 0]) ∧ w'.ownsRow w.heap.size 24 1 v ll.length ys ∧ RowC w' ys ll) ∧ Only F w w' := by
  have hs := ldSlots_ring (dkB st key (recsOf ll)) 3 16 st key (recsOf ll) rfl h16
  have h := load_any gd 3 16 st (recsOf ll).length F (dkB st key (recsOf ll)) key (tagOf z32 (ring 3 16 st key (recsOf ll))) (recsOf ll) w hD hk (tagB_len _ _ _) (by omega) (by show 3 + 16 ≤ (List.replicate 20 zeros192).length; rw [List.length_replicate]; omega) (by show (List.replicate 20 zeros192).length ≤ 1048576; rw [List.length_replicate]; omega) hst h16
    rfl zeros_192 (ring_192 st key _) (by show (ring 3 16 st key (recsOf ll)).length ≤ 1048576; rw [ring_length]; omega) (by show (recsOf ll).length + (recsOf ll).length ≤ 1048576; omega) hT hF2 rfl
    (fun _ => ⟨fun k r hr => by
      obtain ⟨l, hl, hpl⟩ := recsOf_mem ll r (List.mem_of_getElem? hr)
      obtain ⟨p1, p2⟩ := hp l hl _ hpl
      have hlt := (List.getElem?_eq_some_iff.1 hr).1
      exact ⟨p1, p2, 1 + k, by omega, by omega, read_ring (dkB st key (recsOf ll)) 3 16 st key (recsOf ll) rfl h16 k r hr⟩, recsOf_last ll h0⟩)
  refine h.mono fun e w' ⟨h1, h2, h3⟩ => ⟨?_, h3⟩
  rw [hs, (chg_recsOf ll h0).1] at h1
  rcases h1 with ⟨h1, _⟩ | ⟨_, v, ys, h4, h5, h6⟩
  · exact absurd rfl h1
  · exact ⟨v, ys, h4, h5, h6⟩
end Go.Proofs.YtkhebllmnagkmaaDoor
/- What the laws of the Door seat share: the program's switches, the door's own heap, arrays that come in. No condition beyond what each names. -/
namespace Go.Proofs.YtkhebllmnagkmaaDoor
open Go.ChangeShapes Go.WideShapes Go.ChangeAt Go.RowKit
set_option linter.unusedVariables false
theorem okWide_array {P : Program} {w : World} {r : Reach} {base : Nat} {t : TypeId} {v : Value} {n : Nat} {e : TypeId} (ht : P.underlying t = some (.array n e)) (h : Value.okWide P w r base t v) : ∃ cs, v = .agg cs ∧ cs.size = P.cellsOf t := by
  simp only [Value.okWide, ht] at h
  obtain ⟨cs, h1, h2, _⟩ := h
  exact ⟨cs, h1, h2⟩
section
variable {H : Type} {enc : TypeId × Value → H} {W : World}
/-- A key that comes in: thirty-two bytes. -/
theorem open_key {fuel : Nat} {cs : List Value} {x : DataW H × List MemPlace} (h : DataW.trod enc Tryd.prog W 0 (fun _ => true) true fuel 39 cs = some x) : ∃ key : List UInt8, key.length = 32 ∧ cs = bs key := by
  obtain ⟨zs, hz, _, hc, hw⟩ := open_arr_ints Tryd.underlying39 Tryd.underlying5 (by kernel_rfl) (by kernel_rfl) h
  refine ⟨zs.map fun z => UInt8.ofNat z.toNat, by rw [List.length_map]; exact hz, ?_⟩
  rw [hc]
  refine List.ext_getElem? fun i => ?_
  rw [bs_get, List.getElem?_map, List.getElem?_map]
  cases hi : zs[i]? with
  | none => rfl
  | some z =>
    have hb := bounds_u8 (hw z (List.mem_of_getElem? hi))
    simp only [Option.map_some, Option.some.injEq]
    congr 1
    rw [UInt8.toNat_ofNat']
    omega
end
theorem ownD : ownKnob Tryd.prog.godebug = none := by kernel_rfl
theorem laidOutD : laidOutB Tryd.prog = true := by kernel_rfl
/-- The door's own heap meets the condition: closed facts. -/
theorem doorMet (os : Os) (args : Array Value) : laidMetH Tryd.prog laid2 ((World.doorLaid Tryd.prog 400 os).forCall (fun _ _ => 0) ⟨#[], args, []⟩).memory :=
  laidMetH_of_parts3 (fuel := 8) (laidMet_of_run' 8 (by kernel_rfl) (by kernel_rfl)) (by kernel_rfl) (by kernel_rfl)
end Go.Proofs.YtkhebllmnagkmaaDoor
/- What Append, Adopt, State and Load do at a journal anywhere on a disk of twenty places that is filled change by change. Conditions: what each names. -/
namespace Go.Proofs.YtkhebllmnagkmaaDoor
open Go.RowKit
set_option linter.unusedVariables false

/-- The journal that holds the records. -/
def jrG (fi sz st : Nat) (key : List UInt8) (rl : List Rec) : Jr := ⟨fi, sz, st, rl.length, 1 + rl.length, 1099511627776, key, tagOf z32 (ring fi sz st key rl)⟩
def dkG (fi sz st : Nat) (key : List UInt8) (rl : List Rec) : Dk := ⟨List.replicate 20 zeros192, ring fi sz st key rl, -1, false, rl.length⟩
theorem tagG_len (fi sz st : Nat) (key : List UInt8) (rl : List Rec) : (tagOf z32 (ring fi sz st key rl)).length = 32 := tagOf_length _ _ (by unfold z32; exact List.length_replicate)
theorem ringG_snoc (fi sz st : Nat) (key : List UInt8) (rl : List Rec) (l : List Img) : ring fi sz st key (rl ++ recL l) = ring fi sz st key rl ++ slotsOf (jrG fi sz st key rl) l := ring_append (jrG fi sz st key rl) rl l rfl rfl
theorem fill_append (fi sz gj gd st : Nat) (key : List UInt8) (rl : List Rec) (F : Nat → Prop) (g o c : Nat) (xs : List Value) (l : List Img) (w : World)
    (hJ : JAt w gj gd (jrG fi sz st key rl)) (hD : Disk w gd F (dkG fi sz st key rl)) (hFj : ¬ F gj) (hr : Reads w w.heap.size 2 (some ⟨g, o, none⟩) l.length xs) (hi : RowI w xs l) (h160 : ∀ p ∈ l, p.2.length = 160) (h64 : ∀ p ∈ l, p.1 < 18446744073709551616)
    (hl0 : 1 ≤ l.length) (h16 : rl.length + l.length ≤ sz) (hst : st < sz) (hz : fi + sz ≤ 20) (hT : Tabs w) (hgj2 : 1 + 0 < gj) (hF2 : ∀ k, F k → 1 + 0 < k) :
    Calls Tryd.prog 16 #[.pointer (some ⟨gj, 0, none⟩), .slice (some ⟨g, o, none⟩) l.length c] w fun e w' =>
      e = .returned (.tuple #[.agg (stCells st (rl ++ recL l).length (tagOf z32 (ring fi sz st key (rl ++ recL l)))).toArray, .int .i64 0]) ∧
      JAt w' gj gd { jrG fi sz st key rl with next := 1 + rl.length + l.length } ∧ Disk w' gd (more F w.heap.size) (dkG fi sz st key (rl ++ recL l)) ∧ Only (fun k => F k ∨ k = gj) w w' := by
  have h := append_any gj gd F (dkG fi sz st key rl) (jrG fi sz st key rl) g o l.length c xs l w hJ hD hFj rfl (by show (-1 : Int) < 0; omega) (by show (ring fi sz st key rl).length + l.length ≤ 1048576; rw [ring_length]; omega) (by show rl.length + l.length ≤ 1048576; omega) (by show (List.replicate 20 zeros192).length ≤ 1048576; rw [List.length_replicate]; omega)
    hr rfl hi h160 h64 hl0 (by omega) (by show 1 ≤ sz; omega) (by show fi + sz ≤ (List.replicate 20 zeros192).length; rw [List.length_replicate]; omega) (by show st < sz; omega) (by show rl.length + l.length ≤ sz; omega) (by show 1 ≤ 1 + rl.length; omega) (by show 1 + rl.length + l.length ≤ 1099511627776; omega) (by show 1099511627776 ≤ 9223372036854775807; omega) hT hgj2 hF2
  refine h.mono fun e w' ⟨h1, h2, h3, h4⟩ => ⟨?_, h2, ?_, h4⟩
  · rw [h1, ringG_snoc, tagOf_append, len_snoc]; rfl
  · have e : ({ dkG fi sz st key rl with way := (dkG fi sz st key rl).way ++ slotsOf (jrG fi sz st key rl) l, ops := (dkG fi sz st key rl).ops + l.length } : Dk) = dkG fi sz st key (rl ++ recL l) := by
      unfold dkG
      rw [ringG_snoc, len_snoc]
    rw [e] at h3
    exact h3
theorem fill_adopt (fi sz gj gd st : Nat) (key : List UInt8) (rl : List Rec) (l : List Img) (w : World) (hJ : JAt w gj gd { jrG fi sz st key rl with next := 1 + rl.length + l.length }) (h16 : rl.length + l.length ≤ sz) (hst : st < sz) (hz : fi + sz ≤ 20) :
    Calls Tryd.prog 17 #[.pointer (some ⟨gj, 0, none⟩), .agg (stCells st (rl ++ recL l).length (tagOf z32 (ring fi sz st key (rl ++ recL l)))).toArray, .int .u64 1099511627776] w fun e w' => e = .returned (.tuple #[]) ∧ JAt w' gj gd (jrG fi sz st key (rl ++ recL l)) ∧ w.grownBy w' (some gj) := by
  refine (jadopt_any gj gd st (rl ++ recL l).length 1099511627776 (tagOf z32 (ring fi sz st key (rl ++ recL l))) _ w hJ (tagG_len _ _ _ _ _) (by show st < sz; exact hst) (by show (rl ++ recL l).length ≤ sz; rw [len_snoc]; exact h16) (by omega)).mono fun e w' ⟨h1, h2, h3⟩ => ⟨h1, ?_, h3⟩
  have e : ({ jrG fi sz st key rl with next := 1 + rl.length + l.length, start := st, count := (rl ++ recL l).length, tag := tagOf z32 (ring fi sz st key (rl ++ recL l)), limit := 1099511627776 } : Jr) = jrG fi sz st key (rl ++ recL l) := by
    unfold jrG
    rw [len_snoc, Nat.add_assoc]
  rw [← e]
  exact h2
theorem ringG_192 (fi sz st : Nat) (key : List UInt8) (rl : List Rec) : ∀ p ∈ ring fi sz st key rl, p.2.length = 192 := fun p hp => by
  obtain ⟨k, hk⟩ := List.getElem?_of_mem hp
  have hlt := (List.getElem?_eq_some_iff.1 hk).1
  rw [ring_length] at hlt
  rw [ring_get _ _ _ _ _ k _ (List.getElem?_eq_getElem hlt)] at hk
  injection hk with hk
  rw [← hk]
  exact padB_length _ _
theorem fill_load (fi sz gd st : Nat) (key : List UInt8) (ll : List (List Img)) (F : Nat → Prop) (w : World) (hD : Disk w gd F (dkG fi sz st key (recsOf ll))) (hk : key.length = 32) (h16 : (recsOf ll).length ≤ sz) (hst : st < sz) (hz : fi + sz ≤ 20) (hT : Tabs w) (hF2 : ∀ k, F k → 1 + 0 < k)
    (h0 : ∀ l ∈ ll, l ≠ []) (hp : ∀ l ∈ ll, ∀ p ∈ l, p.2.length = 160 ∧ p.1 < 18446744073709551616) :
    Calls Tryd.prog 19 #[.pointer (some ⟨gd, 0, none⟩), .agg (bs key).toArray, .int .i64 (fi : Int), .int .i64 (sz : Int), .agg (stCells st (recsOf ll).length (tagOf z32 (ring fi sz st key (recsOf ll)))).toArray] w fun e w' =>
      (∃ v ys, e = .returned (.tuple #[v, .int .i64 0]) ∧ w'.ownsRow w.heap.size 24 1 v ll.length ys ∧ RowC w' ys ll) ∧ Only F w w' := by
  have hs := ldSlots_ring (dkG fi sz st key (recsOf ll)) fi sz st key (recsOf ll) rfl h16
  have h := load_any gd fi sz st (recsOf ll).length F (dkG fi sz st key (recsOf ll)) key (tagOf z32 (ring fi sz st key (recsOf ll))) (recsOf ll) w hD hk (tagG_len _ _ _ _ _) (by omega) (by show fi + sz ≤ (List.replicate 20 zeros192).length; rw [List.length_replicate]; omega) (by show (List.replicate 20 zeros192).length ≤ 1048576; rw [List.length_replicate]; omega) hst h16
    rfl zeros_192 (ringG_192 fi sz st key _) (by show (ring fi sz st key (recsOf ll)).length ≤ 1048576; rw [ring_length]; omega) (by show (recsOf ll).length + (recsOf ll).length ≤ 1048576; omega) hT hF2 rfl
    (fun _ => ⟨fun k r hr => by
      obtain ⟨l, hl, hpl⟩ := recsOf_mem ll r (List.mem_of_getElem? hr)
      obtain ⟨p1, p2⟩ := hp l hl _ hpl
      have hlt := (List.getElem?_eq_some_iff.1 hr).1
      exact ⟨p1, p2, 1 + k, by omega, by omega, read_ring (dkG fi sz st key (recsOf ll)) fi sz st key (recsOf ll) rfl h16 k r hr⟩, recsOf_last ll h0⟩)
  refine h.mono fun e w' ⟨h1, h2, h3⟩ => ⟨?_, h3⟩
  rw [hs, (chg_recsOf ll h0).1] at h1
  rcases h1 with ⟨h1, _⟩ | ⟨_, v, ys, h4, h5, h6⟩
  · exact absurd rfl h1
  · exact ⟨v, ys, h4, h5, h6⟩
end Go.Proofs.YtkhebllmnagkmaaDoor
/- Contracts of the reference's SHA-256, its small parts: a word turned right, the table of the rounds. No condition beyond what each names. -/
namespace Go.Proofs.YtkhebllmnagkmaaDoor
open Go.RowKit
set_option linter.unusedVariables false

set_option maxRecDepth 100000 in
theorem refRight_any (x n : Nat) (w : World) (hx : x < 4294967296) (h1 : 1 ≤ n) (h31 : n ≤ 31) :
    Calls Tryd.prog 87 #[.int .u32 (x : Int), .int .u64 (n : Int)] w fun e w' => e = .returned (.int .u32 (rotl x (32 - n) : Int)) ∧ w = w' := by
  have hsb : IntKind.u64.wrap (32 - (n : Int)) = 32 - (n : Int) := by rw [IntKind.wrap_u64]; omega
  have ht : (32 - (n : Int)).toNat = 32 - n := by omega
  have h0 : (0 : Int) ≤ 32 - (n : Int) := by omega
  go_enter Tryd.func87, Tryd.ntmps87
  go_wp2
  go_ret
  refine ⟨ret_int ?_, rfl⟩
  have e1 : (x : Int) * 2 ^ (32 - n) % 4294967296 = ((x * 2 ^ (32 - n) % 4294967296 : Nat) : Int) := by simp
  have e2 : (x : Int) / 2 ^ n = ((x / 2 ^ n : Nat) : Int) := by simp
  rw [e1, e2, u32_or_nat _ _ (Nat.lt_of_le_of_lt (Nat.div_le_self _ _) hx) (by omega), Nat.or_comm]
  unfold rotl
  rw [show 32 - (32 - n) = n by omega]
theorem refRight_int (x : Nat) (n : Int) (w : World) (hx : x < 4294967296) (h1 : 1 ≤ n) (h31 : n ≤ 31) :
    Calls Tryd.prog 87 #[.int .u32 (x : Int), .int .u64 n] w fun e w' => e = .returned (.int .u32 (rotl x (32 - n.toNat) : Int)) ∧ w = w' := by
  obtain ⟨m, rfl⟩ : ∃ m : Nat, n = (m : Int) := ⟨n.toNat, by omega⟩
  rw [Int.toNat_natCast]
  exact refRight_any x m w hx (by omega) (by omega)
theorem info154 : (Tryd.prog.info? 154).map (·.size) = some (fw 64 shaK).size := by rw [fw_size]; kernel_rfl
def roundVs : List (Nat × Value) := [(0, Value.int .u32 1116352408), (1, Value.int .u32 1899447441), (2, Value.int .u32 3049323471), (3, Value.int .u32 3921009573), (4, Value.int .u32 961987163), (5, Value.int .u32 1508970993), (6, Value.int .u32 2453635748), (7, Value.int .u32 2870763221), (8, Value.int .u32 3624381080), (9, Value.int .u32 310598401), (10, Value.int .u32 607225278), (11, Value.int .u32 1426881987), (12, Value.int .u32 1925078388), (13, Value.int .u32 2162078206), (14, Value.int .u32 2614888103), (15, Value.int .u32 3248222580), (16, Value.int .u32 3835390401), (17, Value.int .u32 4022224774), (18, Value.int .u32 264347078), (19, Value.int .u32 604807628), (20, Value.int .u32 770255983), (21, Value.int .u32 1249150122), (22, Value.int .u32 1555081692), (23, Value.int .u32 1996064986), (24, Value.int .u32 2554220882), (25, Value.int .u32 2821834349), (26, Value.int .u32 2952996808), (27, Value.int .u32 3210313671), (28, Value.int .u32 3336571891), (29, Value.int .u32 3584528711), (30, Value.int .u32 113926993), (31, Value.int .u32 338241895), (32, Value.int .u32 666307205), (33, Value.int .u32 773529912), (34, Value.int .u32 1294757372), (35, Value.int .u32 1396182291), (36, Value.int .u32 1695183700), (37, Value.int .u32 1986661051), (38, Value.int .u32 2177026350), (39, Value.int .u32 2456956037), (40, Value.int .u32 2730485921), (41, Value.int .u32 2820302411), (42, Value.int .u32 3259730800), (43, Value.int .u32 3345764771), (44, Value.int .u32 3516065817), (45, Value.int .u32 3600352804), (46, Value.int .u32 4094571909), (47, Value.int .u32 275423344), (48, Value.int .u32 430227734), (49, Value.int .u32 506948616), (50, Value.int .u32 659060556), (51, Value.int .u32 883997877), (52, Value.int .u32 958139571), (53, Value.int .u32 1322822218), (54, Value.int .u32 1537002063), (55, Value.int .u32 1747873779), (56, Value.int .u32 1955562222), (57, Value.int .u32 2024104815), (58, Value.int .u32 2227730452), (59, Value.int .u32 2361852424), (60, Value.int .u32 2428436474), (61, Value.int .u32 2756734187), (62, Value.int .u32 3204031479), (63, Value.int .u32 3329325298)]
def roundParts : List (Nat × Operand) := roundVs.map fun p => (p.1, .const p.2)
theorem built154 : Tryd.prog.built 154 roundVs = some (fw 64 shaK) := by kernel_rfl
set_option maxRecDepth 100000 in
set_option maxHeartbeats 2000000 in
theorem refRounds_any (w : World) : Calls Tryd.prog 88 #[] w fun e w' => e = .returned (.agg (fw 64 shaK)) ∧ Below w.heap.size w w' := by
  have hb := built154
  have hi := info154
  have h1 := fw_one 64 shaK
  have h0 : (fw 64 (fun _ => 0)).size = (fw 64 shaK).size := by rw [fw_size, fw_size]
  generalize fw 64 shaK = K at *
  go_enter Tryd.func88, Tryd.ntmps88
  iterate 11 go_step
  refine wpList_build_plain rfl 154 roundParts (by kernel_rfl) roundVs (by rfl) K hb ?_
  go_wp2_with (with_reducible refine wpList_store_blk (o := ⟨none, .store 154 (.tmp 0) (.tmp 1), _, _, _, _⟩) rfl 154 (.tmp 0) (.tmp 1) rfl w.heap.size K rfl rfl 154 (fw 64 (fun _ => 0)) (Blk.new_of rfl rfl) hi h0 h1 ?_; intro w6 k6 g6 s6; have S6 := Lib.hid s6; clear s6)
  simp only [Act.put]
  exact ret_cell 0 154 rfl rfl w.heap.size 154 _ _ rfl k6 Tryd.underlying154 rfl hi ⟨rfl, ((Below.refl _ _).alloc (Nat.le_refl _) _).grown g6 (by simp) (fun k e => by injection e with e; omega)⟩
end Go.Proofs.YtkhebllmnagkmaaDoor
