/- Contracts and lemmas under the statements of this seat, one behind the other. Conditions: what each names. -/
import Derived.Test.YtkhebllmnagkmaaGreatDoorG32
import Derived.Test.YtkhebllmnagkmaaGreatDoorG27
import Derived.Test.YtkhebllmnagkmaaGreatDoorG33
import Derived.Test.YtkhebllmnagkmaaGreatDoorG28
import Derived.Test.YtkhebllmnagkmaaGreatDoorG18
import Derived.WalkKit
import Derived.ProofKit
/- Contract of the law's stateOf, and the comparison of two equal states of the reference. Conditions: what each names. -/
namespace Go.Proofs.YtkhebllmnagkmaaGreatDoor
open Go.RowKit
set_option linter.unusedVariables false

theorem built_rs (start count : Nat) (tag : List UInt8) (ht : tag.length = 32) :
    Tryz.prog.built 42 [(0, .int .u64 (start : Int)), (1, .int .u64 (count : Int)), (2, .agg (bs tag).toArray)] = some (stCells start count tag).toArray := by
  obtain ⟨h, hh⟩ := list_ofFn 32 tag ht
  clear ht
  subst hh
  kernel_rfl
set_option maxRecDepth 100000 in
set_option maxHeartbeats 4000000 in
theorem stateOf_any (start count : Nat) (tag : List UInt8) (w : World) (ht : tag.length = 32) :
    Calls Tryz.prog 14 #[.agg (stCells start count tag).toArray] w fun e w' => e = .returned (.agg (stCells start count tag).toArray) ∧ Below w.heap.size w w' := by
  have hbuilt := built_rs start count tag ht
  have hsl := stCells_length start count tag
  rw [ht] at hsl
  have hs1 := stCells_one start count tag
  have ksO : ∀ o : Obj, Blk ((w.alloc (.cells (stCells start count tag).toArray 41)).alloc o) w.heap.size 41 (stCells start count tag).toArray := fun o => (Blk.new_of rfl rfl).alloc o
  have q0 : ∀ o : Obj, ((w.alloc (.cells (stCells start count tag).toArray 41)).alloc o).cell? ⟨w.heap.size, 0, none⟩ = some (.int .u64 (start : Int)) := fun o => (ksO o).cell 0
  have q1 : ∀ o : Obj, ((w.alloc (.cells (stCells start count tag).toArray 41)).alloc o).cell? ⟨w.heap.size, 1, none⟩ = some (.int .u64 (count : Int)) := fun o => (ksO o).cell 1
  have rg : ∀ o : Obj, ((w.alloc (.cells (stCells start count tag).toArray 41)).alloc o).rangeAt w.heap.size 2 (bs tag) := fun o j u hj => by
    refine ((ksO o).cell _).trans ?_
    rw [List.getElem?_toArray]
    unfold stCells
    rw [List.getElem?_append_right (by simp)]
    simpa using hj
  have hti : (Tryz.prog.info? 23).map (·.size) = some (bs tag).length := by rw [bs_length, ht]; kernel_rfl
  have hsi : (Tryz.prog.info? 42).map (·.size) = some (stCells start count tag).toArray.size := by rw [List.size_toArray, hsl]; kernel_rfl
  have hsz : st0.toArray.size = (stCells start count tag).toArray.size := by rw [List.size_toArray, List.size_toArray, hsl]; rfl
  have y0 : ∀ o : Obj, Below w.heap.size w ((w.alloc (.cells (stCells start count tag).toArray 41)).alloc o) := fun o => ((Below.refl _ _).alloc (Nat.le_refl _) _).alloc (by simp) _
  generalize stCells start count tag = st at *
  have HB := Lib.hid hbuilt
  have HTI := Lib.hid hti
  have HSI := Lib.hid hsi
  have HSZ := Lib.hid hsz
  have HS1 := Lib.hid hs1
  clear hbuilt hti hsi hsz hs1 hsl ht
  go_enter Tryz.func14, Tryz.ntmps14
  go_wp2_with (first | ((with_reducible refine wpList_load_mid (op := ⟨some 8, _, _, _, _, _⟩) rfl 23 _ rfl w.heap.size 2 rfl (bs tag) _ (rg _) Tryz.underlying23 rfl HTI.out ?_)) | ((refine wpList_build_plain (o := ⟨some 9, _, _, _, _, _⟩) rfl 42 [_, _, _] rfl _ rfl st.toArray HB.out ?_)) | ((refine wpList_store_blk (o := ⟨none, .store 42 (.tmp 2) (.tmp 9), _, _, _, _⟩) rfl 42 (.tmp 2) (.tmp 9) rfl (w.heap.size + 1) st.toArray rfl rfl 42 st0.toArray (Blk.new_of (by simp) rfl) HSI.out HSZ.out HS1.out ?_); intro w3 k3 g3 s3))
  exact ret_cell 2 42 rfl rfl (w.heap.size + 1) 42 _ _ rfl k3 Tryz.underlying42 rfl HSI.out ⟨rfl, (y0 _).grown g3 (y0 _).size (fun k e => by injection e with e; omega)⟩
theorem run_neq_state (W : World) (start count : Nat) (tag : List UInt8) (ht : tag.length = 32) : (binOp .neq 42 (.agg (stCells start count tag).toArray) (.agg (stCells start count tag).toArray)).run Tryz.prog W = .ok (.bool false) W := by
  have h1 := Tryz.underlying42
  have h2 := Tryz.underlying39
  have h3 := Tryz.underlying23
  have hp0 : ∀ W, (part 39 (stCells start count tag).toArray 0).run Tryz.prog W = .ok (.int .u64 (start : Int)) W := fun W => by
    unfold stCells
    simp [part, isAgg, run_underlying h2]
  have hp1 : ∀ W, (part 39 (stCells start count tag).toArray 1).run Tryz.prog W = .ok (.int .u64 (count : Int)) W := fun W => by
    unfold stCells
    simp [part, isAgg, run_underlying h2]
  have hp2 : ∀ W, (part 23 (stCells start count tag).toArray 2).run Tryz.prog W = .ok (.agg (bs tag).toArray) W := fun W => by
    have hag : (isAgg 23).run Tryz.prog W = .ok true W := by simp [isAgg, run_underlying h3]
    have hsz : (sizeOf 23).run Tryz.prog W = .ok 32 W := by simp [go_sem]
    have hx : (stCells start count tag).toArray.extract 2 (2 + 32) = (bs tag).toArray := by
      have hb := bs_length tag
      rw [ht] at hb
      unfold stCells
      generalize bs tag = b at *
      simp [List.extract_toArray, List.extract]
      exact List.take_of_length_le (by omega)
    unfold part
    rw [Sem.run_bind, hag, Result.andThen_ok]
    simp only [if_true, Sem.run_bind, hsz, Result.andThen_ok, Sem.run_pure, hx]
  have he := fun W => run_equalIn_bytes (P := Tryz.prog) W 9997 23 5 32 Tryz.underlying23 Tryz.underlying5 (fun w => by simp [go_sem]) tag tag ht ht
  rw [show (tag.map Extern.Stop.cell).toArray = (bs tag).toArray from rfl] at he
  have hun : Tryz.prog.underlying 42 = some (.struct (Tryz.prog.fieldsOf 42)) := by kernel_rfl
  have hst : Tryz.prog.stoodInHeld 42 = false := by kernel_rfl
  have hfl : (Tryz.prog.fieldsOf 42).toList = [⟨"Start", 39, 0, false, "", "", 0⟩, ⟨"Count", 39, 1, false, "", "", 8⟩, ⟨"Tag", 23, 2, false, "", "", 16⟩] := by kernel_rfl
  have hi := fun W x => run_equalIn_int (P := Tryz.prog) W 9998 39 .u64 .u64 x x h2
  generalize (stCells start count tag).toArray = st at *
  generalize (bs tag).toArray = bt at *
  rw [run_neq_struct, run_equalIn_agg W 9999 42 _ _ hun hst, hfl]
  have n0 : ("Start" : String) ≠ "_" := by decide
  have n1 : ("Count" : String) ≠ "_" := by decide
  have n2 : ("Tag" : String) ≠ "_" := by decide
  clear hun hst hfl
  simp only [Op.eqFields, if_pos n0, if_pos n1, if_pos n2, Sem.run_bind, hp0, hp1, hp2, hi, he, Result.andThen_ok, beq_self_eq_true, Bool.not_true, Bool.false_eq_true, if_false, Sem.run_pure]
end Go.Proofs.YtkhebllmnagkmaaGreatDoor
/- ReplayCuts, the plain part: what the reference's disk holds is what the program's holds. No condition beyond what each names. -/
namespace Go.Proofs.YtkhebllmnagkmaaGreatDoor
open Go.RowKit
set_option linter.unusedVariables false

theorem readR_readAt (D : Dk) (m i : Nat) (h : D.places = List.replicate m zeros192) (hi : i < m) : readR [] D.way i = readAt D i := by
  unfold readR readAt lastW
  rw [h]
  cases List.find? (fun p => p.1 == i) D.way.reverse with
  | some p => rfl
  | none =>
    show zeros192 = (List.replicate m zeros192).getD i []
    rw [List.getD_eq_getElem?_getD, List.getElem?_replicate, if_pos hi]
    rfl
theorem rSlots_ldSlots (D : Dk) (m first size start n : Nat) (h : D.places = List.replicate m zeros192) (h1 : 1 ≤ size) (h2 : first + size ≤ m) : rSlots [] D.way first size start n = ldSlots D first size start n := by
  unfold rSlots ldSlots
  refine List.map_congr_left fun k _ => ?_
  rw [readR_readAt D m _ h]
  have := Nat.mod_lt (start + k) (show 0 < size by omega)
  unfold ldPlace
  omega
end Go.Proofs.YtkhebllmnagkmaaGreatDoor
/- ReplayLoads, ahead of the walk: what the two disks hold, and that Append and Load answer alike on both sides. Conditions: what each names. -/
namespace Go.Proofs.YtkhebllmnagkmaaGreatDoor
open Go.RowKit
set_option linter.unusedVariables false
attribute [local irreducible] sealB linkB recB

theorem own_spotc {W : World} {base n c : Nat} {A : Option Addr} {e : TypeId} {sz : Nat} {zs : List Value} (h : W.ownsRow base e sz (.slice A n c) n zs) : ∀ ad, A = some ad → ad.spot = none := fun ad e' => by
  rcases h.2 with ⟨hv, _⟩ | ⟨g, cap, cur, hv, _⟩
  · injection hv with hv; rw [hv] at e'; cases e'
  · injection hv with hv; rw [hv] at e'; injection e' with e'; subst e'; rfl
theorem wpAnyH_listed {P : Program} {md : Region.Mode} {ops : Array Oper} {Q : Exit → Act → World → Prop} {S : World → Prop} {fuel : Nat} {l l' : Array Bool} {a : Act} {w : World} (h : l = l') (H : wpAnyH P md ops Q S fuel l' a w) : wpAnyH P md ops Q S fuel l a w := h ▸ H
theorem run_allocJ (ev : Operand → Value) (o : Oper) (ho : o.op = .alloc 44) (w : World) : (execOp ev o).run Tryz.prog w = .ok (.value (.pointer (some ⟨w.heap.size, 0, none⟩))) (w.alloc (.cells Tryz.zeroCells44 44)) := by
  unfold execOp
  simp only [ho]
  go_simp
theorem run_allocD (ev : Operand → Value) (o : Oper) (ho : o.op = .alloc 33) (w : World) : (execOp ev o).run Tryz.prog w = .ok (.value (.pointer (some ⟨w.heap.size, 0, none⟩))) (w.alloc (.cells ([.int .i64 0, .slice none 0 0, .slice none 0 0, .int .i64 0, .bool false, .slice none 0 0] : List Value).toArray 33)) := by
  unfold execOp
  simp only [ho]
  go_simp
theorem chg_rows (l : List Rec) : (chg l).out.length ≤ l.length ∧ ∀ x ∈ (chg l).out, x.length ≤ l.length := by
  refine ⟨chg_len l, ?_⟩
  have h : ∀ m, m ≤ l.length → ∀ x ∈ (chg (l.take m)).out, x.length ≤ m := by
    intro m
    induction m with
    | zero => intro _ x hx; simp [chg] at hx
    | succ m ih =>
      intro hm x hx
      have hp : l[m]? = some (l[m]'(by omega)) := List.getElem?_eq_getElem (by omega)
      cases hr : (l[m]'(by omega)).2 with
      | true =>
        rw [(nowV_yes l m _ hp hr).2] at hx
        rcases List.mem_append.1 hx with hx | hx
        · have := ih (by omega) x hx
          omega
        · rw [List.mem_singleton.1 hx, List.length_append]
          have h1 := nowV_le (l.take m)
          rw [List.length_take] at h1
          simp only [List.length_singleton]
          omega
      | false =>
        rw [(nowV_no l m _ hp hr).2] at hx
        have := ih (by omega) x hx
        omega
  have h2 := h l.length (Nat.le_refl _)
  rw [List.take_of_length_le (Nat.le_refl _)] at h2
  exact h2
theorem popAll_length (key : List UInt8) : ∀ (l : List (Nat × List UInt8)) (rs : List Rec), popAll key l = some rs → rs.length = l.length
  | [], rs, h => by simp only [popAll] at h; injection h with h; subst h; rfl
  | p :: l, rs, h => by
    unfold popAll at h
    split at h
    · rename_i r rs2 h1 h2
      injection h with h
      subst h
      rw [List.length_cons, List.length_cons, popAll_length key l rs2 h2]
    · cases h
theorem loadV_small {key tag : List UInt8} {sl : List (Nat × List UInt8)} {ll : List (List Img)} {m : Nat} (h : loadV key tag sl = some ll) (hm : sl.length ≤ m) : ll.length ≤ m ∧ ∀ l ∈ ll, l.length ≤ m := by
  unfold loadV at h
  split at h
  · cases hp : popAll key sl with
    | none => rw [hp] at h; cases h
    | some rs =>
      rw [hp] at h
      have hl := popAll_length key sl rs hp
      have h : chgV rs = some ll := h
      unfold chgV at h
      split at h
      · injection h with h
        subst h
        have hc := chg_rows rs
        exact ⟨by omega, fun l hl2 => by have := hc.2 l hl2; omega⟩
      · cases h
  · cases h
theorem run_allocS (ev : Operand → Value) (o : Oper) (ho : o.op = .alloc 42) (w : World) : (execOp ev o).run Tryz.prog w = .ok (.value (.pointer (some ⟨w.heap.size, 0, none⟩))) (w.alloc (.cells st0.toArray 42)) := by
  unfold execOp
  simp only [ho]
  go_simp
  rfl
theorem step_alloc_run {P : Program} {ops : Array Oper} {o : Oper} {a : Act} {w w' : World} {v : Value} {K : Act → World → Prop} {Q : Exit → Act → World → Prop} {E : Prop} (hgd : o.guard = none) (hrun : (execOp a.eval o).run P w = .ok (.value v) w')
    (h : K (a.put o.dst v) w') : if Region.wanted o (yielded ops a.tmps) = true then Oper.wp P o a w K Q else E := by
  have hw : Region.wanted o (yielded ops a.tmps) = true := by simp [Region.wanted, hgd]
  rw [if_pos hw]
  unfold Oper.wp
  rw [hrun]
  exact h

/-! ### what the two disks hold -/
theorem lastW_one (s : Nat) (b : List UInt8) (i : Nat) : lastW [(s, b)] i = if s == i then some b else none := by
  have h := lastW_snoc [] (s, b) i
  rw [List.nil_append] at h
  rw [h]
  rfl
theorem readR_gen (D : Dk) (done : List (Nat × List UInt8)) (m i : Nat) (h : ∀ j, j < m → (lastW done j).getD zeros192 = D.places.getD j []) (hi : i < m) : readR done D.way i = readAt D i := by
  unfold readR readAt lastW
  rw [← h i hi]
  unfold lastW
  cases List.find? (fun p => p.1 == i) D.way.reverse with
  | some p => rfl
  | none => rfl
theorem rSlots_gen (D : Dk) (done : List (Nat × List UInt8)) (m first size start n : Nat) (h : ∀ j, j < m → (lastW done j).getD zeros192 = D.places.getD j []) (h1 : 1 ≤ size) (h2 : first + size ≤ m) : rSlots done D.way first size start n = ldSlots D first size start n := by
  unfold rSlots ldSlots
  refine List.map_congr_left fun k _ => ?_
  rw [readR_gen D done m _ h]
  have := Nat.mod_lt (start + k) (show 0 < size by omega)
  unfold ldPlace
  omega
def jrL (key : List UInt8) (k st c : Nat) (tg : List UInt8) : Jr := ⟨1, k, st, c, 1 + c, 1099511627776, key, tg⟩
def dkL (ws : List (Nat × List UInt8)) : Dk := ⟨List.replicate 12 zeros192, ws, -1, false, ws.length⟩
theorem dkL_rel (ws : List (Nat × List UInt8)) (j : Nat) (hj : j < 12) : (lastW [] j).getD zeros192 = (dkL ws).places.getD j [] := by
  show zeros192 = (List.replicate 12 zeros192).getD j []
  rw [List.getD_eq_getElem?_getD, List.getElem?_replicate, if_pos hj]
  rfl
theorem tam_rel (s : Nat) (b : List UInt8) (hs : s < 12) (j : Nat) (hj : j < 12) : (lastW [(s, b)] j).getD zeros192 = ((List.replicate 12 zeros192).set s b).getD j [] := by
  rw [lastW_one, List.getD_eq_getElem?_getD, List.getElem?_set]
  by_cases h : s = j
  · subst h
    rw [if_pos (by simp), if_pos rfl, if_pos (by rw [List.length_replicate]; exact hs)]
    rfl
  · rw [if_neg (by simpa using h), if_neg h, List.getElem?_replicate, if_pos hj]
    rfl
def AppsSame (key tg : List UInt8) (k st c : Nat) (ws : List (Nat × List UInt8)) (lp : List Img) : Prop :=
    ∃ (code : Int) (m : Nat) (tg2 : List UInt8) (S : List (Nat × List UInt8)) (stN : List Value), S.length = m ∧ (∀ p ∈ S, p.2.length = 192) ∧ stN.length = 34 ∧ stN.toArray.all (·.oneCell') = true ∧ c + m ≤ k ∧ ((code = 0 ∧ tg2.length = 32 ∧ stN = stCells st (c + m) tg2) ∨ (code ≠ 0 ∧ m = 0)) ∧
      (∀ (gj gd B : Nat) (F : Nat → Prop) (A : Option Addr) (ca : Nat) (xs : List Value) (w : World), JAt w gj gd (jrL key k st c tg) → Disk w gd F (dkL ws) → ¬ F gj → w.ownsRow B 79 2 (.slice A lp.length ca) lp.length xs → RowI w xs lp → Tabs w → 1 + 0 < gj → (∀ k, F k → 1 + 0 < k) →
        Calls Tryz.prog 11 #[.pointer (some ⟨gj, 0, none⟩), .slice A lp.length ca] w fun e w' => e = .returned (.tuple #[.agg stN.toArray, .int .i64 code]) ∧ JAt w' gj gd { jrL key k st c tg with next := 1 + c + m } ∧ Disk w' gd (more F w.heap.size) (dkL (ws ++ S)) ∧ Only (fun k => F k ∨ k = gj) w w') ∧
      (∀ (Aw Ao A : Option Addr) (cw co ca : Nat) (xo : List Value) (w : World), w.ownsRow 0 142 2 (.slice Aw c cw) c (encW ws) → w.ownsRow 0 169 2 (.slice Ao c co) c xo → (∀ u ∈ xo, u.oneCell' = true) → w.ownsRow 0 105 2 (.slice A lp.length ca) lp.length (encM lp) →
        Calls Tryz.prog 12 #[.agg #[.int .i64 12, .slice none 0 0, .slice Aw c cw, .int .i64 (-1), .bool false, .slice Ao c co], .agg (rjCells (jrL key k st c tg)).toArray, .slice A lp.length ca] w fun e w' => ∃ Aw2 cw2 Ao2 co2 xo2, e = .returned (.tuple #[.agg #[.int .i64 12, .slice none 0 0, .slice Aw2 (c + m) cw2, .int .i64 (-1), .bool false, .slice Ao2 (c + m) co2], .agg (rjCells { jrL key k st c tg with next := 1 + c + m }).toArray, .agg stN.toArray, .int .i64 code]) ∧
          w'.ownsRow 0 142 2 (.slice Aw2 (c + m) cw2) (c + m) (encW (ws ++ S)) ∧ w'.ownsRow 0 169 2 (.slice Ao2 (c + m) co2) (c + m) xo2 ∧ (∀ u ∈ xo2, u.oneCell' = true) ∧ Below w.heap.size w w')
set_option maxRecDepth 100000 in
theorem apps_same (key tg : List UInt8) (k st c : Nat) (ws : List (Nat × List UInt8)) (lp : List Img) (hk : key.length = 32) (ht : tg.length = 32) (hk1 : 1 ≤ k) (hk2 : k ≤ 10) (hst : st < k) (hc : c ≤ k) (hw : ws.length = c) (h192 : ∀ p ∈ ws, p.2.length = 192) (hm : lp.length ≤ 6) (hpp : ∀ p ∈ lp, p.2.length = 160 ∧ p.1 < 18446744073709551616) :
    AppsSame key tg k st c ws lp := by
  have hbad : ∀ code : Int, code ≠ 0 →
      (∀ (gj gd B : Nat) (F : Nat → Prop) (A : Option Addr) (ca : Nat) (xs : List Value) (w : World), JAt w gj gd (jrL key k st c tg) → w.ownsRow B 79 2 (.slice A lp.length ca) lp.length xs → RowI w xs lp → Calls Tryz.prog 11 #[.pointer (some ⟨gj, 0, none⟩), .slice A lp.length ca] w fun e w' => e = .returned (.tuple #[.agg st0.toArray, .int .i64 code]) ∧ Below w.heap.size w w') →
      (∀ (Aw Ao A : Option Addr) (cw co ca : Nat) (w : World), w.ownsRow 0 105 2 (.slice A lp.length ca) lp.length (encM lp) → Calls Tryz.prog 12 #[.agg #[.int .i64 12, .slice none 0 0, .slice Aw c cw, .int .i64 (-1), .bool false, .slice Ao c co], .agg (rjCells (jrL key k st c tg)).toArray, .slice A lp.length ca] w fun e w' => e = .returned (.tuple #[.agg #[.int .i64 12, .slice none 0 0, .slice Aw c cw, .int .i64 (-1), .bool false, .slice Ao c co], .agg (rjCells (jrL key k st c tg)).toArray, .agg st0.toArray, .int .i64 code]) ∧ Below w.heap.size w w') → AppsSame key tg k st c ws lp := fun code hcode hP hR => by
    refine ⟨code, 0, [], [], st0, rfl, fun p hp => (by cases hp), rfl, by kernel_rfl, by omega, .inr ⟨hcode, rfl⟩, fun gj gd B F A ca xs w hJ hD hF ho hi hT h1 h2 => ?_, fun Aw Ao A cw co ca xo w hw2 ho hx hI => ?_⟩
    · refine (hP gj gd B F A ca xs w hJ ho hi).mono fun e w' h => ⟨h.1, hJ.under h.2, ?_, Only.of_below h.2⟩
      rw [List.append_nil]
      exact (hD.under h.2).mono fun k _ hk => .inl hk
    · refine (hR Aw Ao A cw co ca w hI).mono fun e w' h => ⟨Aw, cw, Ao, co, xo, h.1, ?_, own_keep ho fun b e => h.2.block b (World.ownsRow.lt ho b e).2, hx, h.2⟩
      rw [List.append_nil]
      exact own_keep hw2 fun b e => h.2.block b (World.ownsRow.lt hw2 b e).2
  rcases Nat.eq_zero_or_pos lp.length with h0 | h0
  · refine hbad 1 (by decide) (fun gj gd B F A ca xs w hJ ho hi => ?_) (fun Aw Ao A cw co ca w hI => ?_)
    · rw [h0]
      exact append_none gj A ca w
    · rw [h0]
      exact rappend_none 12 0 0 c cw c co none Aw Ao (jrL key k st c tg) A ca w hk ht
  · by_cases hf : c + lp.length ≤ k
    · have hSl := slotsOf_length (jrL key k st c tg) lp
      refine ⟨0, lp.length, tagOf tg (slotsOf (jrL key k st c tg) lp), slotsOf (jrL key k st c tg) lp, stCells st (c + lp.length) (tagOf tg (slotsOf (jrL key k st c tg) lp)), hSl, fun p hp => ?_, by rw [stCells_length, tagOf_length _ _ ht], stCells_one _ _ _, hf, .inl ⟨rfl, tagOf_length _ _ ht, rfl⟩, fun gj gd B F A ca xs w hJ hD hF ho hi hT h1 h2 => ?_, fun Aw Ao A cw co ca xo w hw2 ho hx hI => ?_⟩
      · unfold slotsOf at hp
        obtain ⟨k, hk, rfl⟩ := List.mem_mapIdx.1 hp
        exact sealB_length _ _ _ _
      · obtain ⟨g, cap, hv, _, _⟩ := ho.form (by omega)
        injection hv with hA _ _
        subst hA
        have h := append_any gj gd F (dkL ws) (jrL key k st c tg) g 0 lp.length ca xs lp w hJ hD hF rfl (by show (-1 : Int) < 0; decide) (by show ws.length + lp.length ≤ 1048576; omega) (by show ws.length + lp.length ≤ 1048576; omega) (by show (List.replicate 12 zeros192).length ≤ 1048576; rw [List.length_replicate]; omega) (Reads.of_own ho) rfl hi (fun p hp => (hpp p hp).1) (fun p hp => (hpp p hp).2) h0 (by omega) hk1 (by show 1 + k ≤ (List.replicate 12 zeros192).length; rw [List.length_replicate]; omega) hst hf (by show 1 ≤ 1 + c; omega) (by show 1 + c + lp.length ≤ 1099511627776; omega) (by show 1099511627776 ≤ 9223372036854775807; omega) hT h1 h2
        refine h.mono fun e w' h => ⟨h.1, h.2.1, ?_, h.2.2.2⟩
        have h3 := h.2.2.1
        have e : ({ dkL ws with way := (dkL ws).way ++ slotsOf (jrL key k st c tg) lp, ops := (dkL ws).ops + lp.length } : Dk) = dkL (ws ++ slotsOf (jrL key k st c tg) lp) := by
          unfold dkL
          rw [List.length_append, hSl]
        rw [e] at h3
        exact h3
      · have h := rappend_any 12 0 0 c cw c co none Aw Ao ws xo (jrL key k st c tg) lp A ca w hw2 (by omega) ho hx (by omega) hk ht hI h0 (fun p hp => (hpp p hp).1) (fun p hp => (hpp p hp).2) hk1 (by show 1 + k ≤ 12; omega) (by omega) hst hf (by show 1 ≤ 1 + c; omega) (by show 1 + c + lp.length ≤ 1099511627776; omega) (by show 1099511627776 ≤ 9223372036854775807; omega)
        exact h
    · refine hbad 17 (by decide) (fun gj gd B F A ca xs w hJ ho hi => ?_) (fun Aw Ao A cw co ca w hI => ?_)
      · obtain ⟨g, cap, hv, _, _⟩ := ho.form (by omega)
        injection hv with hA _ _
        subst hA
        exact append_full gj gd (jrL key k st c tg) g 0 lp.length ca xs lp w hJ (Reads.of_own ho) rfl hi (fun p hp => (hpp p hp).1) h0 (by omega) (by show k ≤ 1048576; omega) (by show c ≤ k; omega) (by show k < c + lp.length; omega)
      · exact rappend_full 12 0 0 c cw c co none Aw Ao (jrL key k st c tg) A ca lp w hk ht hI h0 (by omega) (fun p hp => (hpp p hp).1) (by show k ≤ 1048576; omega) (by show c ≤ k; omega) (by show k < c + lp.length; omega)
def LoadsSame (key tag : List UInt8) (first k start count : Nat) (D : Dk) (done : List (Nat × List UInt8)) : Prop :=
    ∃ (code : Int) (ll : List (List Img)), ll.length ≤ 10 ∧ (∀ l ∈ ll, l.length ≤ 10) ∧
      (∀ (gd : Nat) (F : Nat → Prop) (w : World), Disk w gd F D → Tabs w → (∀ k, F k → 1 + 0 < k) →
        Calls Tryz.prog 17 #[.pointer (some ⟨gd, 0, none⟩), .agg (bs key).toArray, .int .i64 (first : Int), .int .i64 (k : Int), .agg (stCells start count tag).toArray] w fun e w' => ∃ A c ys, e = .returned (.tuple #[.slice A ll.length c, .int .i64 code]) ∧ w'.ownsRow w.heap.size 24 1 (.slice A ll.length c) ll.length ys ∧ RowC w' ys ll ∧ Only F w w') ∧
      (∀ (Ad Aw Ao : Option Addr) (cd cw no co : Nat) (left : Int) (xo : List Value) (w : World), w.ownsRow 0 142 2 (.slice Ad done.length cd) done.length (encW done) → w.ownsRow 0 142 2 (.slice Aw D.way.length cw) D.way.length (encW D.way) → w.ownsRow 0 169 2 (.slice Ao no co) no xo → (∀ u ∈ xo, u.oneCell' = true) → no ≤ 1000 →
        Calls Tryz.prog 18 #[.agg #[.int .i64 12, .slice Ad done.length cd, .slice Aw D.way.length cw, .int .i64 left, .bool D.down, .slice Ao no co], .agg (bs key).toArray, .int .i64 (first : Int), .int .i64 (k : Int), .agg (stCells start count tag).toArray] w fun e w' => ∃ (dx : List Value) (A' : Option Addr) (c' : Nat) (ys : List Value), dx.length = 6 ∧ (∀ v ∈ dx, v.oneCell' = true) ∧ e = .returned (.tuple #[.agg dx.toArray, .slice A' ll.length c', .int .i64 code]) ∧ w'.ownsRow w.heap.size 52 1 (.slice A' ll.length c') ll.length ys ∧ RowMs w' w.heap.size ys ll ∧ Below w.heap.size w w')
set_option maxRecDepth 100000 in
theorem loads_same (key tag : List UInt8) (first k start count : Nat) (D : Dk) (done : List (Nat × List UInt8)) (hk : key.length = 32) (ht : tag.length = 32) (h1 : 1 ≤ k) (h2 : first + k ≤ 12) (hk2 : k ≤ 10) (hp : D.places.length = 12) (hpl : ∀ b ∈ D.places, b.length = 192) (hwl : ∀ p ∈ D.way, p.2.length = 192) (hdl : ∀ p ∈ done, p.2.length = 192) (hdn : done.length ≤ 1) (hn1 : D.way.length ≤ 1000) (hn2 : D.ops ≤ 1000)
    (hrel : ∀ j, j < 12 → (lastW done j).getD zeros192 = D.places.getD j []) :
    LoadsSame key tag first k start count D done := by
  have six : ∀ (Ad Aw Ao : Option Addr) (a b c d e f : Nat) (left : Int) (dn : Bool), ∀ v ∈ ([.int .i64 12, .slice Ad a b, .slice Aw c d, .int .i64 left, .bool dn, .slice Ao e f] : List Value), v.oneCell' = true := by
    intro Ad Aw Ao a b c d e f left dn v hv
    simp only [List.mem_cons, List.not_mem_nil, or_false] at hv
    rcases hv with rfl | rfl | rfl | rfl | rfl | rfl <;> rfl
  have hempty : ∀ code : Int,
      (∀ (gd : Nat) (F : Nat → Prop) (w : World), Disk w gd F D → Tabs w → (∀ k, F k → 1 + 0 < k) → Calls Tryz.prog 17 #[.pointer (some ⟨gd, 0, none⟩), .agg (bs key).toArray, .int .i64 (first : Int), .int .i64 (k : Int), .agg (stCells start count tag).toArray] w fun e w' => e = .returned (.tuple #[.slice none 0 0, .int .i64 code]) ∧ Only F w w') →
      (∀ (Ad Aw Ao : Option Addr) (cd cw no co : Nat) (left : Int) (xo : List Value) (w : World), w.ownsRow 0 142 2 (.slice Ad done.length cd) done.length (encW done) → w.ownsRow 0 142 2 (.slice Aw D.way.length cw) D.way.length (encW D.way) → w.ownsRow 0 169 2 (.slice Ao no co) no xo → (∀ u ∈ xo, u.oneCell' = true) → no ≤ 1000 →
        Calls Tryz.prog 18 #[.agg #[.int .i64 12, .slice Ad done.length cd, .slice Aw D.way.length cw, .int .i64 left, .bool D.down, .slice Ao no co], .agg (bs key).toArray, .int .i64 (first : Int), .int .i64 (k : Int), .agg (stCells start count tag).toArray] w fun e w' => ∃ no2 Ao2 co2, e = .returned (.tuple #[.agg #[.int .i64 12, .slice Ad done.length cd, .slice Aw D.way.length cw, .int .i64 left, .bool D.down, .slice Ao2 no2 co2], .slice none 0 0, .int .i64 code]) ∧ Below w.heap.size w w') → LoadsSame key tag first k start count D done := fun code hP hR => by
    refine ⟨code, [], by simp, fun l hl => (by cases hl), fun gd F w hD hT hF => ?_, fun Ad Aw Ao cd cw no co left xo w a1 a2 a3 a4 a5 => ?_⟩
    · exact (hP gd F w hD hT hF).mono fun e w' h => ⟨none, 0, [], h.1, World.ownsRow_nil _ _ _ _, fun i l hl => (by simp at hl), h.2⟩
    · refine (hR Ad Aw Ao cd cw no co left xo w a1 a2 a3 a4 a5).mono fun e w' h => ?_
      obtain ⟨no2, Ao2, co2, h1, h2⟩ := h
      exact ⟨_, none, 0, [], rfl, six Ad Aw Ao2 done.length cd D.way.length cw no2 co2 left D.down, h1, World.ownsRow_nil _ _ _ _, fun i l hl => (by simp at hl), h2⟩
  by_cases hm : start < k ∧ count ≤ k
  · by_cases hd : 1 ≤ count ∧ D.down = true
    · refine hempty 13 (fun gd F w hD hT hF => ?_) (fun Ad Aw Ao cd cw no co left xo w a1 a2 a3 a4 a5 => ?_)
      · exact (load_down gd first k start count F D key tag w hD hk ht h1 (by omega) (by omega) hm.1 hm.2 hd.2 hd.1).mono fun e w' h => ⟨h.1, Only.of_below h.2⟩
      · rw [hd.2]
        exact (rload_down 12 done.length cd D.way.length cw no co Ad Aw Ao left first k start count key tag w hk ht h1 h2 (by omega) hm.1 hm.2 hd.1).mono fun e w' h => ⟨no, Ao, co, h.1, h.2⟩
    · have hdc : 1 ≤ count → D.down = false := fun h => by
        cases hb : D.down with
        | false => rfl
        | true => exact absurd ⟨h, hb⟩ hd
      have hsl := rSlots_gen D done 12 first k start count hrel h1 h2
      have hld := fun gd F w hD hT hF => load_gen gd first k start count F D key tag w hD hk ht h1 (by omega) (by omega) hm.1 hm.2 hdc hpl hwl (by omega) (by omega) hT hF
      have hrl := fun Ad Aw Ao cd cw no co left xo w a1 a2 a3 a4 (a5 : no ≤ 1000) => rload_gen 12 done.length cd D.way.length cw no co Ad Aw Ao left done D.way xo first k start count key tag w a1 rfl (by omega) a2 rfl (by omega) a3 a4 hk ht h1 h2 (by omega) hm.1 hm.2 (by omega) hdl hwl D.down hdc
      rw [hsl] at hrl
      have hlen : (ldSlots D first k start count).length ≤ 10 := by rw [ldSlots_length]; omega
      cases hlv : loadV key tag (ldSlots D first k start count) with
      | none =>
        refine hempty 14 (fun gd F w hD hT hF => ?_) (fun Ad Aw Ao cd cw no co left xo w a1 a2 a3 a4 a5 => ?_)
        · refine (hld gd F w hD hT hF).mono fun e w' h => ?_
          rcases h with ⟨h1 | ⟨ll, v, ys, h1, _⟩, _, h3⟩
          · exact ⟨h1.2, h3⟩
          · rw [hlv] at h1; cases h1
        · refine (hrl Ad Aw Ao cd cw no co left xo w a1 a2 a3 a4 a5).mono fun e w' h => ?_
          obtain ⟨⟨no2, Ao2, co2, h4 | ⟨ll, A', c', ys, e1, _⟩⟩, h5⟩ := h
          · exact ⟨no2, Ao2, co2, h4.2, h5⟩
          · rw [hlv] at e1; cases e1
      | some ll =>
        obtain ⟨b1, b2⟩ := loadV_small hlv hlen
        refine ⟨0, ll, b1, b2, fun gd F w hD hT hF => ?_, fun Ad Aw Ao cd cw no co left xo w a1 a2 a3 a4 a5 => ?_⟩
        · refine (hld gd F w hD hT hF).mono fun e w' h => ?_
          rcases h with ⟨h1 | ⟨ll2, v, ys, h1, h4, h5, h6⟩, _, h3⟩
          · rw [hlv] at h1; cases h1.1
          · rw [hlv] at h1
            injection h1 with h1
            subst h1
            obtain ⟨A, c, rfl⟩ := own_shape h5
            exact ⟨A, c, ys, h4, h5, h6, h3⟩
        · refine (hrl Ad Aw Ao cd cw no co left xo w a1 a2 a3 a4 a5).mono fun e w' h => ?_
          obtain ⟨⟨no2, Ao2, co2, h4 | ⟨ll2, A', c', ys, e1, e2, e3, e4⟩⟩, h5⟩ := h
          · rw [hlv] at h4; cases h4.1
          · rw [hlv] at e1
            injection e1 with e1
            subst e1
            exact ⟨_, A', c', ys, rfl, six Ad Aw Ao2 done.length cd D.way.length cw no2 co2 left D.down, e2, e3, e4, h5⟩
  · have hb : k ≤ start ∨ k < count := by omega
    refine hempty 1 (fun gd F w hD hT hF => ?_) (fun Ad Aw Ao cd cw no co left xo w a1 a2 a3 a4 a5 => ?_)
    · exact (load_refused gd first k start count F D key tag w hD hk ht h1 (by omega) (by omega) hb).mono fun e w' h => ⟨h.1, Only.of_below h.2⟩
    · exact (rload_bad 12 done.length cd D.way.length cw no co Ad Aw Ao left D.down first k start count key tag w hk ht h1 h2 (by omega) hb).mono fun e w' h => ⟨no, Ao, co, h.1, h.2⟩
end Go.Proofs.YtkhebllmnagkmaaGreatDoor
/- What the laws of the Door seat share: the program's switches, the door's own heap, arrays that come in. No condition beyond what each names. -/
namespace Go.Proofs.YtkhebllmnagkmaaGreatDoor
open Go.ChangeShapes Go.WideShapes Go.ChangeAt Go.RowKit
set_option linter.unusedVariables false
theorem okWide_array {P : Program} {w : World} {r : Reach} {base : Nat} {t : TypeId} {v : Value} {n : Nat} {e : TypeId} (ht : P.underlying t = some (.array n e)) (h : Value.okWide P w r base t v) : ∃ cs, v = .agg cs ∧ cs.size = P.cellsOf t := by
  simp only [Value.okWide, ht] at h
  obtain ⟨cs, h1, h2, _⟩ := h
  exact ⟨cs, h1, h2⟩
section
variable {H : Type} {enc : TypeId × Value → H} {W : World}
/-- A key that comes in: thirty-two bytes. -/
theorem open_key {fuel : Nat} {cs : List Value} {x : DataW H × List MemPlace} (h : DataW.trod enc Tryz.prog W 0 (fun _ => true) true fuel 23 cs = some x) : ∃ key : List UInt8, key.length = 32 ∧ cs = bs key := by
  obtain ⟨zs, hz, _, hc, hw⟩ := open_arr_ints Tryz.underlying23 Tryz.underlying5 (by kernel_rfl) (by kernel_rfl) h
  refine ⟨zs.map fun z => UInt8.ofNat z.toNat, by rw [List.length_map]; exact hz, ?_⟩
  rw [hc]
  refine List.ext_getElem? fun i => ?_
  rw [bs_get, List.getElem?_map, List.getElem?_map]
  cases hi : zs[i]? with
  | none => rfl
  | some z =>
    have hb := bounds_u8 (hw z (List.mem_of_getElem? hi))
    simp only [Option.map_some, Option.some.injEq]
    congr 1
    rw [UInt8.toNat_ofNat']
    omega
end
theorem ownD : ownKnob Tryz.prog.godebug = none := by kernel_rfl
theorem laidOutD : laidOutB Tryz.prog = true := by kernel_rfl
/-- The door's own heap meets the condition: closed facts. -/
theorem doorMet (os : Os) (args : Array Value) : laidMetH Tryz.prog laid2 ((World.doorLaid Tryz.prog 400 os).forCall (fun _ _ => 0) ⟨#[], args, []⟩).memory :=
  laidMetH_of_parts3 (fuel := 8) (laidMet_of_run' 8 (by kernel_rfl) (by kernel_rfl)) (by kernel_rfl) (by kernel_rfl)
end Go.Proofs.YtkhebllmnagkmaaGreatDoor
