/- Contracts and lemmas under the statements of this seat, one behind the other. Conditions: what each names. -/
import Derived.Test.YtkhebllmnagkmaaGreatDoorG4
import Derived.Deep.MidRow
import Derived.Deep.RegionHeld3
import Derived.Test.YtkhebllmnagkmaaGreatDoorG1
/- Contract of cipher.Block (ChaCha20's 64 bytes). Conditions: what each names. -/
namespace Go.Proofs.YtkhebllmnagkmaaGreatDoor
open Go.RowKit
set_option linter.unusedVariables false

def chaQ (i j : Nat) : Nat := quarterTab.getD (4 * i + j) 0
def chaQuarter (f : Nat → Nat) (i : Nat) : Nat → Nat :=
  chaAdd (chaAdd (chaAdd (chaAdd f (chaQ i 0) (chaQ i 1) (chaQ i 3) 16) (chaQ i 2) (chaQ i 3) (chaQ i 1) 12) (chaQ i 0) (chaQ i 1) (chaQ i 3) 8) (chaQ i 2) (chaQ i 3) (chaQ i 1) 7
@[irreducible] def chaDouble (f : Nat → Nat) (k : Nat) : Nat → Nat := (List.range k).foldl chaQuarter f
@[irreducible] def chaRounds (f : Nat → Nat) (t : Nat) : Nat → Nat := (List.range t).foldl (fun f _ => chaDouble f 8) f
theorem chaDouble_zero (f : Nat → Nat) : chaDouble f 0 = f := by unfold chaDouble; rfl
theorem chaDouble_succ (f : Nat → Nat) (k : Nat) : chaDouble f (k + 1) = chaQuarter (chaDouble f k) k := by unfold chaDouble; rw [List.range_succ, List.foldl_append]; rfl
theorem chaRounds_zero (f : Nat → Nat) : chaRounds f 0 = f := by unfold chaRounds; rfl
theorem chaRounds_succ (f : Nat → Nat) (k : Nat) : chaRounds f (k + 1) = chaDouble (chaRounds f k) 8 := by unfold chaRounds; rw [List.range_succ, List.foldl_append]; rfl
theorem chaAdd_lt (f : Nat → Nat) (a b d n : Nat) (hf : ∀ i, f i < 4294967296) (hn : n ≤ 32) : ∀ i, chaAdd f a b d n i < 4294967296 := by
  intro i
  unfold chaAdd upd
  split
  · exact rotl_lt _ _ (Nat.xor_lt_two_pow (n := 32) (hf d) (Nat.mod_lt _ (by omega))) hn
  · split
    · exact Nat.mod_lt _ (by omega)
    · exact hf i
theorem chaQuarter_lt (f : Nat → Nat) (i : Nat) (hf : ∀ i, f i < 4294967296) : ∀ k, chaQuarter f i k < 4294967296 :=
  chaAdd_lt _ _ _ _ _ (chaAdd_lt _ _ _ _ _ (chaAdd_lt _ _ _ _ _ (chaAdd_lt _ _ _ _ _ hf (by omega)) (by omega)) (by omega)) (by omega)
theorem chaDouble_lt (f : Nat → Nat) (hf : ∀ i, f i < 4294967296) (k : Nat) : ∀ i, chaDouble f k i < 4294967296 := by
  induction k with
  | zero => rw [chaDouble_zero]; exact hf
  | succ k ih => rw [chaDouble_succ]; exact chaQuarter_lt _ _ ih
theorem chaRounds_lt (f : Nat → Nat) (hf : ∀ i, f i < 4294967296) (k : Nat) : ∀ i, chaRounds f k i < 4294967296 := by
  induction k with
  | zero => rw [chaRounds_zero]; exact hf
  | succ k ih => rw [chaRounds_succ]; exact chaDouble_lt _ ih _
theorem chaQ_ok : ∀ i, i < 8 → chaQ i 0 < 16 ∧ chaQ i 1 < 16 ∧ chaQ i 2 < 16 ∧ chaQ i 3 < 16 ∧ chaQ i 0 ≠ chaQ i 1 ∧ chaQ i 0 ≠ chaQ i 3 ∧ chaQ i 2 ≠ chaQ i 3 ∧ chaQ i 2 ≠ chaQ i 1 := by decide

/-- The bytes of the words, the first k of them. -/
def chaOut (r f : Nat → Nat) (k : Nat) : List UInt8 := ((List.range k).map fun i => putB ((r i + f i) % 4294967296) 4).flatten
theorem chaOut_length (r f : Nat → Nat) (k : Nat) : (chaOut r f k).length = 4 * k := by
  induction k with
  | zero => rfl
  | succ k ih => unfold chaOut at *; rw [List.range_succ, List.map_append, List.flatten_append, List.length_append, ih]; simp [putB_length]; omega
theorem chaOut_succ (r f : Nat → Nat) (k : Nat) : chaOut r f (k + 1) = chaOut r f k ++ putB ((r k + f k) % 4294967296) 4 := by
  unfold chaOut; rw [List.range_succ, List.map_append, List.flatten_append]; simp
/-- ChaCha20's 64 bytes. -/
@[irreducible] def chaBlock (key : List UInt8) (counter : Nat) (nonce : List UInt8) : List UInt8 :=
  chaOut (chaRounds (chaFirst key counter nonce) 10) (chaFirst key counter nonce) 16
theorem chaBlock_length (key : List UInt8) (counter : Nat) (nonce : List UInt8) : (chaBlock key counter nonce).length = 64 := by unfold chaBlock; rw [chaOut_length]
theorem chaFirst_lt (key : List UInt8) (counter : Nat) (nonce : List UInt8) (hc : counter < 4294967296) (i : Nat) : chaFirst key counter nonce i < 4294967296 := by
  unfold chaFirst
  split
  · have h : ∀ x ∈ cha4, x < 4294967296 := by decide
    rw [List.getD_eq_getElem?_getD]
    by_cases hi : i < cha4.length
    · rw [List.getElem?_eq_getElem hi]; exact h _ (List.getElem_mem hi)
    · rw [List.getElem?_eq_none (by omega)]; exact Nat.zero_lt_of_ne_zero (by omega)
  · split
    · exact chunk4_lt _ _
    · split
      · exact hc
      · exact chunk4_lt _ _

def quarterCells : List Value := quarterTab.map fun (x : Nat) => Value.int .i64 (x : Int)
theorem quarters_at {w : World} (h : Tabs w) : w.rangeAt 0 0 quarterCells := by
  intro j v hj
  unfold quarterCells at hj
  rw [List.getElem?_map] at hj
  rw [Nat.zero_add]
  have hlt : j < 32 := by
    rcases Nat.lt_or_ge j 32 with h | h
    · exact h
    · rw [List.getElem?_eq_none (by show quarterTab.length ≤ j; exact h)] at hj; cases hj
  rw [h.q j hlt, List.getD_eq_getElem?_getD]
  cases hq : quarterTab[j]? with
  | none => rw [hq] at hj; cases hj
  | some x => rw [hq] at hj; exact hj

theorem run_index_agg {P : Program} (w : World) (t e : TypeId) (n : Nat) (cs : Array Value) (kd : IntKind) (k s : Nat) (hu : P.underlying t = some (.array n e)) (hlt : k < n)
    (d : TypeDesc) (hd : P.underlying e = some d) (hr : d.isRow = true) (hs : (P.info? e).map (·.size) = some s) : (Instr.index t (.agg cs) (.int kd (k : Int))).run P w = .ok (.agg (cs.extract (k * s) (k * s + s))) w := by
  cases hq : P.info? e with
  | none => simp [hq] at hs
  | some q =>
    have hs1 : q.size = s := by simpa [hq] using hs
    have hagg : (isAgg e).run P w = .ok true w := by
      unfold isAgg
      rw [Sem.run_bind, run_underlying hd w]
      cases d <;> simp_all
    simp only [Instr.index, asIntOf, Sem.run_bind, Sem.run_pure, Result.andThen_ok, run_underlying hu]
    rw [if_pos ⟨by omega, by omega⟩]
    simp [Sem.run_bind, sizeOf, typeInfo, hq, hs1, part, hagg, Result.andThen]
theorem wpList_index_agg {P : Program} {ops : Array Oper} {rest : List Oper} {o : Oper} {a : Act} {w : World} {Q : Exit → Act → World → Prop} (hgd : o.guard = none) (ty : TypeId) (x i : Operand) (ho : o.op = .index ty x i)
    (n : Nat) (e : TypeId) (cs : Array Value) (kd : IntKind) (k s : Nat) (hx : a.eval x = .agg cs) (hi : a.eval i = .int kd (k : Int)) (hu : P.underlying ty = some (.array n e)) (hlt : k < n)
    (d : TypeDesc) (hd : P.underlying e = some d) (hr : d.isRow = true) (hs : (P.info? e).map (·.size) = some s) (part' : Array Value) (hp : cs.extract (k * s) (k * s + s) = part')
    (h : wpList P ops Q rest (a.put o.dst (.agg part')) w) : wpList P ops Q (o :: rest) a w := by
  refine wpList_plain hgd fun K hK' => ?_
  subst hp
  unfold Oper.wp
  simp only [execOp, ho, hx, hi, Sem.run_bind, Sem.run_pure, Result.andThen_ok, run_index_agg w ty e n cs kd k s hu hlt d hd hr hs]
  exact hK' _ _ h
def quarterRow (k : Nat) : Array Value := #[.int .i64 (chaQ k 0 : Int), .int .i64 (chaQ k 1 : Int), .int .i64 (chaQ k 2 : Int), .int .i64 (chaQ k 3 : Int)]
theorem quarterRow_at (k : Nat) (h : k < 8) : quarterCells.toArray.extract (k * 4) (k * 4 + 4) = quarterRow k := by
  match k, h with
  | 0, _ => rfl
  | 1, _ => rfl
  | 2, _ => rfl
  | 3, _ => rfl
  | 4, _ => rfl
  | 5, _ => rfl
  | 6, _ => rfl
  | 7, _ => rfl
theorem run_sliceAt_from {P : Program} (w : World) (t e : TypeId) (n g : Nat) (kd : IntKind) (i : Nat) (ht : P.underlying t = some (.array n e)) (hs : (P.info? e).map (·.size) = some 1) (hi : i < n) :
    (Instr.sliceAt t (.pointer (some ⟨g, 0, none⟩)) (some (.int kd (i : Int))) none none).run P w = .ok (.slice (some ⟨g, i, none⟩) (n - i) (n - i)) w := by
  cases hq : P.info? e with
  | none => simp [hq] at hs
  | some q =>
    have hs1 : q.size = 1 := by simpa [hq] using hs
    have ha : (⟨g, 0, none⟩ : Addr).add i = ⟨g, i, none⟩ := by unfold Addr.add; split <;> simp_all
    simp [Instr.sliceAt, Instr.sureAddr, run_underlying ht, Instr.sliceBounds, Instr.sliceBound, asIntOf, Sem.run_bind, Sem.run_pure, Result.andThen, sizeOf, typeInfo, hq, hs1, show ¬ n = i by omega, show i ≤ n by omega, ha]
/-- wpList_copy_blk, as one step of a region that draws its order. -/
theorem step_copy_blk {P : Program} {ops : Array Oper} {o : Oper} {a : Act} {w : World} {K : Act → World → Prop} {Q : Exit → Act → World → Prop} {E : Prop} (hgd : o.guard = none) (d s : Operand) (dT sT : TypeId)
    (ho : o.op = .call { callee := .builtin .copy, args := #[d, s], argTypes := #[dT, sT] }) (elem : TypeId) (hu : P.underlying dT = some (.slice elem)) (hsz : (P.info? elem).map (·.size) = some 1)
    (g off : Nat) (A : Option Addr) (dLen dCap sLen sCap : Nat) (hd : a.eval d = .slice (some ⟨g, off, none⟩) dLen dCap) (hs : a.eval s = .slice A sLen sCap)
    (t : TypeId) (cur : List Value) (hg : Blk w g t cur.toArray) (B : Nat) (xs : List Value) (hr : Reads w B 1 A sLen xs) (hfit : off + dLen ≤ cur.length) (h1 : ∀ v ∈ xs, v.oneCell' = true)
    (h : ∀ w', Blk w' g t (splice cur off (xs.take dLen)).toArray → w.grownBy w' (some g) → w'.heap.size = w.heap.size → K (a.put o.dst (goInt (xs.take dLen).length)) w') :
    if Region.wanted o (yielded ops a.tmps) = true then Oper.wp P o a w K Q else E := by
  have hw : Region.wanted o (yielded ops a.tmps) = true := by simp [Region.wanted, hgd]
  rw [if_pos hw]
  have hxl : xs.length = sLen := by have := hr.1; omega
  have hcl : (xs.take dLen).length = Nat.min sLen dLen := by rw [List.length_take, hxl]; exact Nat.min_comm _ _
  by_cases h0 : (xs.take dLen).length = 0
  · have e : xs.take dLen = [] := List.eq_nil_of_length_eq_zero h0
    have hrun := run_copy_none (P := P) w dT sT o.type elem (some ⟨g, off, none⟩) A dLen dCap sLen sCap hu hsz (by rw [← hcl]; exact h0)
    unfold Oper.wp
    simp only [execOp, ho, resolve, invoke, builtin, Sem.run_bind, Sem.run_pure, Result.andThen_ok, List.map_toArray, List.map_cons, List.map_nil, hd, hs, hrun]
    have := h w (by rw [e]; simpa [splice] using hg) (World.grownBy.refl w _) rfl
    rwa [e] at this
  · have hmin : Nat.min sLen dLen ≤ sLen := Nat.min_le_left _ _
    have hmin2 : Nat.min sLen dLen ≤ dLen := Nat.min_le_right _ _
    obtain ⟨ad, rfl, hb, hcell⟩ := hr.2 (by omega)
    have hrun := run_copy_row (P := P) w dT sT o.type elem g off dLen dCap ad sLen sCap cur.toArray t (xs.take dLen) hu hsz hg hcl (fun j v hv => hcell j v (by
      rw [List.getElem?_take] at hv
      split at hv
      · exact hv
      · cases hv)) (by rw [hcl]; simp; omega) (fun v hv => h1 v (List.mem_of_mem_take hv))
    unfold Oper.wp
    simp only [execOp, ho, resolve, invoke, builtin, Sem.run_bind, Sem.run_pure, Result.andThen_ok, List.map_toArray, List.map_cons, List.map_nil, hd, hs, hrun]
    exact h _ (show _ = _ by simpa [splice] using setRow_heap w g _ _ t _ hg) (grownBy_setRow _ _ _) (by simp)
/-- Some bytes of a block, told anew. -/
theorem splice_out (r f : Nat → Nat) (k : Nat) (h : k < 16) :
    splice (bs (chaOut r f k ++ List.replicate (64 - 4 * k) 0)) (4 * k) ((bs (putB ((r k + f k) % 4294967296) 4)).take (64 - 4 * k)) = bs (chaOut r f (k + 1) ++ List.replicate (64 - 4 * (k + 1)) 0) := by
  obtain ⟨m, hm⟩ : ∃ m, 64 - 4 * k = 4 + m := ⟨60 - 4 * k, by omega⟩
  have hm' : 64 - 4 * (k + 1) = m := by omega
  have hl : (chaOut r f k).length = 4 * k := chaOut_length r f k
  rw [hm, hm', chaOut_succ, List.take_of_length_le (by rw [bs_length, putB_length]; omega)]
  unfold splice
  have e : bs (chaOut r f k ++ List.replicate (4 + m) 0) = bs (chaOut r f k) ++ bs (List.replicate (4 + m) 0) := bs_append _ _
  rw [e, List.take_left' (by rw [bs_length, hl]), bs_append, bs_append, List.append_assoc]
  congr 2
  rw [bs_length, putB_length, List.drop_append, bs_length, hl, Nat.add_sub_cancel_left, List.drop_of_length_le (by rw [bs_length, hl]; omega)]
  simp [bs]
set_option maxRecDepth 100000 in
set_option maxHeartbeats 4000000 in
theorem block_any (key : List UInt8) (counter : Nat) (nonce : List UInt8) (w : World) (hk : key.length = 32) (hn : nonce.length = 12) (hc : counter < 4294967296) (hT : Tabs w) :
    Calls Tryz.prog 90 #[.agg (bs key).toArray, .int .u32 (counter : Int), .agg (bs nonce).toArray] w fun e w' => e = .returned (.agg (bs (chaBlock key counter nonce)).toArray) ∧ Below w.heap.size w w' := by
  have z1 : (bs key).toArray.size = 32 := by simp [bs_length, hk]
  have z2 : (bs nonce).toArray.size = 12 := by simp [bs_length, hn]
  have hFl := chaFirst_lt key counter nonce hc
  have hB0 : Hid (chaBlock key counter nonce = chaOut (chaRounds (chaFirst key counter nonce) 10) (chaFirst key counter nonce) 16) := by unfold chaBlock; exact rfl
  have hw0 : ∀ W, Calls Tryz.prog 110 #[.agg (bs key).toArray, .int .u32 (counter : Int), .agg (bs nonce).toArray] W fun e w' => e = .returned (.agg (fw 16 (chaFirst key counter nonce))) ∧ Below W.heap.size W w' := fun W => cwords_any key counter nonce W hk hn hc
  generalize chaFirst key counter nonce = F at *
  have sF := fw_size 16 F
  have oF := fw_one 16 F
  generalize hcs : fw 16 F = cs at *
  have HCS := Lib.hid hcs
  have SF := Lib.hid sF
  have OF := Lib.hid oF
  have Hk := Lib.hid hk
  have Hn := Lib.hid hn
  have Z1 := Lib.hid z1
  have Z2 := Lib.hid z2
  clear hcs sF oF hk hn z1 z2
  go_enter Tryz.func90, Tryz.ntmps90
  have k2 : Blk (((w.alloc (.cells (bs key).toArray 23)).alloc (.cells (bs nonce).toArray 154)).alloc (.cells (bs (List.replicate 64 0)).toArray 177)) (w.heap.size + 2) 177 (bs (List.replicate 64 0)).toArray := Blk.new_of (by simp) rfl
  have kw : Below w.heap.size w (((w.alloc (.cells (bs key).toArray 23)).alloc (.cells (bs nonce).toArray 154)).alloc (.cells (bs (List.replicate 64 0)).toArray 177)) := (((Below.refl _ w).alloc (Nat.le_refl _) _).alloc (by simp) _).alloc (by simp; omega) _
  go_wp2_with (first | ((with_reducible refine wpList_load_blk (o := ⟨some 15, _, _, _, _, _⟩) rfl 23 _ rfl w.heap.size rfl 23 _ _ (((Blk.new_of rfl rfl).alloc _).alloc _) Tryz.underlying23 rfl (by rw [Z1.out]; kernel_rfl) ?_)) | ((with_reducible refine wpList_load_blk (o := ⟨some 17, _, _, _, _, _⟩) rfl 154 _ rfl (w.heap.size + 1) rfl 154 _ _ ((Blk.new_of (by simp) rfl).alloc _) Tryz.underlying154 rfl (by rw [Z2.out]; kernel_rfl) ?_)) | (go_at_call 110; refine (hw0 _).mono ?_; rintro e w1 ⟨rfl, hb1⟩) | ((with_reducible refine wpList_store_blk (o := ⟨none, .store 197 (.tmp 7) (.tmp 18), _, _, _, _⟩) rfl 197 (.tmp 7) (.tmp 18) rfl w1.heap.size cs rfl rfl 197 _ (Blk.new_of rfl rfl) (by rw [SF.out]; kernel_rfl) (by rw [SF.out]; kernel_rfl) OF.out ?_); intro w2 hb2 hg2 hs2) | ((with_reducible refine wpList_load_blk (o := ⟨some 19, _, _, _, _, _⟩) rfl 197 _ rfl w1.heap.size rfl 197 _ _ hb2 Tryz.underlying197 rfl (by rw [SF.out]; kernel_rfl) ?_)) | ((with_reducible refine wpList_store_blk (o := ⟨none, .store 197 (.tmp 8) (.tmp 19), _, _, _, _⟩) rfl 197 (.tmp 8) (.tmp 19) rfl (w1.heap.size + 1) cs rfl rfl 197 _ (Blk.new_of (by rw [hs2]; simp) rfl) (by rw [SF.out]; kernel_rfl) (by rw [SF.out]; kernel_rfl) OF.out ?_); intro w3 hb3 hg3 hs3))
  have kw1 : Below w.heap.size w w1 := kw.trans (hb1.mono kw.size)
  have hsz1 : w.heap.size + 3 ≤ w1.heap.size := by have := hb1.size; simp at this; omega
  have kz : Blk w1 (w.heap.size + 2) 177 (bs (List.replicate 64 0)).toArray := k2.below hb1 k2.lt
  have kw2 : Below w.heap.size w w2 := (kw1.alloc kw1.size _).grown hg2 (by simp; omega) (fun k hk => by injection hk with hk; omega)
  have kz2 : Blk w2 (w.heap.size + 2) 177 (bs (List.replicate 64 0)).toArray := (kz.alloc _).grown hg2 (fun e => by injection e with e; omega)
  have hsz2 : w2.heap.size = w1.heap.size + 1 := by rw [hs2]; simp
  have kw3 : Below w.heap.size w w3 := (kw2.alloc kw2.size _).grown hg3 (by simp; omega) (fun k hk => by injection hk with hk; omega)
  have kz3 : Blk w3 (w.heap.size + 2) 177 (bs (List.replicate 64 0)).toArray := (kz2.alloc _).grown hg3 (fun e => by injection e with e; omega)
  have kf3 : Blk w3 w1.heap.size 197 cs := (hb2.alloc _).grown hg3 (fun e => by injection e with e; omega)
  have hsz3 : w3.heap.size = w1.heap.size + 2 := by rw [hs3]; simp [hsz2]
  have kt : w.heap.size > 1 + 0 := hT.size
  rw [← HCS.out] at hb3
  clear kw kz kw2 kz2 kw1 hg2 hg3 hs2 hs3 hsz2 hb1 hb2 k2
  rw [← chaRounds_zero F] at hb3
  generalize w1.heap.size = g7 at *
  go_loopw [21] (fun ix wr => ∃ t : Nat, t ≤ 10 ∧ ix = .int .i64 t ∧ Blk wr (g7 + 1) 197 (fw 16 (chaRounds F t)) ∧ Blk wr g7 197 cs ∧ Blk wr (w.heap.size + 2) 177 (bs (List.replicate 64 0)).toArray ∧ Below w.heap.size w wr) (fun ix _ => 10 - (intOf ix).toNat)
  case atStart =>
    have h : Blk w3 (g7 + 1) 197 (fw 16 (chaRounds F 0)) := by rw [chaRounds_zero, HCS.out]; rw [chaRounds_zero, HCS.out] at hb3; exact hb3
    exact ⟨0, by omega, rfl, h, kf3, kz3, kw3⟩
  case round =>
    clear hb3 kf3 kz3 kw3 hsz3
    obtain ⟨t, ht, rfl, b8, b7, bz, hw⟩ := hrel
    by_cases hlt : t < 10
    · have hT1 := quarters_at (hT.below hw hT.size)
      have hqs : quarterCells.length = 32 := by decide
      go_wp2_with (with_reducible refine wpList_load_mid (op := ⟨some 23, _, _, _, _, _⟩) rfl 202 _ rfl 0 0 rfl quarterCells _ hT1 Tryz.underlying202 rfl (by rw [hqs]; kernel_rfl) ?_)
      have e23 : quarterCells.toArray = quarterCells.toArray := rfl
      have HRl := fun i => chaRounds_lt F hFl t i
      have HRs := chaRounds_succ F t
      generalize chaRounds F t = R at *
      have HRS := Lib.hid HRs
      clear HRs e23
      go_loopw [24] (fun ix wr => ∃ k : Nat, k ≤ 8 ∧ ix = .int .i64 k ∧ Blk wr (g7 + 1) 197 (fw 16 (chaDouble R k)) ∧ Blk wr g7 197 cs ∧ Blk wr (w.heap.size + 2) 177 (bs (List.replicate 64 0)).toArray ∧ Below w.heap.size w wr) (fun ix _ => 8 - (intOf ix).toNat)
      case atStart => exact ⟨0, by omega, rfl, by rw [chaDouble_zero]; exact b8, b7, bz, hw⟩
      case round =>
        clear b8 b7 bz hw
        obtain ⟨k, hk, rfl, b8, b7, bz, hw⟩ := hrel
        by_cases hlt2 : k < 8
        · have hqr := quarterRow_at k hlt2
          have hok := chaQ_ok k hlt2
          have hDs := chaDouble_succ R k
          have hDl := chaDouble_lt R HRl k
          unfold chaQuarter at hDs
          unfold quarterRow at hqr
          obtain ⟨hq0, hq1, hq2, hq3, hq01, hq03, hq23, hq21⟩ := hok
          generalize chaQ k 0 = q0 at *
          generalize chaQ k 1 = q1 at *
          generalize chaQ k 2 = q2 at *
          generalize chaQ k 3 = q3 at *
          have HDS := Lib.hid hDs
          have HQR := Lib.hid hqr
          clear hDs hqr hT1
          generalize chaDouble R k = D at *
          have hl1 := chaAdd_lt D q0 q1 q3 16 hDl (by omega)
          have hl2 := chaAdd_lt _ q2 q3 q1 12 hl1 (by omega)
          have hl3 := chaAdd_lt _ q0 q1 q3 8 hl2 (by omega)
          have eg := enters_of Tryz.func111 (by kernel_rfl) rfl
          have hb0 := b8.alloc (.cells #[.int .i64 (q0 : Int), .int .i64 (q1 : Int), .int .i64 (q2 : Int), .int .i64 (q3 : Int)] 201)
          have hq0b : Blk (wr.alloc (.cells #[.int .i64 (q0 : Int), .int .i64 (q1 : Int), .int .i64 (q2 : Int), .int .i64 (q3 : Int)] 201)) wr.heap.size 201 #[.int .i64 (q0 : Int), .int .i64 (q1 : Int), .int .i64 (q2 : Int), .int .i64 (q3 : Int)] := Blk.new_of rfl rfl
          have hlt8 : g7 + 1 < wr.heap.size := b8.lt
          have c1 := fun W (h : Blk W (g7 + 1) 197 (fw 16 D)) => quarter_any (g7 + 1) q0 q1 q3 16 _ W h hDl (by omega) (by omega) (by omega) (by omega) (by omega) (by omega) (by omega)
          simp only [show ((16 : Nat) : Int) = 16 from rfl] at c1
          have c2 := fun W (h : Blk W (g7 + 1) 197 (fw 16 (chaAdd D q0 q1 q3 16))) => quarter_any (g7 + 1) q2 q3 q1 12 _ W h hl1 (by omega) (by omega) (by omega) (by omega) (by omega) (by omega) (by omega)
          simp only [show ((12 : Nat) : Int) = 12 from rfl] at c2
          have c3 := fun W (h : Blk W (g7 + 1) 197 (fw 16 (chaAdd (chaAdd D q0 q1 q3 16) q2 q3 q1 12))) => quarter_any (g7 + 1) q0 q1 q3 8 _ W h hl2 (by omega) (by omega) (by omega) (by omega) (by omega) (by omega) (by omega)
          simp only [show ((8 : Nat) : Int) = 8 from rfl] at c3
          have c4 := fun W (h : Blk W (g7 + 1) 197 (fw 16 (chaAdd (chaAdd (chaAdd D q0 q1 q3 16) q2 q3 q1 12) q0 q1 q3 8))) => quarter_any (g7 + 1) q2 q3 q1 7 _ W h hl3 (by omega) (by omega) (by omega) (by omega) (by omega) (by omega) (by omega)
          simp only [show ((7 : Nat) : Int) = 7 from rfl] at c4
          go_wp2_with (first | (with_reducible refine wpList_index_agg (o := ⟨some 26, _, _, _, _, _⟩) rfl 202 (.tmp 23) (.tmp 24) rfl 8 201 quarterCells.toArray .i64 k 4 rfl rfl Tryz.underlying202 hlt2 _ Tryz.underlying201 rfl (by kernel_rfl) _ HQR.out ?_) | (refine (c4 _ x3).mono ?_; rintro e v4 ⟨rfl, x4, y4, z4⟩; have p4 := Blk.grown p3 y4 (fun e => by injection e with e; omega)) | (refine (c3 _ x2).mono ?_; rintro e v3 ⟨rfl, x3, y3, z3⟩; have p3 := Blk.grown p2 y3 (fun e => by injection e with e; omega); have a30 : v3.cell? ⟨wr.heap.size, 0, none⟩ = some (.int .i64 (q0 : Int)) := p3.cell 0; have a31 : v3.cell? ⟨wr.heap.size, 1, none⟩ = some (.int .i64 (q1 : Int)) := p3.cell 1; have a32 : v3.cell? ⟨wr.heap.size, 2, none⟩ = some (.int .i64 (q2 : Int)) := p3.cell 2; have a33 : v3.cell? ⟨wr.heap.size, 3, none⟩ = some (.int .i64 (q3 : Int)) := p3.cell 3) | (refine (c2 _ x1).mono ?_; rintro e v2 ⟨rfl, x2, y2, z2⟩; have p2 := Blk.grown p1 y2 (fun e => by injection e with e; omega); have a20 : v2.cell? ⟨wr.heap.size, 0, none⟩ = some (.int .i64 (q0 : Int)) := p2.cell 0; have a21 : v2.cell? ⟨wr.heap.size, 1, none⟩ = some (.int .i64 (q1 : Int)) := p2.cell 1; have a22 : v2.cell? ⟨wr.heap.size, 2, none⟩ = some (.int .i64 (q2 : Int)) := p2.cell 2; have a23 : v2.cell? ⟨wr.heap.size, 3, none⟩ = some (.int .i64 (q3 : Int)) := p2.cell 3) | (refine (c1 _ hb0).mono ?_; rintro e v1 ⟨rfl, x1, y1, z1⟩; have p1 := Blk.grown hq0b y1 (fun e => by injection e with e; omega); have a10 : v1.cell? ⟨wr.heap.size, 0, none⟩ = some (.int .i64 (q0 : Int)) := p1.cell 0; have a11 : v1.cell? ⟨wr.heap.size, 1, none⟩ = some (.int .i64 (q1 : Int)) := p1.cell 1; have a12 : v1.cell? ⟨wr.heap.size, 2, none⟩ = some (.int .i64 (q2 : Int)) := p1.cell 2; have a13 : v1.cell? ⟨wr.heap.size, 3, none⟩ = some (.int .i64 (q3 : Int)) := p1.cell 3))
          have hgg := grownBy_trans (grownBy_trans (grownBy_trans y1 y2) y3) y4
          have hw4 := (hw.alloc hw.size _).grown hgg (by have := hw.size; simp; omega) (fun k e => by injection e with e; omega)
          have n7 := (b7.alloc _).grown hgg (fun e => by injection e with e; omega)
          have nz := (bz.alloc _).grown hgg (fun e => by injection e with e; omega)
          rw [← HDS.out] at x4
          clear hgg b7 bz hw x1 x2 x3
          go_roundw
          case rel => exact ⟨k + 1, by omega, by go_num, x4, n7, nz, hw4⟩
          case measure => simp [intOf]; omega
        · have h8 : k = 8 := by omega
          rw [h8, ← HRS.out] at b8
          have hps : 8 ≤ k := by omega
          clear h8 hk hlt2 HRS hT1
          go_wp2
          go_roundw
          case rel => exact ⟨t + 1, by omega, by go_num, b8, b7, bz, hw⟩
          case measure => simp [intOf]; omega
    · have h10 : t = 10 := by omega
      rw [h10] at b8
      have hps : 10 ≤ t := by omega
      have hRl := chaRounds_lt F hFl 10
      generalize chaRounds F 10 = R at *
      have sR := fw_size 16 R
      generalize hrs : fw 16 R = rs at *
      have HRS := Lib.hid hrs
      have SR := Lib.hid sR
      clear h10 ht hlt hrs sR
      go_wp2_with (with_reducible refine wpList_load_blk (o := ⟨some 61, _, _, _, _, _⟩) rfl 197 _ rfl (g7 + 1) rfl 197 _ _ (b8.alloc _) Tryz.underlying197 rfl (by rw [SR.out]; kernel_rfl) ?_)
      have bo : Blk (wr.alloc (.cells (bs (List.replicate 64 0)).toArray 177)) wr.heap.size 177 (bs (List.replicate 64 0)).toArray := Blk.new_of rfl rfl
      have hlt7 := b7.lt
      have hltz := bz.lt
      have hwsz := hw.size
      generalize wr.heap.size = gO at *
      go_loopw [62] (fun ix wq => ∃ k : Nat, k ≤ 16 ∧ ix = .int .i64 k ∧ Blk wq gO 177 (bs (chaOut R F k ++ List.replicate (64 - 4 * k) 0)).toArray ∧ Blk wq g7 197 cs ∧ Blk wq (w.heap.size + 2) 177 (bs (List.replicate 64 0)).toArray ∧ Below w.heap.size w wq) (fun ix _ => 16 - (intOf ix).toNat)
      case atStart => exact ⟨0, by omega, rfl, bo, b7.alloc _, bz.alloc _, hw.alloc (by have := hw.size; omega) _⟩
      case round =>
        clear bo b7 bz b8 hw
        obtain ⟨k, hk, rfl, bo, b7, bz, hw⟩ := hrel
        by_cases hlt : k < 16
        · have hidx := fun W => run_index_arr (P := Tryz.prog) W 197 59 16 rs .i64 k (.int .u32 (R k : Int)) Tryz.underlying197 hlt (by kernel_rfl) (by kernel_rfl) (by rw [← HRS.out]; exact fw_get 16 R k hlt)
          have hck : wr.cell? ⟨g7, k, none⟩ = some (.int .u32 (F k : Int)) := (b7.cell k).trans (by rw [← HCS.out]; exact fw_get 16 F k hlt)
          have hRk := hRl k
          have hFk := hFl k
          have hspl := splice_out R F k hlt
          have HSPL := Lib.hid hspl
          have HRL := Lib.hid hRl
          clear hspl hRl
          generalize hrk : R k = rk at *
          generalize hfk : F k = fk at *
          have HRK := Lib.hid hrk
          have HFK := Lib.hid hfk
          clear hrk hfk
          have ik : (k : Int) < 16 := by omega
          have jk : (0 : Int) ≤ (k : Int) := by omega
          have tk : ((k : Int)).toNat = k := by omega
          have i4 : (0 : Int) ≤ 4 * (k : Int) := by omega
          have j4 : 4 * (k : Int) ≤ 64 := by omega
          have t4 : (4 * (k : Int)).toNat = 4 * k := by omega
          have u4 : (64 - 4 * (k : Int)).toNat = 64 - 4 * k := by omega
          have hlw := hw.size
          have hput : ∀ W, Calls Tryz.prog 45 #[.int .u64 (((rk : Int) + (fk : Int)) % 4294967296), .int .i64 4] W fun e w' => e = .returned (.slice (some ⟨W.heap.size, 0, none⟩) 4 4) ∧ Reads w' w'.heap.size 1 (some ⟨W.heap.size, 0, none⟩) 4 (bs (putB ((rk + fk) % 4294967296) 4)) ∧ Below W.heap.size W w' := by
            intro W
            have h := wput ((rk + fk) % 4294967296) 4 W (by omega) (by omega) (by omega)
            simp only [Int.natCast_emod, Int.natCast_add, show ((4294967296 : Nat) : Int) = 4294967296 from rfl, show ((4 : Nat) : Int) = 4 from rfl] at h
            refine h.mono fun e w' h => ⟨h.1, ?_, h.2.2.2⟩
            have h2 : Blk w' W.heap.size 5 (bs (putB ((rk + fk) % 4294967296) 4)).toArray := by have h2 := h.2.1; simpa [putCells] using h2
            have h3 := h2.reads
            rw [putB_length] at h3
            exact h3
          have hltO := bo.lt
          have h7O : some g7 ≠ some gO := fun e => by injection e with e; omega
          have hsl := fun W => run_sliceAt_from (P := Tryz.prog) W 177 5 64 gO .i64 (4 * k) Tryz.underlying177 (by kernel_rfl) (by omega)
          simp only [show ((4 * k : Nat) : Int) = 4 * (k : Int) from by simp] at hsl
          have hlt7' := b7.lt
          generalize (rk + fk) % 4294967296 = px at *
          have hsz : (Tryz.prog.info? 5).map (·.size) = some 1 := by kernel_rfl
          go_wp2
          have hwr : IntKind.i64.wrap (4 * (k : Int)) = 4 * (k : Int) := by rw [IntKind.wrap_i64]; omega
          have hw32 : IntKind.u32.wrap ((rk : Int) + (fk : Int)) = ((rk : Int) + (fk : Int)) % 4294967296 := IntKind.wrap_u32 _
          have hw64 : IntKind.u64.wrap (((rk : Int) + (fk : Int)) % 4294967296) = ((rk : Int) + (fk : Int)) % 4294967296 := by rw [IntKind.wrap_u64]; omega
          have HB := Lib.hid b7
          have HBO := Lib.hid bo
          clear b7 bo
          go_region_held3 (fun w' => w'.cell? ⟨g7, k, none⟩ = some (.int .u32 (fk : Int)))
            (first | go_keep | (exact (hb9.cell (p := ⟨g7, k, none⟩) hlt7').trans hck) | (exact hg8.cell ((hb9.cell (p := ⟨g7, k, none⟩) hlt7').trans hck) h7O))
            (first | (go_at_call 45; with_reducible refine (hput _).mono ?_; rintro e w9 ⟨rfl, h9r, hb9⟩) | ((refine step_copy_blk (by rfl) (.tmp 68) (.tmp 75) 55 55 (by rfl) 5 Tryz.underlying55 hsz gO (4 * k) (some ⟨wr.heap.size, 0, none⟩) (64 - 4 * k) (64 - 4 * k) 4 4 (by rfl) (by rfl) 177 _ (Blk.below (Blk.drew HBO.out) hb9 hltO) w9.heap.size _ h9r (by rw [bs_length, List.length_append, chaOut_length, List.length_replicate]; omega) bs_one ?_; intro w8 h8 hg8 hs8)))
          rw [HSPL.out] at h8
          have hb9' : Below w.heap.size w w9 := hw.trans ((below_of_drewN (n := 1) hb9).mono hlw)
          have n7 := ((Blk.drew HB.out).below hb9 hlt7').grown hg8 h7O
          have nz := ((Blk.drew bz).below hb9 bz.lt).grown hg8 (fun e => by injection e with e; omega)
          have nw := hb9'.grown hg8 hb9'.size (fun k e => by injection e with e; omega)
          clear HB HBO bz hw hb9 h9r hg8 hwr hw32 hw64 hidx hck hb9'
          go_wp2
          go_roundw
          case rel => exact ⟨k + 1, by omega, by go_num, h8, n7, nz, nw⟩
          case measure => simp [intOf]; omega
        · have h16 : k = 16 := by omega
          have hps2 : 16 ≤ k := by omega
          rw [h16, show 64 - 4 * 16 = 0 from rfl, List.replicate_zero, List.append_nil, ← hB0.out] at bo
          have y1 : (bs (chaBlock key counter nonce)).toArray.size = 64 := by rw [List.size_toArray, bs_length, chaBlock_length]
          have y2 : (bs (chaBlock key counter nonce)).toArray.all (·.oneCell') = true := bs_all _
          have y3 : (bs (List.replicate 64 0)).toArray.size = (bs (chaBlock key counter nonce)).toArray.size := by rw [y1]; simp [bs_length]
          generalize hfin : (bs (chaBlock key counter nonce)).toArray = fin at *
          have HF := Lib.hid hfin
          have Y1 := Lib.hid y1
          clear h16 hk hlt hfin y1
          go_wp2_with (first | ((with_reducible refine wpList_load_blk (o := ⟨some 78, _, _, _, _, _⟩) rfl 177 _ rfl gO rfl 177 _ _ bo Tryz.underlying177 rfl (by rw [Y1.out]; kernel_rfl) ?_)) | ((with_reducible refine wpList_store_blk (o := ⟨none, .store 177 (.tmp 6) (.tmp 78), _, _, _, _⟩) rfl 177 (.tmp 6) (.tmp 78) rfl (w.heap.size + 2) _ rfl rfl 177 _ bz (by rw [Y1.out]; kernel_rfl) y3 y2 ?_); intro w4 hb4 hg4 hs4))
          exact ret_cell 6 177 rfl rfl (w.heap.size + 2) 177 _ _ rfl hb4 Tryz.underlying177 rfl (by rw [Y1.out]; kernel_rfl) ⟨by rw [HF.out], hw.grown hg4 hw.size (fun k e => by injection e with e; omega)⟩
end Go.Proofs.YtkhebllmnagkmaaGreatDoor
/- ChaCha20 over a row of bytes, plainly: what crypt turns, and that it turns it back. No function of the program is walked here. -/
namespace Go.Proofs.YtkhebllmnagkmaaGreatDoor
open Go.RowKit
set_option linter.unusedVariables false

/-- The stream's byte j. -/
def streamAt (key : List UInt8) (nonce : List UInt8) (j : Nat) : UInt8 := (chaBlock key (j / 64) nonce).getD (j % 64) 0
/-- The first m bytes turned. -/
def cry (key nonce l : List UInt8) (m : Nat) : List UInt8 := l.mapIdx fun j b => if j < m then b ^^^ streamAt key nonce j else b
def crypt (key nonce l : List UInt8) : List UInt8 := cry key nonce l l.length
theorem cry_length (key nonce l : List UInt8) (m : Nat) : (cry key nonce l m).length = l.length := by simp [cry]
theorem crypt_length (key nonce l : List UInt8) : (crypt key nonce l).length = l.length := cry_length _ _ _ _
theorem cry_zero (key nonce l : List UInt8) : cry key nonce l 0 = l := by
  refine List.ext_getElem (cry_length _ _ _ _) fun i h1 h2 => ?_
  simp [cry]
theorem cry_get (key nonce l : List UInt8) (m j : Nat) : (cry key nonce l m)[j]? = l[j]?.map fun b => if j < m then b ^^^ streamAt key nonce j else b := by simp [cry]
theorem crypt_crypt (key nonce l : List UInt8) : crypt key nonce (crypt key nonce l) = l := by
  refine List.ext_getElem? fun j => ?_
  unfold crypt
  rw [cry_get, cry_get, cry_length, Option.map_map]
  cases hj : l[j]? with
  | none => rfl
  | some b =>
    have hlt : j < l.length := (List.getElem?_eq_some_iff.1 hj).1
    simp [hlt, UInt8.xor_assoc]
theorem cry_step (key nonce l : List UInt8) (m : Nat) (b : UInt8) (hb : l[m]? = some b) : (cry key nonce l m).set m (b ^^^ streamAt key nonce m) = cry key nonce l (m + 1) := by
  have hlt : m < l.length := (List.getElem?_eq_some_iff.1 hb).1
  refine List.ext_getElem? fun j => ?_
  rw [List.getElem?_set, cry_length, cry_get, cry_get]
  by_cases h : m = j
  · subst h
    rw [if_pos rfl, if_pos hlt, hb, Option.map_some, if_pos (Nat.lt_succ_self m)]
  · rw [if_neg h]
    cases l[j]? with
    | none => rfl
    | some c =>
      simp only [Option.map_some]
      by_cases h2 : j < m
      · rw [if_pos h2, if_pos (by omega)]
      · rw [if_neg h2, if_neg (by omega)]
theorem bs_set (l : List UInt8) (m : Nat) (b : UInt8) : (bs l).set m (.int .u8 (b.toNat : Int)) = bs (l.set m b) := by unfold bs; rw [List.map_set]
theorem xor_u8 (a b : UInt8) : bits .xor .u8 (a.toNat : Int) (b.toNat : Int) = ((a ^^^ b).toNat : Int) := by
  rw [u8_xor_nat _ _ a.toNat_lt b.toNat_lt, UInt8.toNat_xor]
/-- The nonce of a place and a version. -/
def nonceB (place version : Nat) : List UInt8 := putB place 4 ++ putB version 8
theorem nonceB_length (p v : Nat) : (nonceB p v).length = 12 := by simp [nonceB, putB_length]
/-- A sealed slot. -/
def sealB (key : List UInt8) (place version : Nat) (plain : List UInt8) : List UInt8 := padB (putB version 8 ++ crypt key (nonceB place version) plain) 192
theorem sealB_length (key : List UInt8) (place version : Nat) (plain : List UInt8) : (sealB key place version plain).length = 192 := padB_length _ _
end Go.Proofs.YtkhebllmnagkmaaGreatDoor
/- Words for memory: worlds that differ in some blocks only; a slice of bytes in a block of bytes; the disk as it lies in memory. Plain lemmas over worlds: no function of the program is walked here. -/
namespace Go.Proofs.YtkhebllmnagkmaaGreatDoor
open Go.RowKit
set_option linter.unusedVariables false

/-! ### 1. The kind of a block; worlds that differ in some blocks only -/
def Kind (w : World) (k : Nat) (t : TypeId) : Prop := ∃ cs fr, w.heap[k]? = some (.cells cs t fr)
theorem Kind.lt {w : World} {k : Nat} {t : TypeId} (h : Kind w k t) : k < w.heap.size := by
  obtain ⟨cs, fr, h⟩ := h
  exact (Array.getElem?_eq_some_iff.1 h).1
theorem Kind.same {w w' : World} {k : Nat} {t : TypeId} (h : Kind w k t) (e : w'.heap[k]? = w.heap[k]?) : Kind w' k t := by
  obtain ⟨cs, fr, h⟩ := h
  exact ⟨cs, fr, e.trans h⟩
theorem Kind.uniq {w : World} {k : Nat} {t t' : TypeId} (h : Kind w k t) (h' : Kind w k t') : t = t' := by
  obtain ⟨cs, fr, h⟩ := h
  obtain ⟨cs', fr', h'⟩ := h'
  rw [h] at h'
  injection h' with h'
  injection h'
theorem Blk.kind {w : World} {g : Nat} {t : TypeId} {cs : Array Value} (h : Blk w g t cs) : Kind w g t := ⟨cs, _, h⟩
theorem own_kind {w : World} {base : Nat} {e : TypeId} {size n : Nat} {v : Value} {xs : List Value} (h : w.ownsRow base e size v n xs) {k : Nat} (hk : v.ownBlock = some k) : Kind w k e := by
  rcases h.2 with ⟨rfl, _⟩ | ⟨g, cap, cur, rfl, _, hh, _⟩
  · cases hk
  · injection hk with hk
    subst hk
    exact ⟨cur, _, hh⟩
/-- The kinds of blocks that the disk and the journal write to. -/
def wet : List TypeId := [85, 55, 116, 111, 89]
theorem dry_u8 : 5 ∉ wet := by decide
/-- Only blocks of F, of the kinds that may be written to, are other ones. -/
structure Only (F : Nat → Prop) (w w' : World) : Prop where
  os : w'.os = w.os
  tape : w'.tape = w.tape
  output : w'.output = w.output
  size : w.heap.size ≤ w'.heap.size
  block : ∀ k, k < w.heap.size → (¬ F k ∨ ∃ t, Kind w k t ∧ t ∉ wet) → w'.heap[k]? = w.heap[k]?
def more (F : Nat → Prop) (n : Nat) (k : Nat) : Prop := F k ∨ n ≤ k
section
variable {F F' : Nat → Prop} {w w' w1 : World}
theorem Only.refl (F : Nat → Prop) (w : World) : Only F w w := ⟨rfl, rfl, rfl, Nat.le_refl _, fun _ _ _ => rfl⟩
theorem Only.trans (h : Only F w w1) (k : Only F' w1 w') (hF : ∀ i, i < w.heap.size → F' i → F i) : Only F w w' :=
  ⟨k.os.trans h.os, k.tape.trans h.tape, k.output.trans h.output, Nat.le_trans h.size k.size, fun i hi hn =>
    (k.block i (Nat.lt_of_lt_of_le hi h.size) (hn.imp (fun hn hf => hn (hF i hi hf)) (fun ⟨t, ht, hw⟩ => ⟨t, ht.same (h.block i hi (.inr ⟨t, ht, hw⟩)), hw⟩))).trans (h.block i hi hn)⟩
theorem Only.mono (h : Only F w w') (hF : ∀ i, i < w.heap.size → F i → F' i) : Only F' w w' := (Only.refl F' w).trans h hF
theorem Only.of_below (h : Below w.heap.size w w') : Only F w w' := ⟨h.os, h.tape, h.output, h.size, fun k hk _ => h.block k hk⟩
theorem Only.of_grown {row : Option Nat} (h : w.grownBy w' row) (hr : ∀ k, row = some k → F k) (ht : ∀ k, row = some k → k < w.heap.size → ∃ t, Kind w k t ∧ t ∈ wet) : Only F w w' :=
  ⟨h.os, h.tape, h.output, h.size, fun k hk hn => h.block k hk (fun e => by
    rcases hn with hn | ⟨t, h1, h2⟩
    · exact hn (hr k e.symm)
    · obtain ⟨t', h3, h4⟩ := ht k e.symm hk
      exact h2 (h1.uniq h3 ▸ h4))⟩
theorem Only.below (h : Only F w w') {B : Nat} (hB : B ≤ w.heap.size) (hF : ∀ k, F k → B ≤ k) : Below B w w' :=
  ⟨h.os, h.tape, h.output, h.size, fun k hk => h.block k (by omega) (.inl fun hf => by have := hF k hf; omega)⟩
theorem Only.kind {k : Nat} {t : TypeId} (h : Only F w w') (hk : Kind w k t) (hd : ¬ F k ∨ t ∉ wet) : w'.heap[k]? = w.heap[k]? :=
  h.block k hk.lt (hd.imp id fun hd => ⟨t, hk, hd⟩)
theorem Only.blk {g : Nat} {t : TypeId} {cs : Array Value} (h : Only F w w') (hb : Blk w g t cs) (hd : ¬ F g ∨ t ∉ wet) : Blk w' g t cs := (h.kind hb.kind hd).trans hb
theorem Only.own {base size n : Nat} {e : TypeId} {v : Value} {xs : List Value} (h : Only F w w') (ho : w.ownsRow base e size v n xs) (hd : (∀ k, v.ownBlock = some k → ¬ F k) ∨ e ∉ wet) : w'.ownsRow base e size v n xs := by
  refine ⟨ho.1, ?_⟩
  rcases ho.2 with hn | ⟨g, cap, cur, hv, hg, hh, rest⟩
  · exact .inl hn
  · refine .inr ⟨g, cap, cur, hv, hg, ?_, rest⟩
    subst hv
    exact (h.kind (k := g) (t := e) ⟨cur, _, hh⟩ (hd.imp (fun hd => hd g rfl) id)).trans hh
end

/-! ### 2. A slice of bytes in a block of bytes -/
def IsSl (w : World) (v : Value) (b : List UInt8) : Prop := ∃ A c, v = .slice A b.length c ∧ b.length ≤ c ∧ Reads w w.heap.size 1 A b.length (bs b) ∧ ∀ ad, A = some ad → Kind w ad.block 5
section
variable {F : Nat → Prop} {w w' : World} {v : Value} {b : List UInt8}
theorem IsSl.keep (h : IsSl w v b) (hs : w.heap.size ≤ w'.heap.size) (hk : ∀ k, Kind w k 5 → w'.heap[k]? = w.heap[k]?) : IsSl w' v b := by
  obtain ⟨A, c, hv, hc, hr, hK⟩ := h
  refine ⟨A, c, hv, hc, ⟨hr.1, fun hn => ?_⟩, fun ad e => (hK ad e).same (hk _ (hK ad e))⟩
  obtain ⟨ad, e, hb, hcell⟩ := hr.2 hn
  refine ⟨ad, e, Nat.lt_of_lt_of_le hb hs, fun j u hu => (World.cell?_of_block (by rw [block_of_add]; exact hk _ (hK ad e))).trans (hcell j u hu)⟩
theorem IsSl.only (h : IsSl w v b) (ho : Only F w w') : IsSl w' v b := h.keep ho.size fun k hk => ho.kind hk (.inr dry_u8)
theorem IsSl.under (h : IsSl w v b) (ho : Below w.heap.size w w') : IsSl w' v b := h.keep ho.size fun k hk => ho.block k hk.lt
theorem IsSl.alloc (h : IsSl w v b) (o : Obj) : IsSl (w.alloc o) v b := h.under ((Below.refl _ _).alloc (Nat.le_refl _) _)
theorem IsSl.drew (h : IsSl w v b) : IsSl w.drew v b := h
theorem IsSl.reads (h : IsSl w v b) : ∃ A c, v = .slice A b.length c ∧ b.length ≤ c ∧ Reads w w.heap.size 1 A b.length (bs b) := by
  obtain ⟨A, c, hv, hc, hr, _⟩ := h
  exact ⟨A, c, hv, hc, hr⟩
theorem Owns.isSl {base : Nat} (h : Owns w base v b) : IsSl w v b := by
  obtain ⟨h1, hn | ⟨g, cap, cur, hv, hg, hh, hc, hm, hcs, htk⟩⟩ := id h
  · obtain ⟨hv, h0⟩ := hn
    have hb : b = [] := List.eq_nil_of_length_eq_zero h0
    subst hb
    exact ⟨none, 0, by rw [hv]; rfl, Nat.le_refl _, Reads.none_, fun _ e => by cases e⟩
  · subst hv
    exact ⟨_, cap, rfl, hc, h.reads, fun ad e => by injection e with e; subst e; exact ⟨cur, _, hh⟩⟩
theorem Blk.isSl {g : Nat} (h : Blk w g 5 (bs b).toArray) : IsSl w (.slice (some ⟨g, 0, none⟩) b.length b.length) b :=
  ⟨_, _, rfl, Nat.le_refl _, ⟨by rw [bs_length]; omega, fun _ => ⟨_, rfl, h.lt, fun j u hu => by
    rw [show (⟨g, 0, none⟩ : Addr).add j = ⟨g, j, none⟩ from by unfold Addr.add; split <;> simp_all]
    exact (h.cell j).trans (by rw [List.getElem?_toArray]; exact hu)⟩⟩, fun ad e => by injection e with e; subst e; exact h.kind⟩
end

/-! ### 3. The disk -/
structure Dk where
  places : List (List UInt8)
  way : List (Nat × List UInt8)
  left : Int
  down : Bool
  ops : Nat
/-- A row of slices of bytes. -/
def RowB (w : World) (xs : List Value) (l : List (List UInt8)) : Prop := ∀ (i : Nat) (b : List UInt8), l[i]? = some b → ∃ v, xs[i]? = some v ∧ IsSl w v b
/-- A row of writes under way: two cells each. -/
def RowW (w : World) (xs : List Value) (l : List (Nat × List UInt8)) : Prop := ∀ (i : Nat) (p : Nat × List UInt8), l[i]? = some p → xs[2 * i]? = some (.int .i64 (p.1 : Int)) ∧ ∃ v, xs[2 * i + 1]? = some v ∧ IsSl w v p.2
structure DiskAt (w : World) (g : Nat) (F : Nat → Prop) (D : Dk) (vp vu vo : Value) (xp xu xo : List Value) : Prop where
  blk : Blk w g 85 #[vp, vu, .int .i64 D.left, .bool D.down, vo]
  fg : F g
  op : w.ownsRow 0 55 1 vp D.places.length xp
  fp : ∀ k, vp.ownBlock = some k → F k
  rp : RowB w xp D.places
  ou : w.ownsRow 0 116 2 vu D.way.length xu
  fu : ∀ k, vu.ownBlock = some k → F k
  ru : RowW w xu D.way
  oo : w.ownsRow 0 111 2 vo D.ops xo
  fo : ∀ k, vo.ownBlock = some k → F k
def Disk (w : World) (g : Nat) (F : Nat → Prop) (D : Dk) : Prop := ∃ vp vu vo xp xu xo, DiskAt w g F D vp vu vo xp xu xo
section
variable {F F' : Nat → Prop} {w w' : World} {g : Nat} {D : Dk} {xs : List Value}
theorem RowB.keep {l : List (List UInt8)} (h : RowB w xs l) (hs : w.heap.size ≤ w'.heap.size) (hk : ∀ k, Kind w k 5 → w'.heap[k]? = w.heap[k]?) : RowB w' xs l := fun i b hb => by
  obtain ⟨v, h1, h2⟩ := h i b hb
  exact ⟨v, h1, h2.keep hs hk⟩
theorem RowW.keep {l : List (Nat × List UInt8)} (h : RowW w xs l) (hs : w.heap.size ≤ w'.heap.size) (hk : ∀ k, Kind w k 5 → w'.heap[k]? = w.heap[k]?) : RowW w' xs l := fun i b hb => by
  obtain ⟨h0, v, h1, h2⟩ := h i b hb
  exact ⟨h0, v, h1, h2.keep hs hk⟩
theorem Disk.keep (h : Disk w g F D) (hs : w.heap.size ≤ w'.heap.size) (hk : ∀ k t, Kind w k t → (F k ∨ t = 5) → w'.heap[k]? = w.heap[k]?) : Disk w' g F D := by
  obtain ⟨vp, vu, vo, xp, xu, xo, h⟩ := h
  have ow : ∀ {e : TypeId} {size n : Nat} {v : Value} {xs : List Value}, w.ownsRow 0 e size v n xs → (∀ k, v.ownBlock = some k → F k) → w'.ownsRow 0 e size v n xs := by
    intro e size n v xs ho hf
    refine ⟨ho.1, ?_⟩
    rcases ho.2 with hn | ⟨g, cap, cur, hv, hg, hh, rest⟩
    · exact .inl hn
    · refine .inr ⟨g, cap, cur, hv, hg, ?_, rest⟩
      subst hv
      exact (hk g e ⟨cur, _, hh⟩ (.inl (hf g rfl))).trans hh
  exact ⟨vp, vu, vo, xp, xu, xo, (hk g _ h.blk.kind (.inl h.fg)).trans h.blk, h.fg, ow h.op h.fp, h.fp, h.rp.keep hs fun k hK => hk k _ hK (.inr rfl), ow h.ou h.fu, h.fu, h.ru.keep hs fun k hK => hk k _ hK (.inr rfl), ow h.oo h.fo, h.fo⟩
theorem Disk.under (h : Disk w g F D) (hb : Below w.heap.size w w') : Disk w' g F D := h.keep hb.size fun k t hK _ => hb.block k hK.lt
theorem Disk.alloc (h : Disk w g F D) (o : Obj) : Disk (w.alloc o) g F D := h.under ((Below.refl _ _).alloc (Nat.le_refl _) _)
theorem Disk.drew (h : Disk w g F D) : Disk w.drew g F D := h.under (Below.refl _ _).drew
theorem Disk.mono (h : Disk w g F D) (hF : ∀ k, k < w.heap.size → F k → F' k) : Disk w g F' D := by
  obtain ⟨vp, vu, vo, xp, xu, xo, h⟩ := h
  exact ⟨vp, vu, vo, xp, xu, xo, h.blk, hF g h.blk.lt h.fg, h.op, fun k hk => hF k (own_kind h.op hk).lt (h.fp k hk), h.rp, h.ou, fun k hk => hF k (own_kind h.ou hk).lt (h.fu k hk), h.ru, h.oo, fun k hk => hF k (own_kind h.oo hk).lt (h.fo k hk)⟩
theorem Disk.bound (h : Disk w g F D) : Disk w g (fun k => F k ∧ k < w.heap.size) D := h.mono fun k hk hf => ⟨hf, hk⟩
/-- Blocks of other kinds, or beside F, are written. -/
theorem Disk.apart {F' : Nat → Prop} (h : Disk w g F D) (ho : Only F' w w') (hF : ∀ k, F k → ¬ F' k) : Disk w' g F D :=
  h.keep ho.size fun k t hK hf => ho.block k hK.lt (hf.elim (fun hf => .inl (hF k hf)) (fun e => .inr ⟨t, hK, e ▸ dry_u8⟩))
end
end Go.Proofs.YtkhebllmnagkmaaGreatDoor
