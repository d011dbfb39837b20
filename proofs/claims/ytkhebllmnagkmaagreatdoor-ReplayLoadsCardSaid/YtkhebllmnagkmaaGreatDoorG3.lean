/- Contracts and lemmas under the statements of this seat, one behind the other. Conditions: what each names. -/
import Derived.Test.YtkhebllmnagkmaaGreatDoorG1
import Derived.RangeFuncBox
import Derived.RangeFuncLeaves
import Derived.RangeFuncNested
import Derived.RangeFuncBound
import Derived.RangeFuncCalls
import Derived.Shelf.Abstract
import Derived.Shelf.RegionOpen
import Derived.OwnWalkIn
import Derived.TacticsInMore
import Derived.LoopNIn
import Derived.LoopIn
import Derived.BigRegionIn
import Derived.Test.YtkhebllmnagkmaaGreatDoorG2
/- slices.Chunk at []byte, 64 bytes a piece: what the iterator hands over, piece by piece. Conditions: the slice isn't empty. -/
namespace Go.Proofs.YtkhebllmnagkmaaGreatDoor
open Go.RowKit Go.Shelf
set_option linter.unusedVariables false
attribute [local go_sem] Oper.semAt_some

/-- How many pieces of 64. -/
def pieces (len : Nat) : Nat := (len + 63) / 64
/-- Piece i as a slice. -/
def pieceV (ad : Addr) (len i : Nat) : Value := .slice (some (ad.add (64 * i))) (min 64 (len - 64 * i)) (min 64 (len - 64 * i))
def pieceEnc (ad : Addr) (len : Nat) (x : Nat) : Array Value := #[pieceV ad len (min x (pieces len - 1))]
/-- What a round must keep: the two captured variables. -/
def KeepTwo (c1 c2 : Nat) (W W' : World) : Prop := W'.heap[c1]? = W.heap[c1]? ∧ W'.heap[c2]? = W.heap[c2]?
theorem keepTwo_t {c1 c2 : Nat} {A B C : World} (h : KeepTwo c1 c2 A B) (k : KeepTwo c1 c2 B C) : KeepTwo c1 c2 A C := ⟨k.1.trans h.1, k.2.trans h.2⟩

set_option maxRecDepth 100000 in
set_option maxHeartbeats 2000000 in
theorem chunk1_in (F : Fence) (d : Nat) (hf : F.fn 109) (hro : F.round = none) (hd : 1 ≤ d) (l c1 c2 : Nat) (ad : Addr) (len cap : Nat) (h0 : 0 < len) (hl : len ≤ cap) (hcap : len ≤ 140737488351232) (hcap2 : cap ≤ 9223372036854775807) (J Jx : List Nat → World → Prop) (B0 : Nat) (hJa : AbidesFrom B0 J)
    (hY : ∀ pre x W, J pre W → pre.length < pieces len → YieldAt F (d - 1) Tryz.prog l (pieceEnc ad len x) W fun e W' =>
      (e = .returned (.bool true) ∧ J (pre ++ [x]) W' ∧ KeepTwo c1 c2 W W') ∨ (e = .returned (.bool false) ∧ Jx (pre ++ [x]) W'))
    (W : World) (hc1 : Blk W c1 55 #[.slice (some ad) len cap]) (hc2 : Blk W c2 3 #[.int .i64 64]) (hJ : J [] W) :
    CallsIn F d Tryz.prog 109 #[.func (.yield l) #[] #[], .pointer (some ⟨c1, 0, none⟩), .pointer (some ⟨c2, 0, none⟩)] W fun e W' => (∃ v, e = .returned v) ∧
      ((∃ xs, xs = List.range (pieces len) ∧ J xs W') ∨ (∃ pre, (∃ k, k ≤ pieces len ∧ pre = List.range k) ∧ Jx pre W')) := by
  refine callsIn_of_wp Tryz.func109 rfl hf ?_ hro
  simp only [Tryz.ntmps109, List.size_toArray, List.length_cons, List.length_nil, Nat.reduceAdd, Nat.reduceSub, Array.replicate_succ, Array.replicate_zero, List.push_toArray, List.append_toArray, List.nil_append, List.cons_append]
  gi_wp2
  gi_loopw [4] (fun i wr => ∃ k : Nat, k ≤ pieces len ∧ i = .int .i64 ((64 * k : Nat) : Int) ∧ J (List.range k) wr ∧ Blk wr c1 55 #[.slice (some ad) len cap] ∧ Blk wr c2 3 #[.int .i64 64])
    (fun i _ => 64 * pieces len - (intOf i).toNat)
  case atStart => exact ⟨0, Nat.zero_le _, rfl, hJ, hc1, hc2⟩
  case round =>
    clear hc1 hc2 hJ
    obtain ⟨k, hk, rfl, hJs, hb1, hb2⟩ := hrel
    have x1 := hb1.cell 0
    have x2 := hb2.cell 0
    by_cases hlt : k < pieces len
    · have hlt' : 64 * k < len := by unfold pieces at hlt; omega
      have hJd : J (List.range k) wr.drew := hJa _ _ _ none hJs ⟨rfl, rfl, rfl, Nat.le_refl _, fun _ _ _ => rfl⟩ (fun r e => by cases e)
      have hyy := hY _ k wr.drew hJd (by rw [List.length_range]; exact hlt)
      rw [show pieceEnc ad len k = #[pieceV ad len k] by unfold pieceEnc; rw [Nat.min_eq_left (by omega)]] at hyy
      unfold pieceV at hyy
      obtain ⟨sz, hsz⟩ : ∃ sz, sz = min 64 (len - 64 * k) := ⟨_, rfl⟩
      rw [← hsz] at hyy
      have hm : (if ((len - 64 * k : Nat) : Int) < 64 then ((len - 64 * k : Nat) : Int) else 64) = (sz : Int) := by split <;> omega
      have hs1 : 64 * k + sz ≤ len := by omega
      have hs2 : 1 ≤ sz := by omega
      have hs3 : sz ≤ 64 := by omega
      have HSZ := Lib.hid hsz
      clear hsz
      obtain ⟨fn, tmps, assign, body, hy, hR⟩ := hyy
      gi_wp2
      gi_region
      all_goals
        gi_wp2
        refine hR.mono ?_
        rintro e W3 (⟨rfl, hJ3, hk3⟩ | ⟨rfl, hJx3⟩)
        · have y1 : Blk W3 c1 55 _ := hk3.1.trans hb1
          have y2 : Blk W3 c2 3 _ := hk3.2.trans hb2
          have z2 := y2.cell 0
          gi_wp2
          go_roundw
          case rel => exact ⟨k + 1, by omega, by rw [show 64 * (k + 1) = 64 * k + 64 by omega]; go_num, by rw [List.range_succ]; exact hJ3, y1, y2⟩
          case measure => simp [intOf]; omega
        · gi_wp2
          refine bodyPost_ret (results_none rfl _ _ _) rfl ?_
          exact ⟨⟨_, rfl⟩, .inr ⟨_, ⟨k + 1, by omega, List.range_succ.symm⟩, hJx3⟩⟩
    · have hge : len ≤ 64 * k := by unfold pieces at hlt; omega
      have hkk : k = pieces len := by omega
      have HK := Lib.hid hkk
      clear hkk
      gi_wp2
      go_end0
      exact ⟨⟨_, rfl⟩, .inl ⟨_, rfl, by rw [← HK.out]; exact hJs⟩⟩
/-- slices.Chunk itself: the slice and the number are boxed; the function value captures both. -/
theorem chunk_any (F : Fence) (d : Nat) (hf : F.fn 89) (hro : F.round = none) (a : Option Addr) (len cap : Nat) (w : World) :
    CallsIn F d Tryz.prog 89 #[.slice a len cap, .int .i64 64] w fun e w' => e = .returned (.func (.func 109) #[] #[.pointer (some ⟨w.heap.size, 0, none⟩), .pointer (some ⟨w.heap.size + 1, 0, none⟩)]) ∧
      Blk w' w.heap.size 55 #[.slice a len cap] ∧ Blk w' (w.heap.size + 1) 3 #[.int .i64 64] ∧ w'.heap.size = w.heap.size + 2 ∧ Below w.heap.size w w' := by
  refine callsIn_of_wp Tryz.func89 rfl hf ?_ hro
  simp only [Tryz.ntmps89, List.size_toArray, List.length_cons, List.length_nil, Nat.reduceAdd, Nat.reduceSub, Array.replicate_succ, Array.replicate_zero, List.push_toArray, List.append_toArray, List.nil_append, List.cons_append]
  gi_wp2
  go_ret
  exact ⟨rfl, heap_alloc2_old w _ _, heap_alloc2_new w _ _, by simp, ((Below.refl _ _).alloc (Nat.le_refl _) _).alloc (by simp) _⟩
/-- What slices.Chunk hands back, as an iterator. -/
theorem chunk_stops (F : Fence) (d : Nat) (hf : F.fn 109) (hro : F.round = none) (hd : 1 ≤ d) (c1 c2 : Nat) (ad : Addr) (len cap : Nat) (h0 : 0 < len) (hl : len ≤ cap) (hcap : len ≤ 140737488351232) (hcap2 : cap ≤ 9223372036854775807) (w : World)
    (hc1 : Blk w c1 55 #[.slice (some ad) len cap]) (hc2 : Blk w c2 3 #[.int .i64 64]) :
    SeqStopsK F d Tryz.prog 109 #[.pointer (some ⟨c1, 0, none⟩), .pointer (some ⟨c2, 0, none⟩)] (pieceEnc ad len) (KeepTwo c1 c2) (fun xs => xs = List.range (pieces len)) (fun pre => ∃ k, k ≤ pieces len ∧ pre = List.range k) (pieces len) w := fun l J Jx W hW hJ _ hY hJ0 => by
  exact chunk1_in F d hf hro hd l c1 c2 ad len cap h0 hl hcap hcap2 J Jx _ hJ hY W (hc1.below hW hc1.lt) (hc2.below hW hc2.lt) hJ0
end Go.Proofs.YtkhebllmnagkmaaGreatDoor
/- Words for memory inside a fence: a whole aggregate loaded, stored. Plain lemmas over worlds. -/
namespace Go.Proofs.YtkhebllmnagkmaaGreatDoor
open Go.RowKit
theorem wpListIn_load_blk {F : Fence} {n : Nat} {P : Program} {ops : Array Oper} {rest : List Oper} {o : Oper} {a : Act} {w : World} {Q : Exit → Act → World → Prop} (hgd : o.guard = none) (ty : TypeId) (x : Operand) (ho : o.op = .load ty x)
    (g : Nat) (hx : a.eval x = .pointer (some ⟨g, 0, none⟩)) (t : TypeId) (cs : Array Value) (d : TypeDesc) (hg : Blk w g t cs)
    (hu : P.underlying ty = some d) (hd : (match d with | .struct _ | .array _ _ => true | _ => false) = true) (hi : (P.info? ty).map (·.size) = some cs.size)
    (h : wpListIn F n P ops Q rest (a.put o.dst (.agg cs)) w) : wpListIn F n P ops Q (o :: rest) a w := by
  refine wpListIn_plain hgd fun K hK => ?_
  unfold Oper.wpIn
  refine ⟨?_, ?_⟩
  · simp [Oper.about, ho]
  · rw [Oper.semAt_plain F _ _ (by rw [ho]; intro c hc'; cases hc')]
    unfold execOp
    simp only [ho, hx, Instr.loadAt, Instr.sureAddr, Sem.run_bind, Sem.run_pure, Result.andThen_ok, run_loadVar_row w g t ty cs (0, 0) d hg hu hd hi]
    exact hK _ _ h
theorem wpListIn_store_blk {F : Fence} {n : Nat} {P : Program} {ops : Array Oper} {rest : List Oper} {o : Oper} {a : Act} {w : World} {Q : Exit → Act → World → Prop} (hgd : o.guard = none) (ty : TypeId) (x y : Operand) (ho : o.op = .store ty x y)
    (g : Nat) (cells : Array Value) (hx : a.eval x = .pointer (some ⟨g, 0, none⟩)) (hy : a.eval y = .agg cells)
    (t : TypeId) (old : Array Value) (hg : Blk w g t old) (hi : (P.info? ty).map (·.size) = some cells.size)
    (hold : old.size = cells.size) (h1 : cells.all (·.oneCell') = true)
    (h : ∀ w', Blk w' g t cells → w.grownBy w' (some g) → w'.heap.size = w.heap.size → wpListIn F n P ops Q rest (a.put o.dst undef) w') : wpListIn F n P ops Q (o :: rest) a w := by
  refine wpListIn_plain hgd fun K hK => ?_
  unfold Oper.wpIn
  refine ⟨?_, ?_⟩
  · simp [Oper.about, ho]
  · rw [Oper.semAt_plain F _ _ (by rw [ho]; intro c hc'; cases hc')]
    unfold execOp
    simp only [ho, hx, hy, Instr.storeAt, Instr.sureAddr, Sem.run_bind, Sem.run_pure, Result.andThen_ok, run_storeVar_row w g t ty old cells hg hi hold h1]
    exact hK _ _ (h _ (setRow_heap w g _ _ t _ hg) (grownBy_setRow _ _ _) (by simp))
end Go.Proofs.YtkhebllmnagkmaaGreatDoor
/- Contracts of the package digest (SHA-256): Of, Pieces. Conditions: the table of the rounds lies in memory as the program's text lays it. -/
namespace Go.Proofs.YtkhebllmnagkmaaGreatDoor
open Go.RowKit Go.Shelf
set_option linter.unusedVariables false
attribute [local go_sem] Oper.semAt_some

/-- A state as the cells of an array. -/
def shaCells (s : Sha) : Array Value := (ws32 s.list).toArray
theorem shaCells_one (s : Sha) : (shaCells s).all (·.oneCell') = true := ws32_one _
theorem shaCells_size (s : Sha) : (shaCells s).size = 8 := rfl
theorem zeros8_size : (#[Value.int .u32 0, .int .u32 0, .int .u32 0, .int .u32 0, .int .u32 0, .int .u32 0, .int .u32 0, .int .u32 0] : Array Value).size = 8 := rfl
/-! ### the digest, plainly -/
/-- A number's eight bytes, the highest first. -/
def lenBytes (x : Nat) (j : Nat) : List UInt8 := (List.range j).map fun i => UInt8.ofNat (x / 2 ^ (56 - 8 * i))
def zerosFor (n : Nat) : Nat := (119 - n % 64) % 64
def shaPad (l : List UInt8) : List UInt8 := l ++ [128] ++ List.replicate (zerosFor l.length) 0 ++ lenBytes (8 * l.length) 8
def chunk64 (p : List UInt8) (i : Nat) : List UInt8 := (p.drop (64 * i)).take 64
def shaInit : Sha := ⟨1779033703, 3144134277, 1013904242, 2773480762, 1359893119, 2600822924, 528734635, 1541459225⟩
def shaFold (p : List UInt8) (xs : List Nat) : Sha := xs.foldl (fun s i => shaMix (chunk64 p i) s) shaInit
def shaOut (s : Sha) (j : Nat) : List UInt8 := (List.range j).map fun i => UInt8.ofNat (s.list.getD (i / 4) 0 / 2 ^ (24 - 8 * (i % 4)))
@[irreducible] def sha256 (l : List UInt8) : List UInt8 := shaOut (shaFold (shaPad l) (List.range (pieces (shaPad l).length))) 32
theorem shaOut_length (s : Sha) (k : Nat) : (shaOut s k).length = k := by simp [shaOut]
theorem shaCells_get (s : Sha) (i : Nat) (h : i < 8) : (shaCells s)[i]? = some (.int .u32 (s.list.getD i 0 : Int)) := fw_get 8 (fun i => s.list.getD i 0) i h
theorem Sha.get_lt {s : Sha} (h : s.ok) (i : Nat) : s.list.getD i 0 < 4294967296 := by
  obtain ⟨la, lb, lc, ld, le, lf, lg, lh⟩ := h
  unfold Sha.list
  match i with
  | 0 => exact la
  | 1 => exact lb
  | 2 => exact lc
  | 3 => exact ld
  | 4 => exact le
  | 5 => exact lf
  | 6 => exact lg
  | 7 => exact lh
  | n + 8 => exact Nat.zero_lt_of_ne_zero (by omega)
theorem shaOut_get (s : Sha) (k : Nat) (h : k < 32) : (bs (shaOut s k ++ List.replicate (32 - k) 0)).toArray[k]? = some (.int .u8 0) := by
  rw [List.getElem?_toArray, bs_get, List.getElem?_append_right (by rw [shaOut_length]; omega), shaOut_length, Nat.sub_self, List.getElem?_replicate, if_pos (by omega)]
  rfl
theorem shaOut_step (s : Sha) (k : Nat) (h : k < 32) : (bs (shaOut s k ++ List.replicate (32 - k) 0)).toArray.setIfInBounds k (.int .u8 ((s.list.getD (k / 4) 0 / 2 ^ (24 - 8 * (k % 4)) % 256 : Nat) : Int)) = (bs (shaOut s (k + 1) ++ List.replicate (32 - (k + 1)) 0)).toArray := by
  obtain ⟨m, hm⟩ : ∃ m, 32 - k = m + 1 := ⟨32 - k - 1, by omega⟩
  have hm' : 32 - (k + 1) = m := by omega
  have hl : (bs (shaOut s k)).length = k := by rw [bs_length, shaOut_length]
  have hp : shaOut s (k + 1) = shaOut s k ++ [UInt8.ofNat (s.list.getD (k / 4) 0 / 2 ^ (24 - 8 * (k % 4)))] := by simp [shaOut, List.range_succ]
  simp only [hm, hm', hp, bs_append, List.replicate_succ, List.setIfInBounds_toArray]
  rw [List.set_append_right _ _ (by omega), hl, Nat.sub_self]
  simp [bs]
theorem bs_all (l : List UInt8) : (bs l).toArray.all (·.oneCell') = true := by
  rw [Array.all_eq_true_iff_forall_mem]
  intro x hx
  exact bs_one x (by simpa using hx)
theorem shaPad_length (l : List UInt8) : (shaPad l).length = l.length + 9 + zerosFor l.length ∧ (shaPad l).length % 64 = 0 := by
  have h : (shaPad l).length = l.length + 9 + zerosFor l.length := by simp [shaPad, lenBytes]; omega
  refine ⟨h, ?_⟩
  rw [h]; unfold zerosFor; omega
theorem shaInit_ok : shaInit.ok := by unfold shaInit Sha.ok; simp only; omega
theorem shaMix_ok (l : List UInt8) (s : Sha) : (shaMix l s).ok := by
  refine ⟨Nat.mod_lt _ ?_, Nat.mod_lt _ ?_, Nat.mod_lt _ ?_, Nat.mod_lt _ ?_, Nat.mod_lt _ ?_, Nat.mod_lt _ ?_, Nat.mod_lt _ ?_, Nat.mod_lt _ ?_⟩ <;> omega
theorem shaFold_ok (p : List UInt8) (xs : List Nat) : (shaFold p xs).ok := by
  have h : ∀ (xs : List Nat) (s : Sha), s.ok → (xs.foldl (fun s i => shaMix (chunk64 p i) s) s).ok := by
    intro xs
    induction xs with
    | nil => intro s hs; exact hs
    | cons x xs ih => intro s _; exact ih _ (shaMix_ok _ _)
  exact h xs _ shaInit_ok
theorem shaFold_snoc (p : List UInt8) (xs : List Nat) (x : Nat) : shaFold p (xs ++ [x]) = shaMix (chunk64 p x) (shaFold p xs) := by
  unfold shaFold
  rw [List.foldl_append]
  rfl
theorem lenBytes_succ (x j : Nat) : lenBytes x (j + 1) = lenBytes x j ++ [UInt8.ofNat (x / 2 ^ (56 - 8 * j))] := by simp [lenBytes, List.range_succ]
theorem lenBytes_length (x j : Nat) : (lenBytes x j).length = j := by simp [lenBytes]

theorem mixed_cells (s : Sha) (A : Option Addr) (c : Nat) (l : List UInt8) (w : World) (hs : s.ok) (hl : l.length = 64) (hc : 64 ≤ c) (hr : Reads w w.heap.size 1 A 64 (bs l)) (hT : Tabs w) :
    Calls Tryz.prog 94 #[.agg (shaCells s), .slice A 64 c] w fun e w' => e = .returned (.agg (shaCells (shaMix l s))) ∧ Below w.heap.size w w' := mixed_any s A c l w hs hl hc hr hT
theorem add_head (g k : Nat) : (⟨g, 0, none⟩ : Addr).add k = ⟨g, k, none⟩ := by unfold Addr.add; split <;> simp_all
theorem Reads.part {w : World} {B n : Nat} {ad : Addr} {xs : List Value} (h : Reads w B 1 (some ad) n xs) (i m : Nat) (hi : i + m ≤ n) : Reads w B 1 (some (ad.add i)) m ((xs.drop i).take m) := by
  have hl := h.1
  refine ⟨by rw [List.length_take, List.length_drop]; omega, fun hm => ?_⟩
  obtain ⟨ad', e, hb, hc⟩ := h.2 (by omega)
  injection e with e
  subst e
  refine ⟨_, rfl, by rw [block_of_add]; exact hb, fun j u hu => ?_⟩
  rw [add_of_add]
  rw [List.getElem?_take] at hu
  split at hu
  · rw [List.getElem?_drop] at hu
    exact hc _ _ hu
  · cases hu
theorem bs_part (p : List UInt8) (i m : Nat) : ((bs p).drop i).take m = bs ((p.drop i).take m) := by unfold bs; rw [List.map_take, List.map_drop]
theorem ownFrom_obj {β : Type} {B b : Nat} (hb : b < B) (X : β → Obj) : OwnFrom B (fun s W => W.heap[b]? = some (X s)) := fun s W W' row hs hg hr =>
  (hg.block b (Array.getElem?_eq_some_iff.1 hs).1 (fun e => by have := (hr b e.symm).1; omega)).trans hs
theorem ownFrom_size {β : Type} (B k : Nat) : OwnFrom B (fun (_ : β) W => k ≤ W.heap.size) := fun _ _ _ _ hs hg _ => Nat.le_trans hs hg.size
/-- A call that leaves what lay below, then a store into one block of cells. -/
theorem keepsOthers_of {W Wm W' : World} {b : Nat} {t : TypeId} {cs : Array Value} (hb : Below W.heap.size W Wm) (hc : Blk W b t cs) (hg : Wm.grownBy W' (some b)) : KeepsOthers W W' :=
  ⟨Nat.le_trans hb.size hg.size, fun k o hk ho => by
    have hlt := (Array.getElem?_eq_some_iff.1 hk).1
    have hne : k ≠ b := by
      rintro rfl
      unfold Blk at hc
      rw [hc] at hk
      injection hk with hk
      subst hk
      simp [Obj.isCells] at ho
    exact (hg.block k (Nat.lt_of_lt_of_le hlt hb.size) (fun e => hne (by injection e))).trans ((hb.block k hlt).trans hk)⟩
theorem zip_one (t : Array Value) (k : Tmp) (v : Value) : (#[k].zip #[v]).foldl (fun t x => t.setIfInBounds x.1 x.2) t = t.setIfInBounds k v := by simp
theorem first_cells (w : World) : Calls Tryz.prog 93 #[] w fun e w' => e = .returned (.agg (shaCells shaInit)) ∧ Below w.heap.size w w' := first_any w
set_option maxRecDepth 100000 in
set_option maxHeartbeats 4000000 in
theorem of_any (ad : Option Addr) (len c : Nat) (l : List UInt8) (w : World) (hr : Reads w w.heap.size 1 ad len (bs l)) (hl : len ≤ 1099511627776) (hT : Tabs w) :
    Calls Tryz.prog 75 #[.slice ad len c] w fun e w' => e = .returned (.agg (bs (sha256 l)).toArray) ∧ Below w.heap.size w w' := by
  obtain ⟨i0, hi, hz0, hz1, hz2⟩ := info_parts info5
  have hll : l.length = len := by have := hr.1; rw [bs_length] at this; omega
  subst hll
  refine (callsIn_wide (n := 3)).1 ?_
  refine callsIn_of_wp_marks Tryz.func75 rfl trivial ?_ rfl
  simp only [Tryz.ntmps75, List.size_toArray, List.length_cons, List.length_nil, Nat.reduceAdd, Nat.reduceSub, Array.replicate_succ, Array.replicate_zero, List.push_toArray, List.append_toArray, List.nil_append, List.cons_append]
  gi_wp2_with (first | (refine ⟨trivial, ?_⟩; gi_at_call 43; refine (callsIn_wide.2 (clone_any ad l.length c l _ ((hr.alloc (Nat.le_refl _) _).more (by simp)) (by omega))).mono ?_; rintro e w1 ⟨v1, rfl, hv1, hb1⟩) | (gi_at_builtin; refine wpListIn_append_own _ rfl (.tmp 10) (.tmp 11) 55 rfl (w.heap.size + 1) 5 i0 _ 1 1 Tryz.underlying55 hi hz0 hz1 hz2 rfl (by omega) v1 l.length (bs l) rfl (World.ownsRow.alloc (ownsRow_lower hv1 (by simp)) _) ⟨w1.heap.size, 0, none⟩ 1 1 [.int .u8 128] rfl rfl (cell_one_new _ _ _) (by simp [Value.oneCell']) (by unfold maxLen; omega) (by omega) (by have := hb1.size; simp at this; simp; omega) ?_; intro v2 w2 hown2 hg2 _))
  have own2 : Owns w2 (w.heap.size + 1) v2 (l ++ [128]) := Owns.snoc 128 hown2 rfl rfl
  have hz : Blk (w.alloc (.cells (bs (List.replicate 32 0)).toArray 23)) w.heap.size 23 (bs (List.replicate 32 0)).toArray := Blk.new _ _ _
  have hz1' : Blk w1 w.heap.size 23 (bs (List.replicate 32 0)).toArray := hz.below hb1 (by simp)
  have hge : ∀ k, v1.ownBlock = some k → w.heap.size + 1 ≤ k := fun k hk => by have := (World.ownsRow.lt hv1 k hk).1; simpa using this
  have hz2' : Blk w2 w.heap.size 23 (bs (List.replicate 32 0)).toArray := (hz1'.alloc _).grown hg2 (fun e => by have := hge _ e.symm; omega)
  have hs1 : w.heap.size + 1 ≤ w1.heap.size := by have := hb1.size; simpa using this
  have hw1 : Below w.heap.size w w1 := ((Below.refl _ _).alloc (Nat.le_refl _) _).trans (hb1.mono (by simp))
  have hw2 : Below w.heap.size w w2 := (hw1.alloc (by omega) _).grown hg2 (by simp; omega) (fun k hk => by have := hge k hk; omega)
  have hs2 : w.heap.size + 1 ≤ w2.heap.size := by have := hg2.size; simp at this; omega
  clear hz hz1' hge hs1 hw1 hv1 hb1 hown2 hg2 hr
  obtain ⟨g2, c2, hv2, hg2, _, hc2⟩ := own2.form (by simp)
  rw [List.length_append, List.length_singleton] at hv2
  subst hv2
  have own3 : w2.ownsRow (w.heap.size + 1) 5 1 (.slice (some ⟨g2, 0, none⟩) (l.length + 1) c2) (l.length + 1) (bs (l ++ [128])) := by simpa [Owns] using own2
  clear own2
  gi_loopw [3] (fun v wr => ∃ k g cap, k ≤ zerosFor l.length ∧ v = .slice (some ⟨g, 0, none⟩) (l.length + 1 + k) cap ∧ wr.ownsRow (w.heap.size + 1) 5 1 (.slice (some ⟨g, 0, none⟩) (l.length + 1 + k) cap) (l.length + 1 + k) (bs (l ++ [128] ++ List.replicate k 0)) ∧ Blk wr w.heap.size 23 (bs (List.replicate 32 0)).toArray ∧ Below w.heap.size w wr ∧ w.heap.size + 1 ≤ wr.heap.size) (fun v _ => l.length + 1 + zerosFor l.length - (match v with | .slice _ n _ => n | _ => 0))
  case atStart => exact ⟨0, g2, c2, Nat.zero_le _, rfl, by simpa using own3, hz2', hw2, hs2⟩
  case round =>
    clear own3 hz2' hw2 hs2 hg2 hc2
    obtain ⟨k, g, cap, hk, rfl, own, hz, hw, hs⟩ := hrel
    have hz64 : zerosFor l.length < 64 := Nat.mod_lt _ (by omega)
    by_cases hlt : k < zerosFor l.length
    · have hne : ((((l.length : Int) + 1 + (k : Int)) % 64) != 56) = true := by unfold zerosFor at hlt; rw [bne_iff_ne]; omega
      gi_wp2_with (gi_at_builtin; refine wpListIn_append_own _ rfl (.tmp 17) (.tmp 18) 55 rfl (w.heap.size + 1) 5 i0 _ 1 1 Tryz.underlying55 hi hz0 hz1 hz2 rfl (by omega) _ (l.length + 1 + k) (bs (l ++ [128] ++ List.replicate k 0)) rfl (World.ownsRow.alloc own _) ⟨wr.heap.size, 0, none⟩ 1 1 [.int .u8 0] rfl rfl (cell_one_new _ _ _) (by simp [Value.oneCell']) (by unfold maxLen; omega) (by omega) (by simp; omega) ?_; intro v2 w2 hown2 hg2 _)
      have own2 : Owns w2 (w.heap.size + 1) v2 (l ++ [128] ++ List.replicate k 0 ++ [0]) := Owns.snoc 0 hown2 (by simp; omega) rfl
      have hlen : (l ++ [128] ++ List.replicate k (0 : UInt8) ++ [0]).length = l.length + 1 + (k + 1) := by simp; omega
      obtain ⟨g2, c2, hv2, hgg, _, hc2⟩ := own2.form (by omega)
      rw [hlen] at hv2
      subst hv2
      have hz2 := (hz.alloc (.cells #[Value.int .u8 0] 5)).grown hg2 (fun e => by have := (World.ownsRow.lt own g rfl).1; have e' : w.heap.size = g := Option.some.inj e; omega)
      have hw2 : Below w.heap.size w w2 := (hw.alloc (by omega) _).grown hg2 (by simp; omega) (fun k hk => by have := (World.ownsRow.lt own k hk).1; omega)
      have hs2 : w.heap.size + 1 ≤ w2.heap.size := by have := hg2.size; simp at this; omega
      have own4 : w2.ownsRow (w.heap.size + 1) 5 1 (.slice (some ⟨g2, 0, none⟩) (l.length + 1 + (k + 1)) c2) (l.length + 1 + (k + 1)) (bs (l ++ [128] ++ List.replicate (k + 1) 0)) := by
        have h := own2
        unfold Owns at h
        rw [hlen] at h
        rw [List.replicate_succ', ← List.append_assoc]
        exact h
      clear own2 hlen hown2 hg2 own hz hw
      gi_wp2
      go_roundw
      case rel => exact ⟨k + 1, g2, c2, by omega, rfl, own4, hz2, hw2, hs2⟩
      case measure => simp only; omega
    · have hkk : k = zerosFor l.length := by omega
      have hne : ((((l.length : Int) + 1 + (k : Int)) % 64) != 56) = false := by unfold zerosFor at hkk; rw [bne_eq_false_iff_eq]; omega
      have HK := Lib.hid hkk
      clear hkk
      gi_wp2
      rw [HK.out] at own
      have hz64' := hz64
      generalize hzz : zerosFor l.length = z at *
      have HZ := Lib.hid hzz
      clear hzz
      generalize hq : l ++ [128] ++ List.replicate z 0 = q at *
      have HQ := Lib.hid hq
      have hql : q.length = l.length + 1 + z := by rw [← hq]; simp; omega
      clear hq
      gi_loopw [3, 4] (fun v s wr => ∃ (j g cap : Nat), j ≤ 8 ∧ s = .int .i64 (56 - 8 * (j : Int)) ∧ v = .slice (some ⟨g, 0, none⟩) (l.length + 1 + z + j) cap ∧ wr.ownsRow (w.heap.size + 1) 5 1 (.slice (some ⟨g, 0, none⟩) (l.length + 1 + z + j) cap) (l.length + 1 + z + j) (bs (q ++ lenBytes (8 * l.length) j)) ∧ Blk wr w.heap.size 23 (bs (List.replicate 32 0)).toArray ∧ Below w.heap.size w wr ∧ w.heap.size + 1 ≤ wr.heap.size) (fun _ s _ => (intOf s + 8).toNat)
      case atStart => exact ⟨0, g, cap, by omega, by simp, by rw [HK.out]; rfl, by simpa [lenBytes, HK.out] using own, hz, hw, hs⟩
      case round =>
        clear own hz hw hs
        obtain ⟨j, g, cap, hj, rfl, rfl, own, hz, hw, hs⟩ := hrel
        by_cases hlt : j < 8
        · have h0 : (0 : Int) ≤ 56 - 8 * (j : Int) := by omega
          have ht : (56 - 8 * (j : Int)).toNat = 56 - 8 * j := by omega
          gi_wp2_with (gi_at_builtin; refine wpListIn_append_own _ rfl (.tmp 24) (.tmp 32) 55 rfl (w.heap.size + 1) 5 i0 _ 1 1 Tryz.underlying55 hi hz0 hz1 hz2 rfl (by omega) _ (l.length + 1 + z + j) (bs (q ++ lenBytes (8 * l.length) j)) rfl (World.ownsRow.alloc own _) ⟨wr.heap.size, 0, none⟩ 1 1 [.int .u8 (8 * (l.length : Int) / 2 ^ (56 - 8 * j) % 256)] rfl rfl (cell_one_new _ _ _) (by simp [Value.oneCell']) (by unfold maxLen; omega) (by omega) (by simp; omega) ?_; intro v2 w2 hown2 hg2 _)
          have hlen : (q ++ lenBytes (8 * l.length) j).length = l.length + 1 + z + j := by rw [List.length_append, hql, lenBytes_length]
          have own2 : Owns w2 (w.heap.size + 1) v2 (q ++ lenBytes (8 * l.length) j ++ [UInt8.ofNat (8 * l.length / 2 ^ (56 - 8 * j))]) := Owns.snoc _ hown2 (by rw [hlen]) (by simp)
          rw [List.append_assoc, ← lenBytes_succ] at own2
          have hlen2 : (q ++ lenBytes (8 * l.length) (j + 1)).length = l.length + 1 + z + (j + 1) := by rw [List.length_append, hql, lenBytes_length]
          obtain ⟨g2, c2, hv2, hgg, _, hc2⟩ := own2.form (by omega)
          rw [hlen2] at hv2
          subst hv2
          have hz2 := (hz.alloc (.cells #[Value.int .u8 (8 * (l.length : Int) / 2 ^ (56 - 8 * j) % 256)] 5)).grown hg2 (fun e => by have := (World.ownsRow.lt own g rfl).1; have e' : w.heap.size = g := Option.some.inj e; omega)
          have hw2 : Below w.heap.size w w2 := (hw.alloc (by omega) _).grown hg2 (by simp; omega) (fun k hk => by have := (World.ownsRow.lt own k hk).1; omega)
          have hs2 : w.heap.size + 1 ≤ w2.heap.size := by have := hg2.size; simp at this; omega
          have own4 : w2.ownsRow (w.heap.size + 1) 5 1 (.slice (some ⟨g2, 0, none⟩) (l.length + 1 + z + (j + 1)) c2) (l.length + 1 + z + (j + 1)) (bs (q ++ lenBytes (8 * l.length) (j + 1))) := by
            have h := own2
            unfold Owns at h
            rw [hlen2] at h
            exact h
          clear own2 hlen hlen2 hown2 hg2 own hz hw ht h0
          gi_wp2
          go_roundw
          case rel => exact ⟨j + 1, g2, c2, by omega, by go_num, rfl, own4, hz2, hw2, hs2⟩
          case measure => simp [intOf]; omega
        · have h0 : ¬ (0 : Int) ≤ 56 - 8 * (j : Int) := by omega
          have hj8 : j = 8 := by omega
          have hpad : q ++ lenBytes (8 * l.length) 8 = shaPad l := by rw [← HQ.out, ← HZ.out]; rfl
          rw [hj8, hpad] at own
          have HJ := Lib.hid hj8
          clear hj8 hpad hlt
          gi_wp2_with (first | (refine ⟨trivial, ?_⟩; gi_at_call 93; refine (callsIn_wide.2 (first_cells _)).mono ?_; rintro e w1 ⟨rfl, hb1⟩) | ((with_reducible refine wpListIn_store_blk (o := ⟨none, .store 181 (.tmp 5) (.tmp 34), _, _, _, _⟩) rfl 181 (.tmp 5) (.tmp 34) rfl w1.heap.size (shaCells shaInit) rfl rfl 181 _ (Blk.new w1 _ _) (by rw [shaCells_size]; kernel_rfl) (by rw [shaCells_size, zeros8_size]) (shaCells_one _) ?_); intro w3 hb3 hg3 hs3; have HS3 := Lib.hid hs3; clear hs3) | (refine ⟨trivial, ?_⟩; gi_at_call 89; refine (chunk_any Fence.wide 2 trivial rfl _ _ _ _).mono ?_; rintro e w4 ⟨rfl, hc1, hc2, hs4, hb4⟩))
          have hj8 := HJ.out
          have hn : l.length + 1 + z + j = (shaPad l).length := by have := own.1; rw [bs_length] at this; omega
          have hn8 : l.length + 1 + z + 8 = (shaPad l).length := by have := own.1; rw [bs_length] at this; omega
          rw [hn8] at own
          rw [hn] at hc1
          rw [hn]
          clear hn8 hj8
          have hp64 := (shaPad_length l).2
          have hp9 : 9 ≤ (shaPad l).length := by have := (shaPad_length l).1; omega
          have hpb : (shaPad l).length ≤ 140737488351232 := by have := (shaPad_length l).1; omega
          clear hn hql HQ HZ HK HJ hz64' hz64 hlt hne hk
          generalize hpp : shaPad l = p at *
          have HP := Lib.hid hpp
          clear hpp
          have hs3' : w3.heap.size = w1.heap.size + 1 := by rw [HS3.out]; simp
          have hB3 : Below wr.heap.size wr w3 := (hb1.alloc hb1.size _).grown hg3 (by have := hb1.size; simp; omega) (fun k hk => by have := hb1.size; injection hk with hk; omega)
          have hB : Below wr.heap.size wr w4 := hB3.trans (hb4.mono hB3.size)
          have z4 : Blk w4 w.heap.size 23 _ := hz.below hB hz.lt
          have s4 : Blk w4 w1.heap.size 181 _ := hb3.below hb4 hb3.lt
          have hw4 : Below w.heap.size w w4 := hw.trans (hB.mono hw.size)
          obtain ⟨ol, ⟨hno, _⟩ | ⟨g', cap', cur, hv, hgB, hgc, hnc, hcm, hcs, htk⟩⟩ := own
          · cases hno
          have hv1 : g = g' := by cases hv; rfl
          have hv2 : cap = cap' := by cases hv; rfl
          clear hv
          subst hv1 hv2
          have g4 : w4.heap[g]? = some (.cells cur 5 (0, 0)) := (hB.block g (Array.getElem?_eq_some_iff.1 hgc).1).trans hgc
          have hgw1 : g < w1.heap.size := Nat.lt_of_lt_of_le (Array.getElem?_eq_some_iff.1 hgc).1 hb1.size
          have hs1 := hb1.size
          clear hgc hB hB3 hb4 hb3 hg3 hb1 hz hw HS3
          have HS4 := Lib.hid hs4
          have HTK := Lib.hid htk
          have HCS := Lib.hid hcs
          have HS3 := Lib.hid hs3'
          have HP64 := Lib.hid hp64
          refine' wpIn_rangeFunc_ownF rfl (by omega) (gf := 109) (lb := #[.pointer (some ⟨w3.heap.size, 0, none⟩), .pointer (some ⟨w3.heap.size + 1, 0, none⟩)]) rfl trivial (enters_of Tryz.func109 (by kernel_rfl) rfl)
            (chunk_stops Fence.wide 2 trivial rfl (by omega) w3.heap.size (w3.heap.size + 1) ⟨g, 0, none⟩ p.length cap (by omega) hnc hpb (by unfold maxLen at hcm; omega) w4 hc1 hc2) keepTwo_t ?hKb (Below.refl _ _) (fun _ => rfl)
            (fun pre W => W.heap[w1.heap.size]? = some (.cells (shaCells (shaFold p (pre.map fun x => min x (pieces p.length - 1)))) 181 (0, 0)) ∧ W.heap[g]? = some (.cells cur 5 (0, 0)) ∧ W.heap[w.heap.size]? = some (.cells (bs (List.replicate 32 0)).toArray 23 (0, 0)) ∧ Below w.heap.size w W ∧ w4.heap.size ≤ W.heap.size)
            (fun _ _ _ => False)
            ?hI (fun _ _ _ _ _ hs _ _ => hs) ⟨s4, g4, z4, hw4, Nat.le_refl _⟩ _ ?assign ?body ?done ?stop
          case hKb => exact fun W q o o' hq _ _ _ => ⟨World.putObj_heap_other (by omega), World.putObj_heap_other (by omega)⟩
          case hI => exact (ownFrom_obj (b := w1.heap.size) (B := w4.heap.size) (by omega) fun (pre : List Nat) => .cells (shaCells (shaFold p (pre.map fun x => min x (pieces p.length - 1)))) 181 (0, 0)).and ((ownFrom_obj (b := g) (by omega) fun _ => .cells cur 5 (0, 0)).and ((ownFrom_obj (b := w.heap.size) z4.lt fun _ => .cells (bs (List.replicate 32 0)).toArray 23 (0, 0)).and ((ownFrom_below (Nat.le_refl _) hw4.size).and (ownFrom_size _ _))))
          all_goals (clear hs4 htk hcs hs3' hp64 ol)
          case assign =>
            intro q x W K hK
            simp only [pieceEnc]
            have HK := Lib.hid hK
            clear hK
            rw [zip_one]
            simp only [List.setIfInBounds_toArray, List.set_cons_succ, List.set_cons_zero]
            gi_wp2
            exact HK.out
          case body =>
            rintro q pre x W ⟨i1, i2, i3, i4, i5⟩ hpre
            have hm : 1 ≤ pieces p.length := by unfold pieces; omega
            obtain ⟨y, hy⟩ : ∃ y, y = min x (pieces p.length - 1) := ⟨_, rfl⟩
            have hyl : y < pieces p.length := by omega
            have hyp : 64 * y + 64 ≤ p.length := by have := HP64.out; unfold pieces at hyl; omega
            have hpv : pieceV ⟨g, 0, none⟩ p.length (min x (pieces p.length - 1)) = .slice (some ⟨g, 64 * y, none⟩) 64 64 := by
              rw [← hy]; unfold pieceV; rw [Nat.min_eq_left (by omega), add_head]
            rw [hpv]
            have HX : Hid (shaFold p ((pre ++ [x]).map fun x => min x (pieces p.length - 1)) = shaMix (chunk64 p y) (shaFold p (pre.map fun x => min x (pieces p.length - 1)))) := by
              rw [List.map_append, List.map_singleton, shaFold_snoc, ← hy]; exact rfl
            clear hpv hy
            have hR : Reads W W.heap.size 1 (some ⟨g, 64 * y, none⟩) 64 (bs (chunk64 p y)) := by
              have ho : Owns W (w.heap.size + 1) (.slice (some ⟨g, 0, none⟩) p.length cap) p := ⟨by rw [bs_length]; omega, .inr ⟨g, cap, cur, rfl, hgB, i2, hnc, hcm, HCS.out, HTK.out⟩⟩
              have h := (ho.reads).part (64 * y) 64 hyp
              rw [bs_part, add_head] at h
              exact h
            have hTW : Tabs W := hT.under i4
            have hi1 : Blk W w1.heap.size 181 _ := i1
            have hok := shaFold_ok p (pre.map fun x => min x (pieces p.length - 1))
            generalize shaFold p (pre.map fun x => min x (pieces p.length - 1)) = s0 at *
            have hcl : (chunk64 p y).length = 64 := by unfold chunk64; rw [List.length_take, List.length_drop]; omega
            have HCL := Lib.hid hcl
            clear hcl
            generalize chunk64 p y = ch at *
            clear hcm
            gi_wp2_with (first | ((with_reducible refine wpListIn_load_blk (o := ⟨some 38, _, _, _, _, _⟩) rfl 181 _ rfl w1.heap.size rfl 181 _ _ hi1 Tryz.underlying181 rfl (by rw [shaCells_size]; kernel_rfl) ?_)) | (refine ⟨trivial, ?_⟩; gi_at_call 94; refine (CallsIn.inRound q (callsIn_wide.2 (mixed_cells s0 _ 64 ch W hok HCL.out (by omega) hR hTW))).mono ?_; rintro e W2 ⟨rfl, hb2⟩; have hi2 := Blk.below hi1 hb2 hi1.lt) | ((with_reducible refine wpListIn_store_blk (o := ⟨none, .store 181 (.tmp 5) (.tmp 40), _, _, _, _⟩) rfl 181 (.tmp 5) (.tmp 40) rfl w1.heap.size (shaCells (shaMix ch s0)) rfl rfl 181 _ hi2 (by rw [shaCells_size]; kernel_rfl) (by rw [shaCells_size, shaCells_size]) (shaCells_one _) ?_); intro W3 hb3 hg3 hs3))
            have far : ∀ b, b < W.heap.size → b ≠ w1.heap.size → W3.heap[b]? = W.heap[b]? := fun b hb hne => (hg3.block b (Nat.lt_of_lt_of_le hb hb2.size) (fun e => hne (by injection e))).trans (hb2.block b hb)
            have e3 := HS3.out
            have e4 := HS4.out
            refine ⟨keepsOthers_of hb2 hi1 hg3, ⟨far _ (by omega) (by omega), far _ (by omega) (by omega)⟩, ?_, (far g (by omega) (by omega)).trans i2, (far _ (by have := z4.lt; omega) (by have := z4.lt; have := hw4.size; omega)).trans i3, (i4.trans (hb2.mono i4.size)).trans (below_grown hg3 (by omega) (by have := hb2.size; omega)), by have := hb2.size; have := hg3.size; omega⟩
            rw [HX.out]
            exact hb3
          case done =>
            rintro D xs W hD rfl ⟨i1, i2, i3, i4, i5⟩ hK
            have hmap : (List.range (pieces p.length)).map (fun x => min x (pieces p.length - 1)) = List.range (pieces p.length) := by
              have h : ∀ x ∈ List.range (pieces p.length), min x (pieces p.length - 1) = id x := fun x hx => Nat.min_eq_left (by have := List.mem_range.1 hx; omega)
              rw [List.map_congr_left h, List.map_id]
            rw [hmap] at i1
            have HO : Hid (shaOut (shaFold p (List.range (pieces p.length))) 32 = sha256 l) := by unfold sha256; rw [HP.out]; exact rfl
            have hok := shaFold_ok p (List.range (pieces p.length))
            clear hmap
            generalize shaFold p (List.range (pieces p.length)) = st at *
            have j1 : Blk W w1.heap.size 181 _ := i1
            have j3 : Blk W w.heap.size 23 _ := i3
            have q1 : w1.heap.size < W.heap.size := j1.lt
            have q2 : w.heap.size < W.heap.size := j3.lt
            have q3 : D < W.heap.size := (Array.getElem?_eq_some_iff.1 hK).1
            have q5 := hw4.size
            have q4 : D ≠ w.heap.size := by
              rintro rfl
              have h1 : W.heap[w.heap.size]? = some _ := j3
              rw [hK] at h1
              cases h1
            clear i1 i2 i3 g4 s4 z4 hw4 hc1 hc2 hcm
            gi_wp2
            gi_loopw [41] (fun ix wr => ∃ k : Nat, k ≤ 32 ∧ ix = .int .i64 k ∧ Blk wr W.heap.size 23 (bs (shaOut st k ++ List.replicate (32 - k) 0)).toArray ∧ Blk wr w1.heap.size 181 (shaCells st) ∧ Blk wr w.heap.size 23 (bs (List.replicate 32 0)).toArray ∧ wr.heap[D]? = some (.deferred (some [])) ∧ Below w.heap.size w wr) (fun ix _ => 32 - (intOf ix).toNat)
            case atStart => exact ⟨0, by omega, rfl, Blk.new _ _ _, j1.alloc _, j3.alloc _, (Below.heap_alloc W _ D (Array.getElem?_eq_some_iff.1 hK).1).trans hK, i4.alloc i4.size _⟩
            case round =>
              clear hK j1 j3
              obtain ⟨k, hk, rfl, b1, b2, b3, bK, bw⟩ := hrel
              by_cases hlt : k < 32
              · have c1 := (b2.cell (k / 4)).trans (shaCells_get st (k / 4) (by omega))
                have f1 := b1.frozen k
                have c2 := (b1.cell k).trans (shaOut_get st k hlt)
                have hx := Sha.get_lt hok (k / 4)
                have hst := shaOut_step st k hlt
                have HST := Lib.hid hst
                clear hst
                generalize st.list.getD (k / 4) 0 = x at *
                have hs0 : (0 : Int) ≤ 24 - 8 * ((k : Int) % 4) := by omega
                have hs1 : (24 - 8 * ((k : Int) % 4)).toNat = 24 - 8 * (k % 4) := by omega
                gi_wp2
                go_roundw
                case rel =>
                  refine ⟨k + 1, by omega, by go_num, ?_, b2.far (p := ⟨W.heap.size, k, none⟩) (by show w1.heap.size ≠ W.heap.size; exact Nat.ne_of_lt q1) _, b3.far (p := ⟨W.heap.size, k, none⟩) (by show w.heap.size ≠ W.heap.size; exact Nat.ne_of_lt q2) _, (Below.heap_setCell wr ⟨W.heap.size, k, none⟩ _ D (by show D ≠ W.heap.size; exact Nat.ne_of_lt q3)).trans bK, bw.setCell (by show w.heap.size ≤ W.heap.size; exact i4.size) _⟩
                  have h := b1.set_ k (.int .u8 ((x / 2 ^ (24 - 8 * (k % 4)) % 256 : Nat) : Int))
                  rw [HST.out] at h
                  rw [show k % 4 * 8 = 8 * (k % 4) from Nat.mul_comm _ _]
                  simpa using h
                case measure => simp [intOf]; omega
              · have e32 : k = 32 := by omega
                rw [e32, Nat.sub_self, List.replicate_zero, List.append_nil, HO.out] at b1
                clear e32
                have z1 : (bs (sha256 l)).toArray.size = 32 := by rw [← HO.out]; simp [bs_length, shaOut_length]
                have z2 : (bs (sha256 l)).toArray.all (·.oneCell') = true := bs_all _
                have z3 : (bs (List.replicate 32 0)).toArray.size = (bs (sha256 l)).toArray.size := by rw [z1]; simp [bs_length]
                generalize hfin : (bs (sha256 l)).toArray = fin at *
                have HF := Lib.hid hfin
                clear hfin
                gi_wp2_with (first | ((with_reducible refine wpListIn_load_blk (o := ⟨some 57, _, _, _, _, _⟩) rfl 23 _ rfl W.heap.size rfl 23 _ _ b1 Tryz.underlying23 rfl (by rw [z1]; kernel_rfl) ?_)) | ((with_reducible refine wpListIn_store_blk rfl 23 (.tmp 2) (.tmp 57) rfl w.heap.size _ rfl rfl 23 _ b3 (by rw [z1]; kernel_rfl) z3 z2 ?_); intro W4 hb4 hg4 hs4))
                have e5 : W4.heap.size = wr.heap.size := hs4
                have e6 : W.heap.size < wr.heap.size := b1.lt
                have hK' : W4.heap[D]? = some (.deferred (some [])) := (hg4.block D (by omega) (by intro e; injection e with e; exact q4 e)).trans bK
                go_goals
                refine ⟨by simp, .inl ⟨_, _, rfl, run_takeDeferred hK', ?_⟩⟩
                refine ⟨_, results_cell_row (fr := (0, 0)) rfl _ _ w.heap.size 23 _ _ rfl ((World.putObj_heap_other (Ne.symm q4)).trans hb4) Tryz.underlying23 rfl (by rw [z1]; kernel_rfl), by rw [HF.out], ?_⟩
                refine (bw.trans (below_grown hg4 (Nat.le_refl _) (by have := bw.size; omega))).trans ?_
                refine (Below.refl _ W4).grown (grownBy_putObj' W4 D (.deferred none)) (by have := bw.size; omega) (fun k e => ?_)
                cases e
                omega
          case stop => exact fun _ _ _ _ _ _ hf _ => hf.elim
end Go.Proofs.YtkhebllmnagkmaaGreatDoor
