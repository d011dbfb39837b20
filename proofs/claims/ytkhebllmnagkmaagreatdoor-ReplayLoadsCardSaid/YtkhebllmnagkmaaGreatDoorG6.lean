/- Contracts and lemmas under the statements of this seat, one behind the other. Conditions: what each names. -/
import Derived.Test.YtkhebllmnagkmaaGreatDoorG5
import Derived.Deep.MidRow
import Derived.Deep.RegionHeld3
/- Contract of cipher.Nonce. Conditions: what each names. -/
namespace Go.Proofs.YtkhebllmnagkmaaGreatDoor
open Go.RowKit
set_option linter.unusedVariables false

theorem Blk.row {w : World} {g : Nat} {t : TypeId} {xs : List Value} (h : Blk w g t xs.toArray) : Reads w w.heap.size 1 (some ⟨g, 0, none⟩) xs.length xs := by
  refine ⟨by omega, fun _ => ⟨_, rfl, h.lt, fun j u hu => ?_⟩⟩
  rw [add_head]
  exact (h.cell j).trans (by rw [List.getElem?_toArray]; exact hu)
theorem Owns.range {w : World} {base g cap n : Nat} {l : List UInt8} (h : Owns w base (.slice (some ⟨g, 0, none⟩) n cap) l) : w.rangeAt g 0 (bs l) := by
  intro j v hj
  rcases h.2 with ⟨h1, _⟩ | ⟨g', cap', cur, hv, _, hh, _, _, _, htk⟩
  · cases h1
  · cases hv
    rw [Nat.zero_add, cell_of_row w _ j cur _ (0, 0) hh, ← Array.getElem?_toList]
    rw [← htk, List.getElem?_take] at hj
    split at hj
    · exact hj
    · cases hj
theorem wput_bs (x n : Nat) (w : World) (h1 : 1 ≤ n) (h8 : n ≤ 8) (hx : x ≤ 18446744073709551615) : Calls Tryz.prog 45 #[.int .u64 (x : Int), .int .i64 (n : Int)] w fun e w' =>
    e = .returned (.slice (some ⟨w.heap.size, 0, none⟩) n n) ∧ Blk w' w.heap.size 5 (bs (putB x n)).toArray ∧ w'.heap.size = w.heap.size + 1 ∧ Below w.heap.size w w' :=
  (wput x n w h1 h8 hx).mono fun e w' h => ⟨h.1, by have h2 := h.2.1; simpa [putCells] using h2, h.2.2⟩
theorem size_alloc' (w : World) (o : Obj) : (w.alloc o).heap.size = w.heap.size + 1 := by simp
theorem run_arrayAt' {P : Program} (w : World) (arr e : TypeId) (n : Nat) (a : Option Addr) (len cap : Nat) (h : P.underlying arr = some (.array n e)) (hn : n ≤ len) : (Instr.arrayAt arr (.slice a len cap)).run P w = .ok (.pointer a) w := by
  simp [Instr.arrayAt, Sem.run_bind, run_underlying h, Result.andThen, show ¬ len < n by omega]
/-- Concat of parts that were laid just now. -/
theorem concat_new (ps : List (Option Addr × Nat × List UInt8)) (xs : List Value) (k : Nat) (w : World) (hk : ps.length = k) (hx : ps.map partV = xs) (hp : ∀ p ∈ ps, Reads w w.heap.size 1 p.1 p.2.2.length (bs p.2.2))
    (hM : (cat ps).length ≤ 1099511627776) (hn : ps.length ≤ 1099511627776) :
    Calls Tryz.prog 65 #[.slice (some ⟨w.heap.size, 0, none⟩) k k] (w.alloc (.cells xs.toArray 55)) fun e w' => ∃ v, e = .returned v ∧ Owns w' (w.heap.size + 1) v (cat ps) ∧ Below (w.heap.size + 1) (w.alloc (.cells xs.toArray 55)) w' := by
  subst hk hx
  have hb : Blk (w.alloc (.cells (ps.map partV).toArray 55)) w.heap.size 55 (ps.map partV).toArray := Blk.new _ _ _
  have hr := hb.row
  rw [List.length_map] at hr
  have hz : (w.alloc (.cells (ps.map partV).toArray 55)).heap.size = w.heap.size + 1 := by simp
  have h := concat_any (some ⟨w.heap.size, 0, none⟩) ps.length ps _ hr (fun p hpp => ((hp p hpp).alloc (Nat.le_refl _) _).more (by simp)) hM hn
  rw [hz] at h
  exact h
set_option maxRecDepth 100000 in
set_option maxHeartbeats 1000000 in
theorem nonce_any (place version : Nat) (w : World) (hp : place < 4294967296) (hv : version ≤ 18446744073709551615) :
    Calls Tryz.prog 69 #[.int .u32 (place : Int), .int .u64 (version : Int)] w fun e w' => e = .returned (.agg (bs (nonceB place version)).toArray) ∧ Below w.heap.size w w' := by
  have put4 := fun W => wput_bs place 4 W (by omega) (by omega) (by omega)
  have put8 := fun W => wput_bs version 8 W (by omega) (by omega) (by omega)
  simp only [show ((4 : Nat) : Int) = 4 from rfl] at put4
  simp only [show ((8 : Nat) : Int) = 8 from rfl] at put8
  have hl4 := putB_length place 4
  have hl8 := putB_length version 8
  have hN : nonceB place version = putB place 4 ++ putB version 8 := rfl
  generalize putB place 4 = p4 at *
  generalize putB version 8 = p8 at *
  have HN := Lib.hid hN
  have z1 : (bs (nonceB place version)).toArray.size = 12 := by rw [List.size_toArray, bs_length, nonceB_length]
  have z2 : (bs (nonceB place version)).length = 12 := by rw [bs_length, nonceB_length]
  have z3 : (bs (nonceB place version)).toArray.all (·.oneCell') = true := bs_all _
  generalize nonceB place version = nn at *
  have z4 : (bs (List.replicate 12 0)).toArray.size = (bs nn).toArray.size := by rw [z1]; simp [bs_length]
  have Z1 := Lib.hid z1
  have Z2 := Lib.hid z2
  have L4 := Lib.hid hl4
  have L8 := Lib.hid hl8
  have N12 : Hid (nn.length = 12) := by have h := Z2.out; rw [bs_length] at h; exact h
  have Z3 := Lib.hid z3
  have Z4 := Lib.hid z4
  clear z1 z2 z3 z4 hN hl4 hl8
  have hz : Blk (w.alloc (.cells (bs (List.replicate 12 0)).toArray 154)) w.heap.size 154 (bs (List.replicate 12 0)).toArray := Blk.new _ _ _
  have hb0 : Below w.heap.size w (w.alloc (.cells (bs (List.replicate 12 0)).toArray 154)) := (Below.refl _ _).alloc (Nat.le_refl _) _
  go_enter Tryz.func69, Tryz.ntmps69
  go_wp2_with (first | (go_at_call 45; with_reducible refine (put4 _).mono ?_; rintro e w1 ⟨rfl, k1, s1, b1⟩; rw [size_alloc'] at k1 s1 b1; have S1 := Lib.hid s1; clear s1) | (go_at_call 45; with_reducible refine (put8 _).mono ?_; rintro e w2 ⟨rfl, k2, s2, b2⟩; have S2 := Lib.hid s2; clear s2) | (go_at_call 65; refine (concat_new [(some ⟨w.heap.size + 1, 0, none⟩, 4, p4), (some ⟨w1.heap.size, 0, none⟩, 8, p8)] [_, _] 2 w2 rfl (by simp [partV, L4.out, L8.out]) (by intro p hpm; simp only [List.mem_cons, List.not_mem_nil, or_false] at hpm; rcases hpm with rfl | rfl; exact (k1.below b2 k1.lt).reads; exact k2.reads) (by simp [cat, L4.out, L8.out]) (by simp)).mono ?_; rintro e w3 ⟨v3, rfl, hv3, b3⟩; rw [show cat [((some ⟨w.heap.size + 1, 0, none⟩ : Option Addr), 4, p4), (some ⟨w1.heap.size, 0, none⟩, 8, p8)] = nn from by rw [HN.out]; simp [cat]] at hv3; obtain ⟨g3, c3, hv, hg3, hlt3, hc3⟩ := hv3.form (by rw [N12.out]; omega); rw [N12.out] at hv hc3; subst hv; have hr3 := hv3.range; have ha3 := fun W => run_arrayAt' (P := Tryz.prog) W 154 _ 12 (some ⟨g3, 0, none⟩) 12 c3 Tryz.underlying154 (Nat.le_refl _); have hz1 : Blk w1 w.heap.size 154 (bs (List.replicate 12 0)).toArray := hz.below b1 (by omega); have hz2 := hz1.below b2 hz1.lt; have hz3 : Blk w3 w.heap.size 154 (bs (List.replicate 12 0)).toArray := (hz2.alloc _).below b3 (by have := hz2.lt; omega)) | ((with_reducible refine wpList_load_mid (op := ⟨some 13, _, _, _, _, _⟩) rfl 154 _ rfl g3 0 rfl (bs nn) _ hr3 Tryz.underlying154 rfl (by rw [Z2.out]; kernel_rfl) ?_)) | ((with_reducible refine wpList_store_blk (o := ⟨none, .store 154 (.tmp 4) (.tmp 13), _, _, _, _⟩) rfl 154 (.tmp 4) (.tmp 13) rfl w.heap.size _ rfl rfl 154 _ hz3 (by rw [Z1.out]; kernel_rfl) Z4.out Z3.out ?_); intro w4 hb4 hg4 hs4))
  have y0 : Below w.heap.size w w1 := hb0.trans (b1.mono (by omega))
  have y1 : Below w.heap.size w w2 := y0.trans (b2.mono y0.size)
  have y2 : Below w.heap.size w w3 := (y1.alloc y1.size _).trans (b3.mono (by have := y1.size; omega))
  exact ret_cell 4 154 rfl rfl w.heap.size 154 _ _ rfl hb4 Tryz.underlying154 rfl (by rw [Z1.out]; kernel_rfl) ⟨rfl, y2.grown hg4 y2.size (fun k e => by injection e with e; omega)⟩
end Go.Proofs.YtkhebllmnagkmaaGreatDoor
/- Contract of cipher.Crypt, the counter being 0 at first. Conditions: what each names. -/
namespace Go.Proofs.YtkhebllmnagkmaaGreatDoor
open Go.RowKit Go.Shelf
set_option linter.unusedVariables false
attribute [local go_sem] Oper.semAt_some

/-- The bytes of piece y turned by a block, the first k of them. -/
def turn (X : List UInt8) (y : Nat) (blk : List UInt8) (k : Nat) : List UInt8 := X.mapIdx fun i b => if 64 * y ≤ i ∧ i < 64 * y + k then b ^^^ blk.getD (i - 64 * y) 0 else b
theorem turn_length (X : List UInt8) (y : Nat) (blk : List UInt8) (k : Nat) : (turn X y blk k).length = X.length := by simp [turn]
theorem turn_get (X : List UInt8) (y : Nat) (blk : List UInt8) (k i : Nat) : (turn X y blk k)[i]? = X[i]?.map fun b => if 64 * y ≤ i ∧ i < 64 * y + k then b ^^^ blk.getD (i - 64 * y) 0 else b := by simp [turn]
theorem turn_zero (X : List UInt8) (y : Nat) (blk : List UInt8) : turn X y blk 0 = X := by
  refine List.ext_getElem? fun i => ?_
  rw [turn_get]
  cases X[i]? with
  | none => rfl
  | some b => rw [Option.map_some, if_neg (by omega)]
theorem turn_at (X : List UInt8) (y : Nat) (blk : List UInt8) (k : Nat) : (turn X y blk k)[64 * y + k]? = X[64 * y + k]? := by
  rw [turn_get]
  cases X[64 * y + k]? with
  | none => rfl
  | some b => rw [Option.map_some, if_neg (by omega)]
theorem turn_step (X : List UInt8) (y : Nat) (blk : List UInt8) (k : Nat) (b c : UInt8) (hb : X[64 * y + k]? = some b) (hc : blk.getD k 0 = c) : (turn X y blk k).set (64 * y + k) (b ^^^ c) = turn X y blk (k + 1) := by
  have hlt : 64 * y + k < X.length := (List.getElem?_eq_some_iff.1 hb).1
  subst hc
  refine List.ext_getElem? fun j => ?_
  rw [List.getElem?_set, turn_length, turn_get, turn_get]
  by_cases h : 64 * y + k = j
  · subst h
    rw [if_pos rfl, if_pos hlt, hb, Option.map_some, if_pos (by omega), Nat.add_sub_cancel_left]
  · rw [if_neg h]
    cases X[j]? with
    | none => rfl
    | some c =>
      simp only [Option.map_some]
      by_cases h2 : 64 * y ≤ j ∧ j < 64 * y + k
      · rw [if_pos h2, if_pos (by omega)]
      · rw [if_neg h2, if_neg (by omega)]
theorem turn_cry (key nonce l : List UInt8) (y n : Nat) (hy : y < pieces l.length) (hn : n = min 64 (l.length - 64 * y)) : turn (cry key nonce l (64 * y)) y (chaBlock key y nonce) n = cry key nonce l (64 * (y + 1)) := by
  refine List.ext_getElem? fun j => ?_
  rw [turn_get, cry_get, cry_get, Option.map_map]
  cases hj : l[j]? with
  | none => rfl
  | some b =>
    have hlt : j < l.length := (List.getElem?_eq_some_iff.1 hj).1
    simp only [Option.map_some, Function.comp]
    by_cases h1 : j < 64 * y
    · rw [if_neg (by omega), if_pos h1, if_pos (by omega)]
    · by_cases h2 : j < 64 * (y + 1)
      · rw [if_pos (by omega), if_neg h1, if_pos h2]
        have e1 : j / 64 = y := by omega
        have e2 : j % 64 = j - 64 * y := by omega
        unfold streamAt
        rw [e1, e2]
      · rw [if_neg (by omega), if_neg h1, if_neg h2]
theorem cry_all (key nonce l : List UInt8) : cry key nonce l (64 * pieces l.length) = crypt key nonce l := by
  refine List.ext_getElem? fun j => ?_
  unfold crypt
  rw [cry_get, cry_get]
  cases hj : l[j]? with
  | none => rfl
  | some b =>
    have hlt : j < l.length := (List.getElem?_eq_some_iff.1 hj).1
    rw [Option.map_some, Option.map_some, if_pos (by unfold pieces; omega), if_pos hlt]
theorem keepObj {W W' : World} {row : Option Nat} {b B : Nat} {o : Obj} (hs : W.heap[b]? = some o) (hg : W.grownBy W' row) (hr : ∀ k, row = some k → B ≤ k) (hb : b < B) : W'.heap[b]? = some o :=
  (hg.block b (Array.getElem?_eq_some_iff.1 hs).1 (fun e => by have := hr b e.symm; omega)).trans hs

theorem grown_of_below {W a : World} (h : Below W.heap.size W a) (row : Option Nat) : W.grownBy a row := ⟨h.os, h.tape, h.output, h.size, fun k hk _ => h.block k hk⟩
theorem grown_new {W a b : World} {row : Option Nat} {k : Nat} (h : W.grownBy a row) (h2 : a.grownBy b (some k)) (hk : W.heap.size ≤ k) : W.grownBy b row :=
  ⟨h2.os.trans h.os, h2.tape.trans h.tape, h2.output.trans h.output, Nat.le_trans h.size h2.size, fun i hi hn => (h2.block i (Nat.lt_of_lt_of_le hi h.size) (fun e => by injection e with e; omega)).trans (h.block i hi hn)⟩
theorem grown_alloc {W a : World} {row : Option Nat} (h : W.grownBy a row) (o : Obj) : W.grownBy (a.alloc o) row :=
  ⟨h.os, h.tape, h.output, Nat.le_trans h.size (by simp), fun i hi hn => (Below.heap_alloc a o i (Nat.lt_of_lt_of_le hi h.size)).trans (h.block i hi hn)⟩
theorem blk_of_own {w : World} {base : Nat} {e : TypeId} {size n cap g : Nat} {xs : List Value} (h : w.ownsRow base e size (.slice (some ⟨g, 0, none⟩) n cap) n xs) : ∃ cur, Blk w g e cur ∧ cap ≤ maxLen := by
  rcases h.2 with ⟨h1, _⟩ | ⟨g', cap', cur, hv, _, hh, _, hm, _⟩
  · cases h1
  · cases hv
    exact ⟨cur, hh, hm⟩

set_option maxRecDepth 100000 in
set_option maxHeartbeats 4000000 in
theorem crypt_any (key nonce l : List UInt8) (A : Option Addr) (c : Nat) (w : World) (hr : Reads w w.heap.size 1 A l.length (bs l)) (h0 : 0 < l.length) (hl : l.length ≤ 1048576) (hk : key.length = 32) (hn : nonce.length = 12) (hT : Tabs w) :
    Calls Tryz.prog 68 #[.agg (bs key).toArray, .int .u32 0, .agg (bs nonce).toArray, .slice A l.length c] w fun e w' => ∃ v, e = .returned (.tuple #[v, .int .i64 0]) ∧ Owns w' w.heap.size v (crypt key nonce l) ∧ Below w.heap.size w w' := by
  have z1 : (bs key).toArray.size = 32 := by simp [bs_length, hk]
  have z2 : (bs nonce).toArray.size = 12 := by simp [bs_length, hn]
  have Hk := Lib.hid hk
  have Hn := Lib.hid hn
  have Z1 := Lib.hid z1
  have Z2 := Lib.hid z2
  clear hk hn z1 z2
  refine (callsIn_wide (n := 3)).1 ?_
  refine callsIn_of_wp_marks Tryz.func68 rfl trivial ?_ rfl
  simp only [Tryz.ntmps68, List.size_toArray, List.length_cons, List.length_nil, Nat.reduceAdd, Nat.reduceSub, Array.replicate_succ, Array.replicate_zero, List.push_toArray, List.append_toArray, List.nil_append, List.cons_append]
  have b0 : Below w.heap.size w (((w.alloc (.cells (bs key).toArray 23)).alloc (.cells #[.int .u32 0] 59)).alloc (.cells (bs nonce).toArray 154)) := (((Below.refl _ _).alloc (Nat.le_refl _) _).alloc (by simp) _).alloc (by simp; omega) _
  have hr0 := hr.below b0
  have hr1 := hr0.more b0.size
  gi_wp2_with (first | (refine ⟨trivial, ?_⟩; gi_at_call 43; refine (callsIn_wide.2 (clone_any A l.length c l _ hr1 (by omega))).mono ?_; rintro e w1 ⟨v1, rfl, hv1, hb1⟩; rw [size_alloc', size_alloc', size_alloc'] at hv1 hb1; obtain ⟨g, cap, hv, hg3, hlt3, hc3⟩ := hv1.form h0; subst hv) | (refine ⟨trivial, ?_⟩; gi_at_call 89; refine (chunk_any Fence.wide 2 trivial rfl _ _ _ _).mono ?_; rintro e w4 ⟨rfl, hc1, hc2, hs4, hb4⟩; have HS4 := Lib.hid hs4; clear hs4))
  have ow1 : w1.ownsRow (w.heap.size + 3) 5 1 (.slice (some ⟨g, 0, none⟩) l.length cap) l.length (bs l) := hv1
  obtain ⟨_, _, hcm⟩ := blk_of_own ow1
  have hs1 := hb1.size
  rw [size_alloc', size_alloc', size_alloc'] at hs1
  have hw1 : Below w.heap.size w w1 := b0.trans (hb1.mono (by omega))
  have hw4 : Below w.heap.size w w4 := hw1.trans (hb4.mono hw1.size)
  have kb4 : Blk w4 w.heap.size 23 (bs key).toArray := ((((Blk.new_of rfl rfl).alloc _).alloc _).below hb1 (by omega)).below hb4 (by omega)
  have cb4 : Blk w4 (w.heap.size + 1) 59 #[.int .u32 ((0 : Nat) : Int)] := (((Blk.new_of (by simp) rfl).alloc _).below hb1 (by omega)).below hb4 (by omega)
  have nb4 : Blk w4 (w.heap.size + 2) 154 (bs nonce).toArray := ((Blk.new_of (by simp) rfl).below hb1 (by omega)).below hb4 (by omega)
  have ow4 : w4.ownsRow (w.heap.size + 3) 5 1 (.slice (some ⟨g, 0, none⟩) l.length cap) l.length (bs l) := World.ownsRow.kept ow1 (grown_of_below hb4 none) (.inr (by simp [Value.ownBlock]))
  have hs4 := hb4.size
  have hs4' := HS4.out
  clear b0 hr0 hr1 hv1 ow1 hb1 hr hw1
  refine' wpIn_rangeFunc_ownF rfl (by omega) (gf := 109) (lb := #[.pointer (some ⟨w1.heap.size, 0, none⟩), .pointer (some ⟨w1.heap.size + 1, 0, none⟩)]) rfl trivial (enters_of Tryz.func109 (by kernel_rfl) rfl)
    (chunk_stops Fence.wide 2 trivial rfl (by omega) w1.heap.size (w1.heap.size + 1) ⟨g, 0, none⟩ l.length cap h0 hc3 (by omega) (by unfold maxLen at hcm; omega) w4 hc1 hc2) keepTwo_t ?hKb (Below.refl _ _) (fun _ => rfl)
    (fun pre W => ∃ X : List UInt8, X.length = l.length ∧ (pre = List.range pre.length → X = cry key nonce l (64 * pre.length)) ∧ Blk W w.heap.size 23 (bs key).toArray ∧ Blk W (w.heap.size + 1) 59 #[.int .u32 (pre.length : Int)] ∧ Blk W (w.heap.size + 2) 154 (bs nonce).toArray ∧
      W.ownsRow (w.heap.size + 3) 5 1 (.slice (some ⟨g, 0, none⟩) l.length cap) l.length (bs X) ∧ Below w.heap.size w W ∧ w4.heap.size ≤ W.heap.size)
    (fun _ _ _ => False)
    ?hI (fun _ _ _ _ _ hs _ _ => hs) ⟨l, rfl, fun _ => (cry_zero key nonce l).symm, kb4, cb4, nb4, ow4, hw4, Nat.le_refl _⟩ _ ?assign ?body ?done ?stop
  case hKb => exact fun W q o o' hq _ _ _ => ⟨World.putObj_heap_other (by omega), World.putObj_heap_other (by omega)⟩
  case hI =>
    rintro pre W W' row ⟨X, e1, e2, i1, i2, i3, i4, i5, i6⟩ hg hrr
    have hrr' : ∀ k, row = some k → w4.heap.size ≤ k := fun k hk => (hrr k hk).1
    refine ⟨X, e1, e2, keepObj i1 hg hrr' (by omega), keepObj i2 hg hrr' (by omega), keepObj i3 hg hrr' (by omega), World.ownsRow.kept i4 hg (.inr fun e => ?_), i5.grown hg (by omega) (fun k hk => by have := hrr' k hk; omega), Nat.le_trans i6 hg.size⟩
    have := hrr' g e.symm
    omega
  all_goals (clear hc1 hc2 kb4 cb4 nb4 ow4)
  case assign =>
    intro q x W K hK
    simp only [pieceEnc]
    have HK := Lib.hid hK
    clear hK
    rw [zip_one]
    simp only [List.setIfInBounds_toArray, List.set_cons_succ, List.set_cons_zero]
    gi_wp2
    exact HK.out
  case body =>
    rintro q pre x W ⟨X, e1, e2, i1, i2, i3, i4, i5, i6⟩ hpre
    obtain ⟨y, hy⟩ : ∃ y, y = min x (pieces l.length - 1) := ⟨_, rfl⟩
    obtain ⟨n, hn⟩ : ∃ n, n = min 64 (l.length - 64 * y) := ⟨_, rfl⟩
    have hyl : y < pieces l.length := by omega
    have hyp : 64 * y + n ≤ l.length := by unfold pieces at hyl; omega
    have hn64 : n ≤ 64 := by omega
    have hpv : pieceV ⟨g, 0, none⟩ l.length (min x (pieces l.length - 1)) = .slice (some ⟨g, 64 * y, none⟩) n n := by
      rw [← hy]; unfold pieceV; rw [← hn, add_head]
    rw [hpv]
    have HX : Hid (pre ++ [x] = List.range (pre ++ [x]).length → turn X y (chaBlock key pre.length nonce) n = cry key nonce l (64 * (pre ++ [x]).length)) := by
      intro h
      rw [List.length_append, List.length_singleton, List.range_succ] at h
      obtain ⟨ha, hb⟩ := List.append_inj' h rfl
      have hx : x = pre.length := by injection hb
      have hyx : y = pre.length := by omega
      rw [e2 ha, ← hyx, turn_cry key nonce l y n hyl hn, List.length_append, List.length_singleton, hyx]
    have hj32 : pre.length < 4294967296 := by unfold pieces at hpre; omega
    have hj33 : pre.length + 1 < 4294967296 := by unfold pieces at hpre; omega
    have hTW : Tabs W := hT.under i5
    have hbl := chaBlock_length key pre.length nonce
    have hcall := block_any key pre.length nonce W Hk.out Hn.out hj32 hTW
    have hlen : (pre ++ [x]).length = pre.length + 1 := by simp
    rw [hlen] at HX
    generalize pre.length = j at *
    generalize chaBlock key j nonce = blk at *
    have y1 : (bs blk).toArray.size = 64 := by rw [List.size_toArray, bs_length, hbl]
    have y2 : (bs blk).toArray.all (·.oneCell') = true := bs_all _
    have y3 : (bs (List.replicate 64 0)).toArray.size = (bs blk).toArray.size := by rw [y1]; simp [bs_length]
    have Y1 := Lib.hid y1
    have Y2 := Lib.hid y2
    have Y3 := Lib.hid y3
    have i2c : W.cell? ⟨w.heap.size + 1, 0, none⟩ = some (.int .u32 (j : Int)) := i2.cell 0
    have HL := Lib.hid hbl
    have HLEN := Lib.hid hlen
    have E1 := Lib.hid e1
    clear y1 y2 y3 hbl hpv hy hn e2 hlen e1 hs4' hpre
    gi_wp2_with (first | ((with_reducible refine wpListIn_load_blk (o := ⟨some 31, _, _, _, _, _⟩) rfl 23 _ rfl w.heap.size rfl 23 _ _ i1 Tryz.underlying23 rfl (by rw [Z1.out]; kernel_rfl) ?_)) | ((with_reducible refine wpListIn_load_blk (o := ⟨some 33, _, _, _, _, _⟩) rfl 154 _ rfl (w.heap.size + 2) rfl 154 _ _ i3 Tryz.underlying154 rfl (by rw [Z2.out]; kernel_rfl) ?_)) | (refine ⟨trivial, ?_⟩; gi_at_call 90; refine (CallsIn.inRound q (callsIn_wide.2 hcall)).mono ?_; rintro e W2 ⟨rfl, hb2⟩) | ((refine wpListIn_store_blk (o := ⟨none, .store 177 (.tmp 13) (.tmp 34), _, _, _, _⟩) rfl 177 (.tmp 13) (.tmp 34) rfl W2.heap.size _ rfl rfl 177 _ (Blk.new_of rfl rfl) (by rw [Y1.out]; kernel_rfl) Y3.out Y2.out ?_); intro W3 hb3 hg3 hs3))
    have hgW : g < W.heap.size := by omega
    have g3 : W.grownBy W3 (some g) := grown_new (grown_alloc (grown_of_below hb2 (some g)) _) hg3 hb2.size
    have ow3 : W3.ownsRow (w.heap.size + 3) 5 1 (.slice (some ⟨g, 0, none⟩) l.length cap) l.length (bs (turn X y blk 0)) := by
      rw [turn_zero]
      exact World.ownsRow.kept (World.ownsRow.alloc (World.ownsRow.kept i4 (grown_of_below hb2 none) (.inr (by simp [Value.ownBlock]))) _) hg3 (.inr (fun e => by have e' : some g = some W2.heap.size := e; have := hb2.size; injection e' with e'; omega))
    have hW2 := hb2.size
    generalize W2.heap.size = g2 at *
    gi_loopw [37] (fun ix wr => ∃ k : Nat, k ≤ n ∧ ix = .int .i64 k ∧ wr.ownsRow (w.heap.size + 3) 5 1 (.slice (some ⟨g, 0, none⟩) l.length cap) l.length (bs (turn X y blk k)) ∧ Blk wr g2 177 (bs blk).toArray ∧ W.grownBy wr (some g)) (fun ix _ => n - (intOf ix).toNat)
    case atStart => exact ⟨0, by omega, rfl, ow3, hb3, g3⟩
    case round =>
      clear ow3 hb3 g3
      obtain ⟨k, hkn, rfl, ow, hb, hg⟩ := hrel
      by_cases hlt : k < n
      · have e1 := E1.out
        have hXl : 64 * y + k < X.length := by omega
        have hBl : k < blk.length := by have := HL.out; omega
        obtain ⟨b, hbx⟩ : ∃ b, X[64 * y + k]? = some b := ⟨_, List.getElem?_eq_getElem hXl⟩
        obtain ⟨cb, hcb⟩ : ∃ cb, blk[k]? = some cb := ⟨_, List.getElem?_eq_getElem hBl⟩
        have c1 : wr.cell? ⟨g, 64 * y + k, none⟩ = some (.int .u8 (b.toNat : Int)) := by rw [World.ownsRow.cellAt ow _ (by omega), bs_get, turn_at, hbx]; rfl
        have f1 : wr.frozen? ⟨g, 64 * y + k, none⟩ = false := World.ownsRow.frozenAt ow _
        have c2 : wr.cell? ⟨g2, k, none⟩ = some (.int .u8 (cb.toNat : Int)) := (hb.cell k).trans (by rw [List.getElem?_toArray, bs_get, hcb]; rfl)
        have hst := turn_step X y blk k b cb hbx (by rw [List.getD_eq_getElem?_getD, hcb]; rfl)
        have hx := xor_u8 b cb
        have lb := b.toNat_lt
        have lc := cb.toNat_lt
        have HST := Lib.hid hst
        have HBX := Lib.hid hbx
        have HCB := Lib.hid hcb
        clear hst hbx hcb e1
        have ik : (k : Int) < n := by omega
        have ik2 : (k : Int) < 64 := by omega
        have jk : (0 : Int) ≤ (k : Int) := by omega
        have tk : ((k : Int)).toNat = k := by omega
        have n1 : (wr.setCell ⟨g, 64 * y + k, none⟩ (.int .u8 ((b.toNat ^^^ cb.toNat : Nat) : Int))).drew.ownsRow (w.heap.size + 3) 5 1 (.slice (some ⟨g, 0, none⟩) l.length cap) l.length (bs (turn X y blk (k + 1))) := by
          have h := (World.ownsRow.stored ow (64 * y + k) (.int .u8 ((b.toNat ^^^ cb.toNat : Nat) : Int))).1
          rw [← UInt8.toNat_xor, bs_set, HST.out] at h
          rw [← UInt8.toNat_xor]
          exact h
        have n2 : Blk (wr.setCell ⟨g, 64 * y + k, none⟩ (.int .u8 ((b.toNat ^^^ cb.toNat : Nat) : Int))).drew g2 177 (bs blk).toArray := (hb.far (p := ⟨g, 64 * y + k, none⟩) (by show g2 ≠ g; omega) _).drew
        have n3 : W.grownBy (wr.setCell ⟨g, 64 * y + k, none⟩ (.int .u8 ((b.toNat ^^^ cb.toNat : Nat) : Int))).drew (some g) := only_drew (only_setCell hg (.inl rfl) _)
        have N1 := Lib.hid n1
        have N2 := Lib.hid n2
        have N3 := Lib.hid n3
        clear n1 n2 n3 i1 i2 i3 i4 i5 i6 hcall ow hb hg hb4 hw4 hTW hT i2c hb2
        gi_wp2
        gi_region
        all_goals
          gi_wp2
          go_roundw
          case rel => exact ⟨k + 1, by omega, by go_num, N1.out, N2.out, N3.out⟩
          case measure => simp [intOf]; omega
      · have hkk : k = n := by omega
        have hps : n ≤ k := by omega
        rw [hkk] at ow
        have d2 : Blk wr (w.heap.size + 1) 59 #[.int .u32 (j : Int)] := i2.grown hg (fun e => by injection e with e; omega)
        have d2c : wr.cell? ⟨w.heap.size + 1, 0, none⟩ = some (.int .u32 (j : Int)) := d2.cell 0
        have d2f : wr.frozen? ⟨w.heap.size + 1, 0, none⟩ = false := d2.frozen 0
        have HKK := Lib.hid hkk
        have HX2 := HX
        clear hkk hlt hkn i2c
        gi_wp2
        obtain ⟨cur, hgc, _⟩ := blk_of_own i4
        have far : ∀ b, b < W.heap.size → b ≠ g → b ≠ w.heap.size + 1 → (wr.setCell ⟨w.heap.size + 1, 0, none⟩ (.int .u32 ((j : Int) + 1))).heap[b]? = W.heap[b]? := fun b hb1 hb2 hb3 =>
          (Below.heap_setCell wr ⟨w.heap.size + 1, 0, none⟩ _ b hb3).trans (hg.block b hb1 (fun e => hb2 (by injection e)))
        have hgs := hg.size
        have hw4s := hw4.size
        have hE : (wr.setCell ⟨w.heap.size + 1, 0, none⟩ (.int .u32 ((j : Int) + 1))).heap.size = wr.heap.size := by simp [World.setCell]
        have E5 := Lib.hid hE
        clear hE
        have hs4'' := HS4.out
        refine ⟨⟨by rw [E5.out]; exact hgs, fun b o hb ho => ?_⟩, ⟨far _ (by omega) (by omega) (by omega), far _ (by omega) (by omega) (by omega)⟩, turn X y blk n, by rw [turn_length]; exact E1.out, ?_, (far _ (by omega) (by omega) (by omega)).trans i1, ?_, (far _ (by omega) (by omega) (by omega)).trans i3, ?_, ?_, ?_⟩
        · have hbl := (Array.getElem?_eq_some_iff.1 hb).1
          refine (far b hbl ?_ ?_).trans hb
          · rintro rfl
            have h1 : W.heap[b]? = some _ := hgc
            rw [hb] at h1
            injection h1 with h1
            subst h1
            simp [Obj.isCells] at ho
          · rintro rfl
            have h1 : W.heap[w.heap.size + 1]? = some _ := i2
            rw [hb] at h1
            injection h1 with h1
            subst h1
            simp [Obj.isCells] at ho
        · intro h
          rw [HLEN.out] at h ⊢
          exact HX.out h
        · rw [HLEN.out]
          have h := d2.set_ 0 (.int .u32 ((j : Int) + 1))
          simpa using h
        · exact ownsRow_setCell_below ow (by show w.heap.size + 1 < w.heap.size + 3; omega) _
        · exact (i5.trans ⟨hg.os, hg.tape, hg.output, hg.size, fun b hb => hg.block b (by omega) (fun e => by injection e with e; omega)⟩).setCell (by show w.heap.size ≤ w.heap.size + 1; omega) _
        · rw [E5.out]; omega
  case done =>
    rintro D xs W hD rfl ⟨X, e1, e2, i1, i2, i3, i4, i5, i6⟩ hK
    have hX : X = crypt key nonce l := by
      have h := e2 (by rw [List.length_range])
      rw [List.length_range] at h
      exact h.trans (cry_all key nonce l)
    have HX := Lib.hid hX
    have q3 : D < W.heap.size := (Array.getElem?_eq_some_iff.1 hK).1
    have E1 := Lib.hid e1
    clear hX e2 e1 i1 i2 i3
    gi_wp2
    have hg' := grownBy_putObj' W D (.deferred none)
    refine ⟨by simp, .inl ⟨_, _, rfl, run_takeDeferred hK, ?_⟩⟩
    refine ⟨_, results_tmp2 rfl _ _ _, .slice (some ⟨g, 0, none⟩) l.length cap, rfl, ?_, i5.grown hg' (by have := hw4.size; omega) (fun k e => by cases e; have := hw4.size; omega)⟩
    have h := World.ownsRow.kept i4 hg' (.inr fun e => by have e' : some g = some D := e; injection e' with e'; omega)
    rw [← HX.out]
    unfold Owns
    rw [E1.out]
    exact ownsRow_lower h (by omega)
  case stop => exact fun _ _ _ _ _ _ hf _ => hf.elim
end Go.Proofs.YtkhebllmnagkmaaGreatDoor
/- Contracts of the package seal: size, Seal, Open. Conditions: what each names. -/
namespace Go.Proofs.YtkhebllmnagkmaaGreatDoor
open Go.RowKit
set_option linter.unusedVariables false

theorem range_below {B b o : Nat} {W w' : World} {cs : List Value} (h : W.rangeAt b o cs) (hb : Below B W w') (hlt : b < B) : w'.rangeAt b o cs := fun j v hj => (hb.cell (p := ⟨b, o + j, none⟩) hlt).trans (h j v hj)
theorem Blk.range {w : World} {g : Nat} {t : TypeId} {xs : List Value} (h : Blk w g t xs.toArray) : w.rangeAt g 0 xs := fun j v hj => by
  rw [Nat.zero_add]
  exact (h.cell j).trans (by rw [List.getElem?_toArray]; exact hj)
theorem Tabs.drew {w : World} (h : Tabs w) : Tabs w.drew := ⟨h.k, h.q, h.size⟩
theorem Tabs.alloc {w : World} (h : Tabs w) (o : Obj) : Tabs (w.alloc o) := h.under ((Below.refl _ _).alloc (Nat.le_refl _) _)
theorem ssize_yes (n : Nat) (w : World) (h : n = 160 ∨ n = 176) : Calls Tryz.prog 67 #[.int .i64 (n : Int)] w fun e w' => e = .returned (.bool true) ∧ w = w' := by
  rcases h with rfl | rfl
  · go_enter Tryz.func67, Tryz.ntmps67
    go_wp2
    go_ret
    exact ⟨rfl, rfl⟩
  · go_enter Tryz.func67, Tryz.ntmps67
    go_wp2
    go_ret
    exact ⟨rfl, rfl⟩
set_option maxRecDepth 100000 in
set_option maxHeartbeats 2000000 in
theorem seal_any (key plain : List UInt8) (place version : Nat) (A : Option Addr) (c : Nat) (w : World) (hr : Reads w w.heap.size 1 A plain.length (bs plain)) (hl : plain.length = 160 ∨ plain.length = 176) (hk : key.length = 32)
    (hp : place < 4294967296) (hv0 : version ≠ 0) (hv : version < 18446744073709551615) (hT : Tabs w) :
    Calls Tryz.prog 37 #[.agg (bs key).toArray, .int .u32 (place : Int), .int .u64 (version : Int), .slice A plain.length c] w fun e w' => ∃ g, e = .returned (.tuple #[.slice (some ⟨g, 0, none⟩) 192 192, .int .i64 0]) ∧ w.heap.size ≤ g ∧
      Blk w' g 5 (bs (sealB key place version plain)).toArray ∧ Below w.heap.size w w' := by
  have g0 : ¬ (version : Int) = 0 := by omega
  have g1 : ¬ (version : Int) = 18446744073709551615 := by omega
  have hsz := fun W => ssize_yes plain.length W hl
  have z1 : (bs key).toArray.size = 32 := by simp [bs_length, hk]
  have hnon := fun W => nonce_any place version W hp (by omega)
  have put8 := fun W => wput_bs version 8 W (by omega) (by omega) (by omega)
  simp only [show ((8 : Nat) : Int) = 8 from rfl] at put8
  have hl8 := putB_length version 8
  have hS : sealB key place version plain = padB (putB version 8 ++ crypt key (nonceB place version) plain) 192 := rfl
  have hr1 : Reads (w.alloc (.cells (bs key).toArray 23)).drew (w.alloc (.cells (bs key).toArray 23)).drew.heap.size 1 A plain.length (bs plain) := (hr.alloc (Nat.le_refl _) _).more (by show w.heap.size ≤ (w.alloc _).heap.size; simp)
  have hT1 : Tabs (w.alloc (.cells (bs key).toArray 23)).drew := (hT.alloc _).drew
  have hkr : (w.alloc (.cells (bs key).toArray 23)).drew.rangeAt w.heap.size 0 (bs key) := Blk.range (Blk.new_of rfl rfl)
  have hn12 := nonceB_length place version
  have hcl := crypt_length key (nonceB place version) plain
  have hks : w.heap.size < (w.alloc (.cells (bs key).toArray 23)).drew.heap.size := by show w.heap.size < (w.alloc _).heap.size; simp
  have hcr := fun W hr hT => crypt_any key (nonceB place version) plain A c W hr (by omega) (by omega) hk hn12 hT
  generalize nonceB place version = nn at *
  generalize crypt key nn plain = cc at *
  generalize putB version 8 = p8 at *
  have hu39 := Tryz.underlying23
  have hi39 : (Tryz.prog.info? 23).map (·.size) = some (bs key).length := by rw [bs_length, hk]; kernel_rfl
  have HS := Lib.hid hS
  have HL := Lib.hid hl
  have HK := Lib.hid hk
  have Z1 := Lib.hid z1
  have H8 := Lib.hid hl8
  have N12 := Lib.hid hn12
  have CL := Lib.hid hcl
  have HI := Lib.hid hi39
  clear hS hl hk z1 hl8 hn12 hcl hi39
  go_enter Tryz.func37, Tryz.ntmps37
  go_wp2_with (go_at_call 67; refine (hsz _).mono ?_; rintro e w1 ⟨rfl, rfl⟩)
  have hi39 := HI.out
  go_region_held3 (fun w' => w'.rangeAt w.heap.size 0 (bs key))
    (first | (exact hkr) | (exact range_below (range_below hkr b1 hks) b2 (Nat.lt_of_lt_of_le hks b1.size)) | (exact range_below hkr b1 hks))
    (first | (go_at_call 69; with_reducible refine (hnon _).mono ?_; rintro e w1 ⟨rfl, b1⟩) | (go_at_call 68; refine (hcr _ ((hr1.below b1).more b1.size) (hT1.under b1)).mono ?_; rintro e w2 ⟨v2, rfl, hv2, b2⟩))
  obtain ⟨A2, c2, rfl⟩ := hv2.shape
  have hr2 := hv2.reads
  have y0 : Below w.heap.size w (w.alloc (.cells (bs key).toArray 23)) := (Below.refl _ _).alloc (Nat.le_refl _) _
  have y1 : Below w.heap.size w w1 := y0.trans ((below_of_drewN (n := 1) b1).mono (Nat.le_of_lt hks))
  have y2 : Below w.heap.size w w2 := y1.trans (b2.mono y1.size)
  clear hkr hr1 hT1 hcr hnon b1 b2 y0 hr hT
  go_wp2_with (first | (go_at_call 45; with_reducible refine (put8 _).mono ?_; rintro e w3 ⟨rfl, k3, s3, b3⟩; have S3 := Lib.hid s3; clear s3) | (go_at_call 65; refine (concat_new [(some ⟨w2.heap.size, 0, none⟩, 8, p8), (A2, c2, cc)] [_, _] 2 w3 rfl (by simp [partV, H8.out]) (by intro p hpm; simp only [List.mem_cons, List.not_mem_nil, or_false] at hpm; rcases hpm with rfl | rfl; exact k3.reads; exact (hr2.below b3).more b3.size) (by simp [cat, H8.out, CL.out]; rcases HL.out with h | h <;> omega) (by simp)).mono ?_; rintro e w4 ⟨v4, rfl, hv4, b4⟩; rw [show cat [((some ⟨w2.heap.size, 0, none⟩ : Option Addr), 8, p8), (A2, c2, cc)] = p8 ++ cc from by simp [cat]] at hv4; obtain ⟨A4, c4, rfl⟩ := hv4.shape; have hr4 := hv4.reads; rw [List.length_append] at hr4) | (go_at_call 66; refine (wpad A4 (p8.length + cc.length) c4 192 (p8 ++ cc) w4 hr4 (by omega) (by omega) (by rw [H8.out, CL.out]; rcases HL.out with h | h <;> omega)).mono ?_; rintro e w5 ⟨rfl, k5, b5⟩))
  go_ret2
  have y3 : Below w.heap.size w w3 := y2.trans (b3.mono y2.size)
  have y4 : Below w.heap.size w w4 := (y3.alloc y3.size _).trans (b4.mono (by have := y3.size; omega))
  rw [← HS.out] at k5
  exact ⟨w4.heap.size, rfl, y4.size, k5, y4.trans (b5.mono y4.size)⟩
end Go.Proofs.YtkhebllmnagkmaaGreatDoor
/- Contract of seal.Open at records, where the slot is one that opens. Conditions: what each names. -/
namespace Go.Proofs.YtkhebllmnagkmaaGreatDoor
open Go.RowKit
set_option linter.unusedVariables false

/-- Part of a slice of bytes. -/
theorem run_slice_part {P : Program} (w : World) (t e : TypeId) (ad : Addr) (n c l h : Nat) (kl kh : IntKind) (ht : P.underlying t = some (.slice e)) (hs : (P.info? e).map (·.size) = some 1) (h0 : 0 < l) (h1 : l ≤ h) (h2 : h ≤ c) (h3 : l < c) :
    (Instr.slice t (.slice (some ad) n c) (some (.int kl (l : Int))) (some (.int kh (h : Int))) none).run P w = .ok (.slice (some ⟨ad.block, ad.off + l, none⟩) (h - l) (c - l)) w := by
  cases hq : P.info? e with
  | none => simp [hq] at hs
  | some q =>
    have hs1 : q.size = 1 := by simpa [hq] using hs
    have e8 : ad.add l = ⟨ad.block, ad.off + l, none⟩ := by unfold Addr.add; rw [if_neg (by omega)]
    simp [Instr.slice, run_underlying ht, Instr.sliceBounds, Instr.sliceBound, asIntOf, Sem.run_bind, Sem.run_pure, Result.andThen, sizeOf, typeInfo, hq, hs1, show ¬ c = l by omega, h1, h2, e8]
set_option maxRecDepth 100000 in
set_option maxHeartbeats 2000000 in
theorem open_ok (key s : List UInt8) (place v : Nat) (ad : Addr) (c : Nat) (w : World) (hr : Reads w w.heap.size 1 (some ad) 192 (bs s)) (hc : 192 ≤ c) (hk : key.length = 32)
    (hp : place < 4294967296) (hgv : getB (s.take 8) = v) (hv0 : v ≠ 0) (hv1 : v ≠ 18446744073709551615) (hz : (s.drop 184).any (· != 0) = false) (hT : Tabs w) :
    Calls Tryz.prog 78 #[.agg (bs key).toArray, .int .u32 (place : Int), .slice (some ad) 192 c, .int .i64 176] w fun e w' => ∃ vb, e = .returned (.tuple #[.int .u64 (v : Int), vb, .int .i64 0]) ∧ Owns w' w.heap.size vb (crypt key (nonceB place v) ((s.drop 8).take 176)) ∧ Below w.heap.size w w' := by
  have hs : s.length = 192 := by have h := hr.1; rw [bs_length] at h; omega
  have hvlt : v < 18446744073709551616 := by
    have h := getB_lt (s.take 8)
    rw [hgv] at h
    have h8 : (s.take 8).length = 8 := by rw [List.length_take]; omega
    rw [h8] at h
    have : (256 : Nat) ^ 8 = 18446744073709551616 := by decide
    omega
  have g0 : ¬ (v : Int) = 0 := by omega
  have g1 : ¬ (v : Int) = 18446744073709551615 := by omega
  have e0 : ((v : Int) == 0) = false := beq_eq_false_iff_ne.2 g0
  have e1 : ((v : Int) == 18446744073709551615) = false := beq_eq_false_iff_ne.2 g1
  have hsz := fun W => ssize_yes 176 W (.inr rfl)
  simp only [show ((176 : Nat) : Int) = 176 from rfl] at hsz
  have z1 : (bs key).toArray.size = 32 := by simp [bs_length, hk]
  have hnon := fun W => nonce_any place v W hp (by omega)
  have hr1 : Reads (w.alloc (.cells (bs key).toArray 23)) (w.alloc (.cells (bs key).toArray 23)).heap.size 1 (some ad) 192 (bs s) := (hr.alloc (Nat.le_refl _) _).more (by simp)
  have hget := fun W h => wget_ok (some ad) 192 c 0 8 s W h hc (by omega) (by omega) (by omega) (by omega)
  rw [List.drop_zero, hgv] at hget
  simp only [show ((8 : Nat) : Int) = 8 from rfl, show ((0 : Nat) : Int) = 0 from rfl] at hget
  have l8 : (s.drop 184).length = 8 := by rw [List.length_drop]; omega
  have l176 : ((s.drop 8).take 176).length = 176 := by rw [List.length_take, List.length_drop]; omega
  have hcz := fun W h => contains_nz 97 (enters_of Tryz.func97 (by kernel_rfl) rfl) nz_open (some ⟨ad.block, ad.off + 184, none⟩) (c - 184) (s.drop 184) W h (by omega)
  have hcr := fun W h hT => crypt_any key (nonceB place v) ((s.drop 8).take 176) (some ⟨ad.block, ad.off + 8, none⟩) (c - 8) W h (by omega) (by omega) hk (nonceB_length _ _) hT
  rw [l8, hz] at hcz
  rw [l176] at hcr
  have e184 : ad.add 184 = ⟨ad.block, ad.off + 184, none⟩ := by simp [Addr.add]
  have e8 : ad.add 8 = ⟨ad.block, ad.off + 8, none⟩ := by simp [Addr.add]
  have ra : Reads (w.alloc (.cells (bs key).toArray 23)) (w.alloc (.cells (bs key).toArray 23)).heap.size 1 (some ⟨ad.block, ad.off + 184, none⟩) 8 (bs (s.drop 184)) := by
    have h := hr1.part 184 8 (by omega)
    rw [bs_part, List.take_of_length_le (by omega), e184] at h
    exact h
  have rb : Reads (w.alloc (.cells (bs key).toArray 23)) (w.alloc (.cells (bs key).toArray 23)).heap.size 1 (some ⟨ad.block, ad.off + 8, none⟩) 176 (bs ((s.drop 8).take 176)) := by
    have h := hr1.part 8 176 (by omega)
    rw [bs_part, e8] at h
    exact h
  have hT1 : Tabs (w.alloc (.cells (bs key).toArray 23)) := hT.alloc _
  have hkr : (w.alloc (.cells (bs key).toArray 23)).rangeAt w.heap.size 0 (bs key) := Blk.range (Blk.new_of rfl rfl)
  have hks : w.heap.size < (w.alloc (.cells (bs key).toArray 23)).heap.size := by simp
  have y0 : Below w.heap.size w (w.alloc (.cells (bs key).toArray 23)) := (Below.refl _ _).alloc (Nat.le_refl _) _
  have hi39 : (Tryz.prog.info? 23).map (·.size) = some (bs key).length := by rw [bs_length, hk]; kernel_rfl
  have hu39 := Tryz.underlying23
  have c184 : ¬ c = 184 := by omega
  have c8 : ¬ c = 8 := by omega
  generalize crypt key (nonceB place v) ((s.drop 8).take 176) = out at *
  generalize nonceB place v = nn at *
  generalize s.drop 184 = s1 at *
  generalize (s.drop 8).take 176 = s2 at *
  have HI := Lib.hid hi39
  have HA := Lib.hid l8
  have HB := Lib.hid l176
  have HC := Lib.hid e184
  have HD := Lib.hid e8
  clear hi39 l8 l176 e184 e8
  have HGV := Lib.hid hgv
  have HS := Lib.hid hs
  have HK := Lib.hid hk
  have Z1 := Lib.hid z1
  have HZ := Lib.hid hz
  clear hgv hs hk z1 hz
  go_enter Tryz.func78, Tryz.ntmps78
  go_wp2_with (first | (go_at_call 67; refine (hsz _).mono ?_; rintro e w1 ⟨rfl, rfl⟩) | (go_at_call 95; refine (hget _ hr1).mono ?_; rintro e w1 ⟨rfl, rfl⟩) | (go_at_call 96; refine (hcz _ ra).mono ?_; rintro e w1 ⟨rfl, m, rfl⟩))
  obtain ⟨W0, hW0⟩ : ∃ W0, W0 = (w.alloc (.cells (bs key).toArray 23)).drewN m := ⟨_, rfl⟩
  have hkr1 : W0.drew.rangeAt w.heap.size 0 (bs key) := by rw [hW0]; exact hkr
  have rb1 : Reads W0.drew W0.drew.heap.size 1 (some ⟨ad.block, ad.off + 8, none⟩) 176 (bs s2) := by rw [hW0]; exact rb
  have hT2 : Tabs W0.drew := by rw [hW0]; exact ⟨hT1.k, hT1.q, hT1.size⟩
  have hks1 : w.heap.size < W0.drew.heap.size := by rw [hW0]; exact hks
  have y1 : Below w.heap.size w W0.drew := by rw [hW0]; exact ⟨y0.os, y0.tape, y0.output, y0.size, y0.block⟩
  rw [← hW0]
  clear hkr rb hT1 hks y0 ra hcz hr hr1 hT hW0 hget
  have hi39 := HI.out
  have hcI : (184 : Int) ≤ (c : Int) := by omega
  have hcJ : (8 : Int) ≤ (c : Int) := by omega
  have hw1 : IntKind.i64.wrap 184 = 184 := by rw [IntKind.wrap_i64]; omega
  have hw2 : IntKind.i64.wrap (8 + 176) = 184 := by rw [IntKind.wrap_i64]; omega
  go_region_held3 (fun w' => w'.rangeAt w.heap.size 0 (bs key))
    (first | (exact hkr1) | (exact range_below (range_below hkr1 b1 hks1) b2 (Nat.lt_of_lt_of_le hks1 b1.size)) | (exact range_below hkr1 b1 hks1))
    (first | (go_at_call 69; with_reducible refine (hnon _).mono ?_; rintro e w1 ⟨rfl, b1⟩) | (go_at_call 68; refine (hcr _ ((rb1.below b1).more b1.size) (hT2.under b1)).mono ?_; rintro e w2 ⟨v2, rfl, hv2, b2⟩))
  clear hi39 hcr hnon hkr1 rb1
  go_wp2
  refine bodyPost_ret (results_tmp3 rfl _ _ _) rfl ?_
  have y2 : Below w.heap.size w w1 := y1.trans (b1.mono (Nat.le_of_lt hks1))
  exact ⟨v2, rfl, hv2.lower y2.size, y2.trans (b2.mono y2.size)⟩
end Go.Proofs.YtkhebllmnagkmaaGreatDoor
