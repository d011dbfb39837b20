/- Contracts and lemmas under the statements of this seat, one behind the other. Conditions: what each names. -/
import Derived.Test.YtkhebllmnagkmaaGreatDoorG16
import Derived.Test.YtkhebllmnagkmaaGreatDoorG13
import Derived.Laws.IdiomStrings
/- Contract of the law's images: blocks of 160 bytes, filled up with noughts. Conditions: what it names. -/
namespace Go.Proofs.YtkhebllmnagkmaaGreatDoor
open Go.RowKit
set_option linter.unusedVariables false

def zeros160 : List UInt8 := List.replicate 160 0
theorem run_make160 (W : World) : (Instr.makeSlice 55 (.int .i64 160) (.int .i64 160)).run Tryz.prog W = .ok (.slice (some ⟨W.heap.size, 0, none⟩) 160 160) (W.alloc (.cells (bs zeros160).toArray 5)) := by
  obtain ⟨i0, hi, hz0, hz1, hz2⟩ := info_parts info5
  have hrun := run_make (P := Tryz.prog) W 55 5 i0 (.int .u8 0) Tryz.underlying55 hi hz0 .i64 .i64 160 160 (by omega) (by omega) (by rw [hz2]; omega) (by omega)
  rw [hz1] at hrun
  rw [hrun]
  have hz : bs zeros160 = List.replicate 160 (Value.int .u8 0) := by unfold bs zeros160; rw [List.map_replicate]; rfl
  rw [hz, show Int.toNat 160 = 160 from rfl]
  rw [← show (madeCells (Value.int .u8 0).cells (160 * 1)).toList.toArray = madeCells (Value.int .u8 0).cells (160 * 1) from by simp]
  rw [show (Value.int .u8 0).cells = #[Value.int .u8 0] from rfl, toList_madeCells_one]
theorem Reads.spot {w : World} {B size n : Nat} {A : Option Addr} {xs : List Value} (h : Reads w B size A n xs) (hn : 0 < n) (hs : 0 < size) : ∀ ad, A = some ad → ad.spot = none := by
  intro ad e
  obtain ⟨ad', e', _, hc⟩ := h.2 hn
  rw [e] at e'
  injection e' with e'
  subst e'
  have hl : 0 < xs.length := by rw [h.1]; exact Nat.mul_pos hn hs
  have h0 := hc 0 _ (List.getElem?_eq_getElem hl)
  simpa [Addr.add] using World.cell?_spot h0
/-- A row of images that came in. -/
def RowA (w : World) (xs : List Value) (l : List Img) : Prop := ∀ (i : Nat) (p : Img), l[i]? = some p → xs[2 * i]? = some (.int .u64 (p.1 : Int)) ∧ ∃ A c, xs[2 * i + 1]? = some (.slice A p.2.length c) ∧ p.2.length ≤ c ∧ Reads w w.heap.size 1 A p.2.length (bs p.2)
theorem RowIO.snoc {w : World} {base : Nat} {xs : List Value} {l : List Img} {x : Nat} {v : Value} {b : List UInt8} (h : RowIO w base xs l) (hl : xs.length = l.length * 2) (hv : Owns w base v b) : RowIO w base (xs ++ [.int .u64 (x : Int), v]) (l ++ [(x, b)]) := by
  intro j p hp
  rw [List.getElem?_append] at hp
  split at hp
  · obtain ⟨h0, u, h1, h2⟩ := h j p hp
    exact ⟨by rw [List.getElem?_append_left (by omega)]; exact h0, u, by rw [List.getElem?_append_left (by omega)]; exact h1, h2⟩
  · have hi : j = l.length := by
      rcases Nat.lt_or_ge (j - l.length) 1 with h1 | h1
      · omega
      · rw [List.getElem?_eq_none (by simp; omega)] at hp; cases hp
    subst hi
    rw [Nat.sub_self] at hp
    cases hp
    refine ⟨by rw [Nat.mul_comm, ← hl, List.getElem?_append_right (Nat.le_refl _), Nat.sub_self]; rfl, v, ?_, hv⟩
    rw [List.getElem?_append_right (by omega), show 2 * l.length + 1 - xs.length = 1 by omega]
    rfl
def imgPad (p : Img) : Img := (p.1, padB p.2 160)
def partB (b : List UInt8) (j : Nat) : List UInt8 := b.take j ++ List.replicate (160 - j) 0
theorem partB_zero (b : List UInt8) : partB b 0 = zeros160 := rfl
theorem partB_length (b : List UInt8) (j : Nat) (h : j ≤ b.length) (h2 : j ≤ 160) : (partB b j).length = 160 := by unfold partB; rw [List.length_append, List.length_take, List.length_replicate]; omega
theorem partB_end (b : List UInt8) (j : Nat) (h : j = min b.length 160) : partB b j = padB b 160 := by
  unfold partB padB
  subst h
  rcases Nat.le_total b.length 160 with h | h
  · rw [Nat.min_eq_left h, List.take_length, List.take_append, List.take_of_length_le h, List.take_replicate, Nat.min_eq_left (by omega)]
  · rw [Nat.min_eq_right h, Nat.sub_self, List.replicate_zero, List.append_nil, List.take_append, show 160 - b.length = 0 by omega, List.take_zero, List.append_nil]
theorem partB_step (b : List UInt8) (j : Nat) (h : j < b.length) (h2 : j < 160) : (bs (partB b j)).toArray.setIfInBounds j (.int .u8 ((b[j]'h).toNat : Int)) = (bs (partB b (j + 1))).toArray := by
  obtain ⟨m, hm⟩ : ∃ m, 160 - j = m + 1 := ⟨160 - j - 1, by omega⟩
  have hm' : 160 - (j + 1) = m := by omega
  unfold partB
  rw [hm, hm', List.take_succ_eq_append_getElem h, List.replicate_succ, List.setIfInBounds_toArray, bs_append, List.set_append_right _ _ (by rw [bs_length, List.length_take]; omega), bs_length, List.length_take, Nat.min_eq_left (by omega), Nat.sub_self, bs_append, bs_append, List.append_assoc]
  rfl
set_option maxRecDepth 100000 in
set_option maxHeartbeats 4000000 in
theorem images_any (A : Option Addr) (n c : Nat) (xs : List Value) (l : List Img) (w : World) (hr : Reads w w.heap.size 2 A n xs) (hl : l.length = n) (hi : RowA w xs l) (hn : n ≤ 1048576) :
    Calls Tryz.prog 10 #[.slice A n c, .bool false] w fun e w' => ∃ A' c' ys, e = .returned (.slice A' n c') ∧ w'.ownsRow w.heap.size 79 2 (.slice A' n c') n ys ∧ RowIO w' w.heap.size ys (l.map imgPad) ∧ Below w.heap.size w w' := by
  obtain ⟨i0, ii0, hz0, hz1, hz2⟩ := info_parts info36
  have hmk := run_make160
  go_enter Tryz.func10, Tryz.ntmps10
  go_wp2
  go_loopw [5, 6] (fun vo ix wr => ∃ (k : Nat) (A' : Option Addr) (c' : Nat) (ys : List Value), k ≤ n ∧ ix = .int .i64 k ∧ vo = .slice A' k c' ∧ wr.ownsRow w.heap.size 79 2 (.slice A' k c') k ys ∧ RowIO wr w.heap.size ys ((l.take k).map imgPad) ∧ Below w.heap.size w wr) (fun _ ix _ => n - (intOf ix).toNat)
  case atStart => exact ⟨0, none, 0, [], by omega, rfl, rfl, World.ownsRow_nil _ _ _ _, fun i p hp => by simp at hp, Below.refl _ _⟩
  case round =>
    obtain ⟨k, A', c', ys, hk, rfl, rfl, hor, hR, hw⟩ := hrel
    obtain ⟨wo, rfl⟩ : ∃ wo : World, wo = wr := ⟨_, rfl⟩
    by_cases hlt : k < n
    · have hpk : l[k]? = some (l[k]'(by omega)) := List.getElem?_eq_getElem (by omega)
      obtain ⟨u0, Ab, cb, u1, hcb, hrb⟩ := hi k _ hpk
      obtain ⟨ad, rfl, hadb, hcell⟩ := hr.2 (by omega)
      obtain ⟨g, o, sp⟩ := ad
      have hsp := hr.spot (by omega) (by omega) _ rfl
      simp only at hsp hadb
      subst hsp
      have d0 := hcell _ _ u0
      have d1 := hcell _ _ u1
      rw [Addr.add_mid] at d0 d1
      have htk := take_snoc l k _ hpk
      generalize l[k]'(by omega) = p at *
      obtain ⟨x, b⟩ := p
      simp only at d0 d1 hcb hrb
      have q0 : ∀ W, Below w.heap.size w W → W.cell? ⟨g, o + k * 2, none⟩ = some (.int .u64 (x : Int)) := fun W h => by rw [Nat.mul_comm k 2]; exact (h.cell (p := ⟨g, o + 2 * k, none⟩) hadb).trans d0
      have q1 : ∀ W, Below w.heap.size w W → W.cell? ⟨g, o + k * 2 + 1, none⟩ = some (.slice Ab b.length cb) := fun W h => by rw [Nat.mul_comm k 2]; exact (h.cell (p := ⟨g, o + (2 * k + 1), none⟩) hadb).trans d1
      have HTK := Lib.hid htk
      have HQ0 := Lib.hid q0
      have HQ1 := Lib.hid q1
      clear hcell u0 u1 hpk htk d0 d1 q0 q1
      have hwo := hw.size
      go_wp2
      obtain ⟨W2, hW2⟩ : ∃ W2 : World, W2 = wo.alloc (.cells (bs zeros160).toArray 5) := ⟨_, rfl⟩
      rw [← hW2]
      have b2 : Below wo.heap.size wo W2 := by rw [hW2]; exact (Below.refl _ _).alloc (Nat.le_refl _) _
      have hs2 : wo.heap.size < W2.heap.size := by rw [hW2, size_alloc']; omega
      have kb2 : Blk W2 wo.heap.size 5 (bs (partB b 0)).toArray := by rw [hW2]; exact Blk.new_of rfl rfl
      have y2 : Below w.heap.size w W2 := hw.trans (b2.mono hwo)
      clear hW2
      go_loopw [9] (fun ix wr => ∃ j : Nat, j ≤ b.length ∧ j ≤ 160 ∧ ix = .int .i64 j ∧ Blk wr wo.heap.size 5 (bs (partB b j)).toArray ∧ W2.grownBy wr (some wo.heap.size)) (fun ix _ => 160 - (intOf ix).toNat)
      case atStart => exact ⟨0, by omega, by omega, rfl, kb2, World.grownBy.refl _ _⟩
      case round =>
        obtain ⟨j, hj1, hj2, rfl, kbr, hgr⟩ := hrel
        have yr : Below w.heap.size w wr := y2.grown hgr y2.size (fun bk e => by injection e with e; omega)
        have q0 := HQ0.out wr yr
        have q1 := HQ1.out wr yr
        have hf : wr.frozen? ⟨wo.heap.size, j, none⟩ = false := kbr.frozen j
        by_cases hjl : j < b.length ∧ j < 160
        · obtain ⟨hjl, hj160⟩ := hjl
          obtain ⟨ad1, rfl, had1, hcell1⟩ := hrb.2 (by omega)
          have q2 : wr.cell? (ad1.add j) = some (.int .u8 ((b[j]'hjl).toNat : Int)) := (yr.cell (p := ad1.add j) (by rw [block_of_add]; exact had1)).trans (hcell1 _ _ (by rw [bs_get, List.getElem?_eq_getElem hjl]; rfl))
          have hlt0 : j < (bs (partB b j)).toArray.size := by rw [List.size_toArray, bs_length, partB_length b j hj1 hj2]; exact hj160
          obtain ⟨u, q3⟩ : ∃ u, wr.cell? ⟨wo.heap.size, j, none⟩ = some u := ⟨_, (kbr.cell j).trans (Array.getElem?_eq_getElem hlt0)⟩
          have hst := partB_step b j hjl hj160
          have kb' := kbr.set_ j (.int .u8 ((b[j]'hjl).toNat : Int))
          rw [hst] at kb'
          have hdl : decide (j < b.length) = true := decide_eq_true hjl
          clear hst hcell1
          clear hlt0
          go_wp2
          exact ⟨⟨j + 1, by omega, by omega, by go_num, kb', only_setCell hgr (p := ⟨wo.heap.size, j, none⟩) (.inl rfl) _⟩, by simp [intOf]; omega⟩
        · have hjm : j = min b.length 160 := by omega
          have hend := partB_end b j hjm
          rw [hend] at kbr
          have hbl : (padB b 160).length = 160 := padB_length b 160
          have hor2 : wr.ownsRow w.heap.size 79 2 (.slice A' k c') k ys := own_keep hor fun bk e => (hgr.block bk (by have := (World.ownsRow.lt hor bk e).2; omega) (fun e2 => by injection e2 with e2; have := (World.ownsRow.lt hor bk e).2; omega)).trans (b2.block bk (World.ownsRow.lt hor bk e).2)
          have hR2 : RowIO wr w.heap.size ys ((l.take k).map imgPad) := hR.keep fun bk hK => (hgr.block bk (by have := hK.lt; omega) (fun e => by injection e with e; have := hK.lt; omega)).trans (b2.block bk hK.lt)
          have hwr := yr.size
          have hm1 : k + 1 ≤ maxLen := by unfold maxLen; omega
          have hm2 : (k + 1) * 32 ≤ 140737488355328 := by omega
          have hone : ∀ (a : Int) (A : Option Addr) (m c : Nat), ∀ u ∈ [Value.int .u64 a, .slice A m c], u.oneCell' = true := by intro a A m c u hu; simp only [List.mem_cons, List.not_mem_nil, or_false] at hu; rcases hu with rfl | rfl <;> rfl
          have hnews := Blk.rows (xs := [Value.int .u64 (x : Int), .slice (some ⟨wo.heap.size, 0, none⟩) 160 160]) 1 2 (Blk.new wr 79 #[Value.int .u64 (x : Int), .slice (some ⟨wo.heap.size, 0, none⟩) 160 160]) rfl
          have hbase : w.heap.size ≤ (wr.alloc (.cells #[Value.int .u64 (x : Int), .slice (some ⟨wo.heap.size, 0, none⟩) 160 160] 79)).heap.size := by rw [size_alloc']; omega
          have HE := Lib.hid hend
          have HBL := Lib.hid hbl
          have hown160 : Owns wr w.heap.size (.slice (some ⟨wo.heap.size, 0, none⟩) 160 160) (padB b 160) := by
            refine ⟨by rw [bs_length, hbl], .inr ⟨wo.heap.size, 160, _, by rw [hbl], hwo, kbr, by rw [hbl]; omega, by unfold maxLen; omega, by rw [List.size_toArray, bs_length, hbl], ?_⟩⟩
            rw [hbl]
            exact List.take_of_length_le (by rw [bs_length, hbl]; omega)
          have hfin : ∀ (A5 : Option Addr) (cc5 : Nat) (w5 : World), w5.ownsRow w.heap.size 79 2 (.slice A5 (k + 1) cc5) (k + 1) (ys ++ [Value.int .u64 (x : Int), .slice (some ⟨wo.heap.size, 0, none⟩) 160 160]) → World.grownBy (wr.alloc (.cells #[Value.int .u64 (x : Int), .slice (some ⟨wo.heap.size, 0, none⟩) 160 160] 79)) w5 (Value.slice A' k c').ownBlock →
              RowIO w5 w.heap.size (ys ++ [Value.int .u64 (x : Int), .slice (some ⟨wo.heap.size, 0, none⟩) 160 160]) ((l.take (k + 1)).map imgPad) ∧ Below w.heap.size w w5 := by
            intro A5 cc5 w5 hown5 hg5
            have k5 : ∀ bk, Kind wr bk 5 → w5.heap[bk]? = wr.heap[bk]? := fun bk hK => (hg5.block bk (by rw [size_alloc']; have := hK.lt; omega) (fun e => absurd (hK.uniq (own_kind hor2 e.symm)) (by decide))).trans (Below.heap_alloc _ _ bk hK.lt)
            refine ⟨?_, (yr.alloc hwr _).grown hg5 hbase (fun bk e => (World.ownsRow.lt hor2 bk e).1)⟩
            rw [HTK.out, List.map_append]
            have h := (hR2.keep k5).snoc (v := .slice (some ⟨wo.heap.size, 0, none⟩) 160 160) (x := x) (by rw [hor2.1, List.length_map, List.length_take]; omega) (hown160.keep k5)
            exact h
          by_cases hjl : j < b.length
          · have h160 : ¬ j < 160 := by omega
            have hdl : decide (j < b.length) = true := decide_eq_true hjl
            clear hjm hend hbl hj1 hj2
            go_wp2_with ((at_builtin; refine wpList_append_any _ rfl (.tmp 49) (.tmp 57) 24 rfl w.heap.size 79 i0 _ 2 32 Tryz.underlying24 ii0 hz0 hz1 hz2 rfl (by omega) (.slice A' k c') k ys rfl (World.ownsRow.alloc hor2 _) _ (some ⟨wr.heap.size, 0, none⟩) 1 1 [_, _] rfl hnews (hone _ _ _ _) hm1 hm2 hbase ?_; intro v5 w5 hown5 hg5 hat5; obtain ⟨A5, cc5, rfl⟩ := own_shape hown5))
            obtain ⟨h1, h2⟩ := hfin A5 cc5 w5 hown5 hg5
            exact ⟨⟨k + 1, A5, cc5, _, by omega, by go_num, rfl, hown5, h1, h2⟩, by simp [intOf]; omega⟩
          · have hdl : decide (j < b.length) = false := decide_eq_false hjl
            clear hjm hend hbl hj1 hj2
            go_wp2_with ((at_builtin; refine wpList_append_any _ rfl (.tmp 49) (.tmp 57) 24 rfl w.heap.size 79 i0 _ 2 32 Tryz.underlying24 ii0 hz0 hz1 hz2 rfl (by omega) (.slice A' k c') k ys rfl (World.ownsRow.alloc hor2 _) _ (some ⟨wr.heap.size, 0, none⟩) 1 1 [_, _] rfl hnews (hone _ _ _ _) hm1 hm2 hbase ?_; intro v5 w5 hown5 hg5 hat5; obtain ⟨A5, cc5, rfl⟩ := own_shape hown5))
            obtain ⟨h1, h2⟩ := hfin A5 cc5 w5 hown5 hg5
            exact ⟨⟨k + 1, A5, cc5, _, by omega, by go_num, rfl, hown5, h1, h2⟩, by simp [intOf]; omega⟩
    · have hkk : k = n := by omega
      have hps : n ≤ k := by omega
      rw [List.take_of_length_le (by omega)] at hR
      subst hkk
      clear hlt hk
      go_wp2
      go_ret
      exact ⟨A', c', ys, rfl, hor, hR, hw⟩
end Go.Proofs.YtkhebllmnagkmaaGreatDoor
/- The link of the journal's first slot, of a key of one and noughts, is not noughts: reckoned by the kernel. No conditions. -/
namespace Go.Proofs.YtkhebllmnagkmaaGreatDoor
open Go.RowKit
set_option linter.unusedVariables false

def key1 : List UInt8 := 1 :: List.replicate 31 0
def zeros32 : List UInt8 := List.replicate 32 0
set_option maxRecDepth 1000000 in
theorem awake_tag : linkB zeros32 0 (sealB key1 0 1 (recB 3 zeros160 true)) ≠ zeros32 := by decide +kernel
end Go.Proofs.YtkhebllmnagkmaaGreatDoor
/- What the laws' awake does with its journal, call by call. Conditions: what each names. -/
namespace Go.Proofs.YtkhebllmnagkmaaGreatDoor
open Go.RowKit
set_option linter.unusedVariables false

def D0 : Dk := ⟨List.replicate 4 zeros192, [], -1, false, 0⟩
def J0 : Jr := ⟨0, 4, 0, 0, 1, 100, key1, zeros32⟩
def one3 : List Img := [(3, zeros160)]
def slot0 : List UInt8 := sealB key1 0 1 (recB 3 zeros160 true)
theorem JAt.only {F : Nat → Prop} {w w' : World} {gj gd : Nat} {J : Jr} (h : JAt w gj gd J) (ho : Only F w w') (hn : ¬ F gj) : JAt w' gj gd J := h.keep (ho.block gj h.blk.lt (.inl hn))
theorem RowC.only {F : Nat → Prop} {w w' : World} {xs : List Value} {ll : List (List Img)} (h : RowC w xs ll) (ho : Only F w w') : RowC w' xs ll := h.keep ho.size (fun k hk => ho.kind hk (.inr dry_u8)) (fun k hk => ho.kind hk (.inr (by decide)))
def D1 (ops : Nat) : Dk := ⟨List.replicate 4 zeros192, [(0, slot0)], -1, false, ops⟩
def tag1 : List UInt8 := linkB zeros32 0 slot0
attribute [local irreducible] sealB linkB recB
theorem slots_one : slotsOf J0 one3 = [(0, slot0)] := rfl
theorem read_one (n : Nat) : readAt (D1 n) 0 = slot0 := rfl
theorem ld_one (n : Nat) : ldSlots (D1 n) 0 4 0 1 = [(0, slot0)] := rfl
theorem tag_one (n : Nat) : tagOf (List.replicate 32 0) (ldSlots (D1 n) 0 4 0 1) = tag1 := rfl
theorem tag1_len : tag1.length = 32 := linkB_length _ _ _
theorem slot0_len : slot0.length = 192 := sealB_length _ _ _ _
theorem places_len (b : List UInt8) (h : b ∈ List.replicate 4 zeros192) : b.length = 192 := by
  rw [(List.mem_replicate.1 h).2]
  unfold zeros192
  exact List.length_replicate
theorem load_none (gd : Nat) (F : Nat → Prop) (W : World) (h : Disk W gd F D0) (hT : Tabs W) (hF : ∀ k, F k → 1 + 0 < k) :
    Calls Tryz.prog 17 #[.pointer (some ⟨gd, 0, none⟩), .agg (bs key1).toArray, .int .i64 0, .int .i64 4, .agg (stCells 0 0 zeros32).toArray] W fun e w' => ∃ A c, e = .returned (.tuple #[.slice A 0 c, .int .i64 0]) ∧ Disk w' gd (more F W.heap.size) D0 ∧ Only F W w' := by
  have hl := load_any gd 0 4 0 0 F D0 key1 zeros32 [] W h rfl rfl (by omega) (by decide) (by decide) (by omega) (by omega) rfl places_len (by intro p hp; cases hp) (by decide) (by decide) hT hF rfl (fun _ => ⟨fun k r h => by simp at h, fun r h => by simp at h⟩)
  refine hl.mono ?_
  rintro e w' ⟨hor, hD, hO⟩
  rcases hor with ⟨hne, _⟩ | ⟨_, v, ys, rfl, ho, _⟩
  · exact absurd rfl hne
  · obtain ⟨A, c, rfl⟩ := own_shape ho
    exact ⟨A, c, rfl, hD, hO⟩
def recs1 : List Rec := [((3, zeros160), true)]
theorem recs1_ok (n : Nat) : (∀ (k : Nat) (r : Rec), recs1[k]? = some r → r.1.2.length = 160 ∧ r.1.1 < 18446744073709551616 ∧ ∃ v, v ≠ 0 ∧ v < 18446744073709551615 ∧ readAt (D1 n) (ldPlace 0 4 0 k) = sealB key1 (ldPlace 0 4 0 k) v (recB r.1.1 r.1.2 r.2)) ∧ ∀ r : Rec, recs1[0]? = some r → r.2 = true := by
  refine ⟨fun k r h => ?_, fun r h => by cases h; rfl⟩
  cases k with
  | zero =>
    cases h
    exact ⟨by simp [zeros160], by decide, 1, by omega, by omega, rfl⟩
  | succ k => simp [recs1] at h
theorem load_one (gd n : Nat) (hn : n ≤ 1000) (stag : List UInt8) (hs : stag.length = 32) (F : Nat → Prop) (W : World) (h : Disk W gd F (D1 n)) (hT : Tabs W) (hF : ∀ k, F k → 1 + 0 < k) :
    Calls Tryz.prog 17 #[.pointer (some ⟨gd, 0, none⟩), .agg (bs key1).toArray, .int .i64 0, .int .i64 4, .agg (stCells 0 1 stag).toArray] W fun e w' =>
      ((tag1 ≠ stag ∧ e = .returned (.tuple #[.slice none 0 0, .int .i64 14])) ∨ (tag1 = stag ∧ ∃ v ys, e = .returned (.tuple #[v, .int .i64 0]) ∧ w'.ownsRow W.heap.size 24 1 v 1 ys ∧ RowC w' ys [one3])) ∧ Disk w' gd (more F W.heap.size) (D1 (n + 1)) ∧ Only F W w' := by
  have hl := load_any gd 0 4 0 1 F (D1 n) key1 stag recs1 W h rfl hs (by omega) (by show 0 + 4 ≤ 4; omega) (by show 4 ≤ 1048576; omega) (by omega) (by omega) rfl places_len (fun p hp => by cases List.mem_singleton.1 hp; exact slot0_len) (by show 1 ≤ 1048576; omega) (by show n + 1 ≤ 1048576; omega) hT hF rfl (fun _ => recs1_ok n)
  rw [tag_one] at hl
  exact hl
theorem load_good (gd n : Nat) (hn : n ≤ 1000) (F : Nat → Prop) (W : World) (h : Disk W gd F (D1 n)) (hT : Tabs W) (hF : ∀ k, F k → 1 + 0 < k) :
    Calls Tryz.prog 17 #[.pointer (some ⟨gd, 0, none⟩), .agg (bs key1).toArray, .int .i64 0, .int .i64 4, .agg (stCells 0 1 tag1).toArray] W fun e w' =>
      ∃ g c ys, e = .returned (.tuple #[.slice (some ⟨g, 0, none⟩) 1 c, .int .i64 0]) ∧ w'.ownsRow W.heap.size 24 1 (.slice (some ⟨g, 0, none⟩) 1 c) 1 ys ∧ RowC w' ys [one3] ∧ Disk w' gd (more F W.heap.size) (D1 (n + 1)) ∧ Only F W w' := by
  refine (load_one gd n hn tag1 tag1_len F W h hT hF).mono ?_
  rintro e w' ⟨hor, hD, hO⟩
  rcases hor with ⟨hne, _⟩ | ⟨_, v, ys, rfl, ho, hR⟩
  · exact absurd rfl hne
  · obtain ⟨g, c, rfl, _⟩ := ho.form (by omega)
    exact ⟨g, c, ys, rfl, ho, hR, hD, hO⟩
theorem load_bad (gd n : Nat) (hn : n ≤ 1000) (F : Nat → Prop) (W : World) (h : Disk W gd F (D1 n)) (hT : Tabs W) (hF : ∀ k, F k → 1 + 0 < k) :
    Calls Tryz.prog 17 #[.pointer (some ⟨gd, 0, none⟩), .agg (bs key1).toArray, .int .i64 0, .int .i64 4, .agg (stCells 0 1 zeros32).toArray] W fun e w' =>
      e = .returned (.tuple #[.slice none 0 0, .int .i64 14]) ∧ Disk w' gd (more F W.heap.size) (D1 (n + 1)) ∧ Only F W w' := by
  refine (load_one gd n hn zeros32 rfl F W h hT hF).mono ?_
  rintro e w' ⟨hor, hD, hO⟩
  rcases hor with ⟨_, he⟩ | ⟨he, _⟩
  · exact ⟨he, hD, hO⟩
  · exact absurd he awake_tag
theorem append_one (gd gj g c : Nat) (xs : List Value) (F : Nat → Prop) (W : World) (hJ : JAt W gj gd J0) (hD : Disk W gd F D0) (hF : ¬ F gj) (hr : Reads W W.heap.size 2 (some ⟨g, 0, none⟩) 1 xs) (hi : RowI W xs one3) (hT : Tabs W) (hgj : 1 + 0 < gj) (hF2 : ∀ k, F k → 1 + 0 < k) :
    Calls Tryz.prog 11 #[.pointer (some ⟨gj, 0, none⟩), .slice (some ⟨g, 0, none⟩) 1 c] W fun e w' => e = .returned (.tuple #[.agg (stCells 0 1 tag1).toArray, .int .i64 0]) ∧ Disk w' gd (more F W.heap.size) (D1 1) ∧ Only (fun k => F k ∨ k = gj) W w' := by
  have h := append_any gj gd F D0 J0 g 0 1 c xs one3 W hJ hD hF rfl (by decide) (by decide) (by decide) (by decide) hr rfl hi (fun p hp => by cases List.mem_singleton.1 hp; simp [zeros160]) (fun p hp => by cases List.mem_singleton.1 hp; decide) (by omega) (by omega) (by decide) (by decide) (by decide) (by decide) (by decide) (by decide) (by decide) hT hgj hF2
  have e1 : tagOf J0.tag (slotsOf J0 one3) = tag1 := by rw [slots_one]; rfl
  have e2 : ({ D0 with way := D0.way ++ slotsOf J0 one3, ops := D0.ops + 1 } : Dk) = D1 1 := by rw [slots_one]; rfl
  rw [e1, e2] at h
  exact h.mono fun e w' ⟨he, _, h2, h3⟩ => ⟨he, h2, h3⟩
end Go.Proofs.YtkhebllmnagkmaaGreatDoor
/- Contract of the laws' awake: it says yes. Conditions: the tables lie in memory. -/
namespace Go.Proofs.YtkhebllmnagkmaaGreatDoor
open Go.RowKit
set_option linter.unusedVariables false

attribute [local irreducible] sealB linkB recB
set_option maxRecDepth 100000 in
set_option maxHeartbeats 4000000 in
theorem awake_any (w : World) (hT : Tabs w) : Calls Tryz.prog 5 #[] w fun e w' => e = .returned (.bool true) ∧ Below w.heap.size w w' := by
  have hd := dnew_any 4 w (by omega) (by omega)
  have hjn := fun F W h => jnew_any w.heap.size F D0 J0 W h rfl rfl (by decide) (by decide) (by decide) (by decide) (by decide) (by decide) (by decide)
  have hmk := run_make160
  have hTs := hT.size
  have Zi : (Tryz.prog.info? 41).map (·.size) = some (stCells 0 1 tag1).toArray.size := by rw [List.size_toArray, stCells_length, tag1_len]; kernel_rfl
  have Zs : st0.toArray.size = (stCells 0 1 tag1).toArray.size := by rw [List.size_toArray, List.size_toArray, stCells_length, tag1_len]; rfl
  have Za := stCells_one 0 1 tag1
  have ZI := Lib.hid Zi
  have ZS := Lib.hid Zs
  have ZA := Lib.hid Za
  have Z34 : (stCells 0 1 tag1).toArray.size = 34 := by rw [List.size_toArray, stCells_length, tag1_len]
  have Z34 := Lib.hid Z34
  clear Zi Zs Za
  go_enter Tryz.func5, Tryz.ntmps5
  go_wp2_with (first | (go_at_call 6; refine hd.mono ?_; rintro e w1 ⟨rfl, D1', b1⟩; have D1 : Disk w1 w.heap.size (fun k => w.heap.size ≤ k ∧ k < w1.heap.size) D0 := D1'.bound; clear D1') | (go_at_call 8; refine (hjn _ _ D1).mono ?_; rintro e w2 ⟨gj, rfl, hgj, J2, b2⟩; have D2 := D1.under b2; have y2 := b1.trans (b2.mono b1.size); have T2 := hT.under y2; have hgl := J2.blk.lt; have hs1 := b1.size) | (go_at_call 17; refine (load_none _ _ _ D2 T2 (fun k hk => Nat.lt_of_lt_of_le hT.size hk.1)).mono ?_; rintro e w3 ⟨A3, c3, rfl, D3', O3⟩; have hs3 := O3.size; have D3 : Disk w3 w.heap.size (fun k => w.heap.size ≤ k ∧ k < w3.heap.size ∧ k ≠ gj) D0 := (D3'.mono (fun k hk hf => hf.elim (fun h => ⟨h.1, hk, by omega⟩) (fun h => ⟨by omega, hk, by omega⟩))); have J3 := J2.only O3 (fun h => by omega); have y3 : Below w.heap.size w w3 := y2.trans (O3.below (by omega) (fun k hk => hk.1)); clear D1 D2 D3' J2 O3))
  obtain ⟨Wc, hWc⟩ : ∃ Wc : World, Wc = (w3.alloc (.cells (bs zeros160).toArray 5)).alloc (.cells #[.int .u64 3, .slice (some ⟨w3.heap.size, 0, none⟩) 160 160] 79) := ⟨_, rfl⟩
  rw [← hWc]
  have bc : Below w3.heap.size w3 Wc := by rw [hWc]; exact ((Below.refl _ _).alloc (Nat.le_refl _) _).alloc (by simp) _
  have hsc : Wc.heap.size = w3.heap.size + 2 := by rw [hWc]; simp
  have ki : Blk Wc (w3.heap.size + 1) 79 [Value.int .u64 3, .slice (some ⟨w3.heap.size, 0, none⟩) 160 160].toArray := by rw [hWc]; exact Blk.new_of (by simp) rfl
  have kz : Blk Wc w3.heap.size 5 (bs zeros160).toArray := by rw [hWc]; exact (Blk.new_of rfl rfl).alloc _
  have hri := ki.rows 1 2 rfl
  have hIi : RowI Wc [Value.int .u64 3, .slice (some ⟨w3.heap.size, 0, none⟩) 160 160] one3 := fun i p hp => by
    cases i with
    | zero => cases hp; exact ⟨rfl, _, rfl, kz.isSl⟩
    | succ i => simp [one3] at hp
  have yc : Below w.heap.size w Wc := y3.trans (bc.mono y3.size)
  have hap := append_one w.heap.size gj (w3.heap.size + 1) 1 _ _ Wc (J3.under bc) (D3.under bc) (fun h => h.2.2 rfl) hri hIi (hT.under yc) (by omega) (fun k hk => Nat.lt_of_lt_of_le hTs hk.1)
  clear ki kz hri hIi hWc J3 D3 hmk hjn hd
  have hgc : gj < Wc.heap.size := by omega
  go_wp2_with (first | (refine hap.mono ?_; rintro e w4 ⟨rfl, D4', O4⟩; have hs4 := O4.size; have D4 : Disk w4 w.heap.size (fun k => w.heap.size ≤ k) (D1 1) := (D4'.mono (fun k hk hf => hf.elim (fun h => h.1) (fun h => by omega))); have y4 : Below w.heap.size w w4 := yc.trans (O4.below yc.size (fun k hk => hk.elim (fun h => h.1) (fun h => by omega))); clear D4' O4) | ((refine wpList_store_blk (o := ⟨none, .store 41 (.tmp 7) (.tmp 47), _, _, _, _⟩) rfl 41 (.tmp 7) (.tmp 47) rfl w4.heap.size (stCells 0 1 tag1).toArray rfl rfl 41 st0.toArray (Blk.new_of rfl rfl) ZI.out ZS.out ZA.out ?_); intro w5 k5 g5 s5) | ((with_reducible refine wpList_load_blk (o := ⟨some 52, _, _, _, _, _⟩) rfl 41 _ rfl w4.heap.size rfl 41 _ _ k5 Tryz.underlying41 rfl (by rw [Z34.out]; kernel_rfl) ?_)))
  have y4a : Below w.heap.size w (w4.alloc (.cells st0.toArray 41)) := y4.alloc y4.size _
  have hs5 : w4.heap.size < w5.heap.size := k5.lt
  have b45 : Below w4.heap.size w4 w5 := ((Below.refl _ _).alloc (Nat.le_refl _) (.cells st0.toArray 41)).grown g5 (by rw [size_alloc']; omega) (fun k e => by injection e with e; omega)
  have y5 : Below w.heap.size w w5 := y4.trans (b45.mono y4.size)
  have D5 := D4.under b45
  have hlg := load_good w.heap.size 1 (by omega) _ w5 D5 (hT.under y5) (fun k hk => Nat.lt_of_lt_of_le hTs hk)
  clear D4 D5 g5 s5 k5 hap
  go_wp2_with (first | (refine hlg.mono ?_; rintro e w6 ⟨g6, c6, ys6, rfl, ho6, hR6, D6', O6⟩; have hs6 := O6.size; have D6 : Disk w6 w.heap.size (fun k => w.heap.size ≤ k) (D1 2) := (D6'.mono (fun k hk hf => hf.elim id (fun h => by have := y5.size; omega))); have y6 : Below w.heap.size w w6 := y5.trans (O6.below y5.size (fun k hk => hk)); have hlb := load_bad w.heap.size 2 (by omega) _ w6 D6 (hT.under y6) (fun k hk => Nat.lt_of_lt_of_le hTs hk); clear D6' O6 hlg) | (refine hlb.mono ?_; rintro e w7 ⟨rfl, D7, O7⟩; have y7 : Below w.heap.size w w7 := y6.trans (O7.below y6.size (fun k hk => hk)); have ho7 := O7.own ho6 (.inr (by decide)); have hR7 := hR6.only O7; have hr7 := Reads.of_own ho7; obtain ⟨v7, hv7, A7, cc7, xs7, rfl, _, hrr7, hI7, hK7⟩ := hR7 0 one3 rfl; obtain ⟨ad7, rfl, _, hcl7⟩ := hrr7.2 (by decide); obtain ⟨ga, oa, sa⟩ := ad7; have hsa := (hK7 _ rfl).2; simp only at hsa; subst hsa; have e70 := World.ownsRow.cells ho7 (g := g6) rfl 0 _ hv7; rw [add_head] at e70; have e71 := hcl7 0 _ (hI7 0 _ rfl).1; rw [Addr.add_mid, Nat.add_zero] at e71; have hlt7 := latest_any (some ⟨g6, 0, none⟩) 1 c6 ys6 [one3] w7 hr7 (fun ad e => by injection e with e; subst e; rfl) rfl hR7 (by omega) (by decide) (fun p hp => by have h : p = (3, zeros160) := (by simpa [one3] using hp); subst h; exact ⟨by decide, by show zeros160.length ≤ 1048576; unfold zeros160; rw [List.length_replicate]; omega⟩)))
  rw [show (latest [one3].flatten).length = 1 from rfl] at hlt7
  go_wp2_with (refine hlt7.mono ?_; rintro e w8 ⟨A8, c8, ys8, rfl, ho8, hR8, b8⟩)
  go_ret
  exact ⟨rfl, y7.trans (b8.mono y7.size)⟩
end Go.Proofs.YtkhebllmnagkmaaGreatDoor
/- Strings of bytes: 'string(b)'. Conditions: what each names. -/
namespace Go.Proofs.YtkhebllmnagkmaaGreatDoor
open Go.RowKit
set_option linter.unusedVariables false

abbrev strB (b : List UInt8) : Value := .string ⟨b.toArray⟩
theorem run_string (W : World) (A : Option Addr) (c : Nat) (b : List UInt8) (h : Reads W W.heap.size 1 A b.length (bs b)) : (convert 55 9 (.slice A b.length c)).run Tryz.prog W = .ok (strB b) W := by
  cases A with
  | none =>
    have h0 : b = [] := by
      rcases Nat.eq_zero_or_pos b.length with h0 | h0
      · exact List.eq_nil_of_length_eq_zero h0
      · obtain ⟨ad, e, _⟩ := h.2 h0; cases e
    subst h0
    rw [run_convert_bytes_string W 55 9 5 none _ c Tryz.underlying55 Tryz.underlying5 Tryz.underlying9]
    rfl
  | some a =>
    refine run_convert_bytes_back W 55 9 5 a c b Tryz.underlying55 Tryz.underlying5 Tryz.underlying9 fun j hj => ?_
    obtain ⟨ad, e, _, hc⟩ := h.2 (by omega)
    injection e with e
    subst e
    exact hc j _ (by rw [bs_get, List.getElem?_eq_getElem hj]; rfl)
end Go.Proofs.YtkhebllmnagkmaaGreatDoor
/- Contracts of the laws' modelOf and allOf: images as the model has them. Conditions: what each names. -/
namespace Go.Proofs.YtkhebllmnagkmaaGreatDoor
open Go.RowKit
set_option linter.unusedVariables false

def encM (l : List Img) : List Value := (l.map fun p => [.int .u64 (p.1 : Int), strB p.2]).flatten
theorem encM_append (a b : List Img) : encM (a ++ b) = encM a ++ encM b := by unfold encM; simp
theorem encM_length (l : List Img) : (encM l).length = l.length * 2 := by
  induction l with
  | nil => rfl
  | cons p l ih => unfold encM at *; rw [List.map_cons, List.flatten_cons, List.length_append, ih, List.length_cons]; simp; omega
theorem encM_get (l : List Img) (i : Nat) (p : Img) (h : l[i]? = some p) : (encM l)[2 * i]? = some (.int .u64 (p.1 : Int)) ∧ (encM l)[2 * i + 1]? = some (strB p.2) := by
  induction l generalizing i with
  | nil => simp at h
  | cons q l ih =>
    have e : encM (q :: l) = .int .u64 (q.1 : Int) :: strB q.2 :: encM l := rfl
    rw [e]
    cases i with
    | zero => simp at h; subst h; exact ⟨rfl, rfl⟩
    | succ i =>
      simp at h
      obtain ⟨h1, h2⟩ := ih i h
      exact ⟨by rw [show 2 * (i + 1) = 2 * i + 1 + 1 by omega]; simpa using h1, by rw [show 2 * (i + 1) + 1 = 2 * i + 1 + 1 + 1 by omega]; simpa using h2⟩
theorem info60 : (Tryz.prog.info? 105).map (fun i => (i.zero, i.size, i.bytes)) = some (some (.agg #[.int .u64 0, .string ⟨#[]⟩]), 2, 24) := by kernel_rfl
set_option maxRecDepth 100000 in
set_option maxHeartbeats 4000000 in
theorem modelOf_any (A : Option Addr) (n c : Nat) (xs : List Value) (l : List Img) (w : World) (hr : Reads w w.heap.size 2 A n xs) (hA : ∀ ad, A = some ad → ad.spot = none) (hl : l.length = n) (hi : RowI w xs l) (hn : n ≤ 1048576) :
    Calls Tryz.prog 13 #[.slice A n c] w fun e w' => ∃ A' c', e = .returned (.slice A' n c') ∧ w'.ownsRow w.heap.size 105 2 (.slice A' n c') n (encM l) ∧ Below w.heap.size w w' := by
  obtain ⟨i0, ii0, hz0, hz1, hz2⟩ := info_parts info60
  go_enter Tryz.func13, Tryz.ntmps13
  go_wp2
  go_loopw [3, 4] (fun vo ix wr => ∃ (k : Nat) (A' : Option Addr) (c' : Nat), k ≤ n ∧ ix = .int .i64 k ∧ vo = .slice A' k c' ∧ wr.ownsRow w.heap.size 105 2 (.slice A' k c') k (encM (l.take k)) ∧ Below w.heap.size w wr) (fun _ ix _ => n - (intOf ix).toNat)
  case atStart => exact ⟨0, none, 0, by omega, rfl, rfl, World.ownsRow_nil _ _ _ _, Below.refl _ _⟩
  case round =>
    obtain ⟨k, A', c', hk, rfl, rfl, hor, hw⟩ := hrel
    by_cases hlt : k < n
    · have hpk : l[k]? = some (l[k]'(by omega)) := List.getElem?_eq_getElem (by omega)
      obtain ⟨u0, v, u1, hsl⟩ := hi k _ hpk
      obtain ⟨ad, rfl, hadb, hcell⟩ := hr.2 (by omega)
      obtain ⟨g, o, sp⟩ := ad
      have hsp := hA _ rfl
      simp only at hsp hadb
      subst hsp
      have d0 := hcell _ _ u0
      have d1 := hcell _ _ u1
      rw [Addr.add_mid] at d0 d1
      have htk := take_snoc l k _ hpk
      obtain ⟨A2, c2, hv, _, hrd⟩ := (hsl.under hw).reads
      subst hv
      generalize l[k]'(by omega) = p at *
      obtain ⟨x, b⟩ := p
      simp only at d0 d1 hrd htk
      have q0 : wr.drew.cell? ⟨g, o + k * 2, none⟩ = some (.int .u64 (x : Int)) := by rw [Nat.mul_comm k 2]; exact (hw.cell (p := ⟨g, o + 2 * k, none⟩) hadb).trans d0
      have q1 : wr.drew.cell? ⟨g, o + k * 2 + 1, none⟩ = some (.slice A2 b.length c2) := by rw [Nat.mul_comm k 2]; exact (hw.cell (p := ⟨g, o + (2 * k + 1), none⟩) hadb).trans d1
      have q2 : (convert 55 9 (.slice A2 b.length c2)).run Tryz.prog wr.drew = .ok (strB b) wr.drew := run_string wr.drew A2 c2 b hrd.drew
      have i1 : (0 : Int) ≤ (k : Int) := by omega
      have i2 : (k : Int) < (n : Int) := by omega
      have HTK := Lib.hid htk
      have hbnd : ∀ bk, (Value.slice A' k c').ownBlock = some bk → w.heap.size ≤ bk ∧ bk < wr.heap.size := World.ownsRow.lt hor
      obtain ⟨W2, hW2⟩ : ∃ W2 : World, W2 = (wr.alloc (.cells #[.int .u64 (x : Int), .string ⟨b.toArray⟩] 105)).drew := ⟨_, rfl⟩
      have b2 : Below wr.heap.size wr W2 := by rw [hW2]; exact ((Below.refl _ _).alloc (Nat.le_refl _) _).drew
      have hs2 : W2.heap.size = wr.heap.size + 1 := by rw [hW2]; exact size_alloc' _ _
      have hod : W2.ownsRow w.heap.size 105 2 (.slice A' k c') k (encM (l.take k)) := own_keep hor fun bk e => b2.block bk (hbnd bk e).2
      have knew : Blk W2 wr.heap.size 105 [Value.int .u64 (x : Int), .string ⟨b.toArray⟩].toArray := by rw [hW2]; exact (Blk.new_of rfl rfl).drew
      have hnews := knew.rows 1 2 rfl
      have hone : ∀ u ∈ [Value.int .u64 (x : Int), .string ⟨b.toArray⟩], u.oneCell' = true := by intro u hu; simp only [List.mem_cons, List.not_mem_nil, or_false] at hu; rcases hu with rfl | rfl <;> rfl
      have hm1 : k + 1 ≤ maxLen := by unfold maxLen; omega
      have hm2 : (k + 1) * 24 ≤ 140737488355328 := by omega
      have h02 : 0 < 2 := by omega
      have hwr := hw.size
      have hbs : w.heap.size ≤ W2.heap.size := by omega
      have hS : ∀ W, Below wr.heap.size wr W → W.cell? ⟨g, o + k * 2, none⟩ = some (.int .u64 (x : Int)) ∧ W.cell? ⟨g, o + k * 2 + 1, none⟩ = some (.slice A2 b.length c2) ∧ (convert 55 9 (.slice A2 b.length c2)).run Tryz.prog W = .ok (strB b) W := fun W h => ⟨(h.cell (p := ⟨g, o + k * 2, none⟩) (by show g < _; omega)).trans q0, (h.cell (p := ⟨g, o + k * 2 + 1, none⟩) (by show g < _; omega)).trans q1, run_string W A2 c2 b ((hrd.below h).more h.size)⟩
      have HW2 := Lib.hid hW2
      have HS := Lib.hid hS
      have hS2 := hS W2 b2
      have HS2 := Lib.hid hs2
      have happ : ∀ (v4 : Value) (w4 : World), w4.ownsRow w.heap.size 105 2 v4 (k + 1) (encM (l.take k) ++ [Value.int .u64 (x : Int), .string ⟨b.toArray⟩]) → W2.grownBy w4 (Value.slice A' k c').ownBlock → (w4.cell? ⟨g, o + k * 2, none⟩ = some (.int .u64 (x : Int)) ∧ w4.cell? ⟨g, o + k * 2 + 1, none⟩ = some (.slice A2 b.length c2) ∧ (convert 55 9 (.slice A2 b.length c2)).run Tryz.prog w4 = .ok (strB b) w4) ∧ w4.ownsRow w.heap.size 105 2 v4 (k + 1) (encM (l.take (k + 1))) ∧ Below w.heap.size w w4 := by
        intro v4 w4 ho hg
        have hb : Below w.heap.size w w4 := (hw.trans (b2.mono hwr)).grown hg hbs (fun bk e => (hbnd bk e).1)
        refine ⟨?_, ?_, hb⟩
        · refine ⟨?_, ?_, run_string w4 A2 c2 b ?_⟩
          · rw [Nat.mul_comm k 2]; exact (hb.cell (p := ⟨g, o + 2 * k, none⟩) hadb).trans d0
          · rw [Nat.mul_comm k 2]; exact (hb.cell (p := ⟨g, o + (2 * k + 1), none⟩) hadb).trans d1
          · obtain ⟨_, hK⟩ : ∃ F : Nat, True := ⟨0, trivial⟩
            obtain ⟨A3, c3, hv3, _, hr3⟩ := (hsl.under hb).reads
            injection hv3 with e1 _ e2
            subst e1 e2
            exact hr3
        · rw [htk, encM_append]
          exact ho
      have HA := Lib.hid happ
      clear hcell u0 u1 hpk htk d0 d1 hsl hi q0 q1 q2 hS hs2 hW2 happ hor knew b2
      obtain ⟨q0, q1, q2⟩ := HS.out wr (Below.refl _ _)
      have q0 : wr.drew.cell? ⟨g, o + k * 2, none⟩ = some (.int .u64 (x : Int)) := q0
      have q1 : wr.drew.cell? ⟨g, o + k * 2 + 1, none⟩ = some (.slice A2 b.length c2) := q1
      have q2 := (HS.out wr.drew (Below.refl _ wr).drew).2.2
      go_wp2
      go_region_held3 (fun w' => w'.cell? ⟨g, o + k * 2, none⟩ = some (.int .u64 (x : Int)) ∧ w'.cell? ⟨g, o + k * 2 + 1, none⟩ = some (.slice A2 b.length c2) ∧ (convert 55 9 (.slice A2 b.length c2)).run Tryz.prog w' = .ok (strB b) w') (first | (exact ⟨q0, q1, q2⟩) | (rw [← HW2.out]; exact hS2) | (exact hk4.1)) ((refine step_append_any _ (by rfl) (.tmp 11) (.tmp 24) 52 (by rfl) w.heap.size 105 i0 _ 2 24 Tryz.underlying52 ii0 hz0 hz1 hz2 (by rfl) h02 (.slice A' k c') k (encM (l.take k)) (by rfl) (by rw [← HW2.out]; exact hod) W2.heap.size (some ⟨wr.heap.size, 0, none⟩) 1 1 [Value.int .u64 (x : Int), .string ⟨b.toArray⟩] (by rfl) (by rw [← HW2.out]; exact hnews) hone hm1 hm2 (by rw [← HW2.out]; exact hbs) ?_; intro v4 w4 hown4 hg4 hat4; rw [← HW2.out] at hg4; have hk4 := HA.out v4 w4 hown4 hg4; obtain ⟨A4, cc4, rfl⟩ := own_shape hown4))
      go_wp2
      go_roundw
      case rel => exact ⟨k + 1, A4, cc4, by omega, by go_num, rfl, hk4.2.1, hk4.2.2⟩
      case measure => simp [intOf]; omega
    · have hkk : k = n := by omega
      have hps : n ≤ k := by omega
      rw [List.take_of_length_le (by omega)] at hor
      subst hkk
      clear hlt hk
      go_wp2
      go_ret
      exact ⟨A', c', rfl, hor, hw⟩

/-- A row of rows of images, as the model has them. -/
def RowMs (w : World) (base : Nat) (ys : List Value) (ll : List (List Img)) : Prop := ∀ (i : Nat) (l : List Img), ll[i]? = some l → ∃ A c, ys[i]? = some (.slice A l.length c) ∧ w.ownsRow base 105 2 (.slice A l.length c) l.length (encM l)
theorem RowMs.keep {w w' : World} {base : Nat} {ys : List Value} {ll : List (List Img)} (h : RowMs w base ys ll) (hk : ∀ k, Kind w k 105 → w'.heap[k]? = w.heap[k]?) : RowMs w' base ys ll := fun i l hl => by
  obtain ⟨A, c, h1, h2⟩ := h i l hl
  exact ⟨A, c, h1, own_keep h2 fun k e => hk k (own_kind h2 e)⟩
theorem RowMs.lower {w : World} {base b' : Nat} {ys : List Value} {ll : List (List Img)} (h : RowMs w base ys ll) (hb : b' ≤ base) : RowMs w b' ys ll := fun i l hl => by
  obtain ⟨A, c, h1, h2⟩ := h i l hl
  exact ⟨A, c, h1, ownsRow_lower h2 hb⟩
theorem RowMs.snoc {w : World} {base : Nat} {ys : List Value} {ll : List (List Img)} {l : List Img} {A : Option Addr} {c : Nat} (h : RowMs w base ys ll) (hl : ys.length = ll.length) (hv : w.ownsRow base 105 2 (.slice A l.length c) l.length (encM l)) : RowMs w base (ys ++ [.slice A l.length c]) (ll ++ [l]) := by
  intro j p hp
  rw [List.getElem?_append] at hp
  split at hp
  · obtain ⟨A', c', h1, h2⟩ := h j p hp
    exact ⟨A', c', by rw [List.getElem?_append_left (by omega)]; exact h1, h2⟩
  · have hi : j = ll.length := by
      rcases Nat.lt_or_ge (j - ll.length) 1 with h1 | h1
      · omega
      · rw [List.getElem?_eq_none (by simp; omega)] at hp; cases hp
    subst hi
    rw [Nat.sub_self] at hp
    cases hp
    exact ⟨A, c, by rw [← hl, List.getElem?_append_right (Nat.le_refl _), Nat.sub_self]; rfl, hv⟩
theorem info26 : (Tryz.prog.info? 52).map (fun i => (i.zero, i.size, i.bytes)) = some (some (.slice none 0 0), 1, 24) := by kernel_rfl
set_option maxRecDepth 100000 in
set_option maxHeartbeats 4000000 in
theorem allOf_any (A : Option Addr) (n c : Nat) (xs : List Value) (ll : List (List Img)) (w : World) (hr : Reads w w.heap.size 1 A n xs) (hA : ∀ ad, A = some ad → ad.spot = none) (hl : ll.length = n) (hi : RowC w xs ll) (hn : n ≤ 1048576) (hn2 : ∀ l ∈ ll, l.length ≤ 1048576) :
    Calls Tryz.prog 20 #[.slice A n c] w fun e w' => ∃ A' c' ys, e = .returned (.slice A' n c') ∧ w'.ownsRow w.heap.size 52 1 (.slice A' n c') n ys ∧ RowMs w' w.heap.size ys ll ∧ Below w.heap.size w w' := by
  obtain ⟨i0, ii0, hz0, hz1, hz2⟩ := info_parts info26
  go_enter Tryz.func20, Tryz.ntmps20
  go_wp2
  go_loopw [3, 4] (fun vo ix wr => ∃ (k : Nat) (A' : Option Addr) (c' : Nat) (ys : List Value), k ≤ n ∧ ix = .int .i64 k ∧ vo = .slice A' k c' ∧ wr.ownsRow w.heap.size 52 1 (.slice A' k c') k ys ∧ RowMs wr w.heap.size ys (ll.take k) ∧ Below w.heap.size w wr) (fun _ ix _ => n - (intOf ix).toNat)
  case atStart => exact ⟨0, none, 0, [], by omega, rfl, rfl, World.ownsRow_nil _ _ _ _, fun i p hp => by simp at hp, Below.refl _ _⟩
  case round =>
    obtain ⟨k, A', c', ys, hk, rfl, rfl, hor, hR, hw⟩ := hrel
    by_cases hlt : k < n
    · have hpk : ll[k]? = some (ll[k]'(by omega)) := List.getElem?_eq_getElem (by omega)
      obtain ⟨v, u0, hIm⟩ := hi k _ hpk
      obtain ⟨A1, c1, xs1, rfl, hc1, hr1, hR1, hK1⟩ := hIm.under hw
      obtain ⟨ad, rfl, hadb, hcell⟩ := hr.2 (by omega)
      obtain ⟨g, o, sp⟩ := ad
      have hsp := hA _ rfl
      simp only at hsp hadb
      subst hsp
      have d0 := hcell _ _ u0
      rw [Addr.add_mid] at d0
      have htk := take_snoc ll k _ hpk
      have hll := hn2 _ (List.getElem_mem (h := (by omega : k < ll.length)))
      have q0 : wr.cell? ⟨g, o + k, none⟩ = some (.slice A1 (ll[k]'(by omega)).length c1) := (hw.cell (p := ⟨g, o + k, none⟩) hadb).trans d0
      generalize ll[k]'(by omega) = l at *
      have hmo := modelOf_any A1 l.length c1 xs1 l wr hr1 (fun ad e => (hK1 ad e).2) rfl hR1 hll
      have hbnd : ∀ bk, (Value.slice A' k c').ownBlock = some bk → w.heap.size ≤ bk ∧ bk < wr.heap.size := World.ownsRow.lt hor
      have hone : ∀ (A : Option Addr) (m c : Nat), ∀ u ∈ [Value.slice A m c], u.oneCell' = true := by intro A m c u hu; simp only [List.mem_cons, List.not_mem_nil, or_false] at hu; rcases hu with rfl; rfl
      have hm1 : k + 1 ≤ maxLen := by unfold maxLen; omega
      have hm2 : (k + 1) * 24 ≤ 140737488355328 := by omega
      have hwr := hw.size
      have HTK := Lib.hid htk
      clear hcell u0 hpk htk d0 hi hR1 hr1 hIm hK1
      go_wp2_with (first | (go_at_call 13; refine hmo.mono ?_; rintro e w3 ⟨A3, c3, rfl, ho3, b3⟩; have hs3 := b3.size; have hor3 : w3.ownsRow w.heap.size 52 1 (.slice A' k c') k ys := (own_keep hor (fun bk e => b3.block bk (hbnd bk e).2)); have hnews := Blk.rows (xs := [Value.slice A3 l.length c3]) 1 1 (Blk.new w3 52 #[Value.slice A3 l.length c3]) rfl; have hbase : w.heap.size ≤ (w3.alloc (.cells #[Value.slice A3 l.length c3] 52)).heap.size := (by rw [size_alloc']; omega)) | (at_builtin; refine wpList_append_any _ rfl (.tmp 11) (.tmp 17) 63 rfl w.heap.size 52 i0 _ 1 24 Tryz.underlying63 ii0 hz0 hz1 hz2 rfl (by omega) (.slice A' k c') k ys rfl (World.ownsRow.alloc hor3 _) _ (some ⟨w3.heap.size, 0, none⟩) 1 1 [_] rfl hnews (hone _ _ _) hm1 hm2 hbase ?_; intro v5 w5 hown5 hg5 hat5; obtain ⟨A5, cc5, rfl⟩ := own_shape hown5))
      go_roundw
      case rel =>
        have k5 : ∀ bk, Kind w3 bk 105 → w5.heap[bk]? = w3.heap[bk]? := fun bk hK => (hg5.block bk (by rw [size_alloc']; have := hK.lt; omega) (fun e => absurd (hK.uniq (own_kind hor3 e.symm)) (by decide))).trans (Below.heap_alloc _ _ bk hK.lt)
        have hR5 : RowMs w5 w.heap.size (ys ++ [.slice A3 l.length c3]) (ll.take (k + 1)) := by
          rw [HTK.out]
          refine ((hR.keep fun bk hK => b3.block bk hK.lt).keep k5).snoc (by rw [List.length_take, hor.1]; omega) ?_
          exact ownsRow_lower (own_keep ho3 fun bk e => k5 bk (own_kind ho3 e)) hwr
        exact ⟨k + 1, A5, cc5, _, by omega, by go_num, rfl, hown5, hR5, ((hw.trans (b3.mono hwr)).alloc (by omega) _).grown hg5 hbase (fun bk e => (hbnd bk e).1)⟩
      case measure => simp [intOf]; omega
    · have hkk : k = n := by omega
      have hps : n ≤ k := by omega
      rw [List.take_of_length_le (by omega)] at hR
      subst hkk
      clear hlt hk
      go_wp2
      go_ret
      exact ⟨A', c', ys, rfl, hor, hR, hw⟩
end Go.Proofs.YtkhebllmnagkmaaGreatDoor
