/- Contracts and lemmas under the statements of this seat, one behind the other. Conditions: what each names. -/
import Derived.Test.YtkhebllmnagkmaaGreatDoorG10
/- Contracts of slices.ContainsFunc at images, record.Of, where all is well. Conditions: what each names. -/
namespace Go.Proofs.YtkhebllmnagkmaaGreatDoor
open Go.RowKit
set_option linter.unusedVariables false

/-- A row of images: two cells each. -/
def RowI (w : World) (xs : List Value) (l : List (Nat × List UInt8)) : Prop := ∀ (i : Nat) (p : Nat × List UInt8), l[i]? = some p → xs[2 * i]? = some (.int .u64 (p.1 : Int)) ∧ ∃ v, xs[2 * i + 1]? = some v ∧ IsSl w v p.2
/-- A row of records: three cells each. -/
def RowR (w : World) (xs : List Value) (l : List (Nat × List UInt8)) (n : Nat) : Prop := ∀ (i : Nat) (p : Nat × List UInt8), l[i]? = some p → xs[3 * i]? = some (.int .u64 (p.1 : Int)) ∧ (∃ v, xs[3 * i + 1]? = some v ∧ IsSl w v p.2) ∧ xs[3 * i + 2]? = some (.bool (decide (i + 1 = n)))
theorem RowI.keep {w w' : World} {xs : List Value} {l : List (Nat × List UInt8)} (h : RowI w xs l) (hs : w.heap.size ≤ w'.heap.size) (hk : ∀ k, Kind w k 5 → w'.heap[k]? = w.heap[k]?) : RowI w' xs l := fun i b hb => by
  obtain ⟨h0, v, h1, h2⟩ := h i b hb
  exact ⟨h0, v, h1, h2.keep hs hk⟩
theorem RowI.under {w w' : World} {xs : List Value} {l : List (Nat × List UInt8)} (h : RowI w xs l) (hb : Below w.heap.size w w') : RowI w' xs l := h.keep hb.size fun k hk => hb.block k hk.lt
theorem RowR.keep {w w' : World} {xs : List Value} {l : List (Nat × List UInt8)} {n : Nat} (h : RowR w xs l n) (hs : w.heap.size ≤ w'.heap.size) (hk : ∀ k, Kind w k 5 → w'.heap[k]? = w.heap[k]?) : RowR w' xs l n := fun i b hb => by
  obtain ⟨h0, ⟨v, h1, h2⟩, h3⟩ := h i b hb
  exact ⟨h0, ⟨v, h1, h2.keep hs hk⟩, h3⟩
theorem odd_no (x : Nat) (A : Option Addr) (c : Nat) (w : World) : Calls Tryz.prog 63 #[.agg #[.int .u64 (x : Int), .slice A 160 c]] w fun e w' => e = .returned (.bool false) ∧ Below w.heap.size w w' := by
  go_enter Tryz.func63, Tryz.ntmps63
  go_wp2
  go_ret
  exact ⟨rfl, (Below.refl _ _).alloc (Nat.le_refl _) _⟩
set_option maxRecDepth 100000 in
set_option maxHeartbeats 1000000 in
theorem iindex_no (g o n c : Nat) (xs : List Value) (l : List (Nat × List UInt8)) (w : World) (hr : Reads w w.heap.size 2 (some ⟨g, o, none⟩) n xs) (hl : l.length = n) (hi : RowI w xs l) (h160 : ∀ p ∈ l, p.2.length = 160) (hn : n ≤ 1048576) :
    Calls Tryz.prog 87 #[.slice (some ⟨g, o, none⟩) n c, .func (.func 63) #[] #[]] w fun e w' => e = .returned (.int .i64 (-1)) ∧ Below w.heap.size w w' := by
  have eg := enters_of Tryz.func63 (by kernel_rfl) rfl
  go_enter Tryz.func87, Tryz.ntmps87
  go_wp2
  go_loopw [8] (fun ix wr => ∃ k : Nat, k ≤ n ∧ ix = .int .i64 k ∧ Below w.heap.size w wr) (fun ix _ => n - (intOf ix).toNat)
  case atStart => exact ⟨0, by omega, rfl, Below.refl _ _⟩
  case round =>
    obtain ⟨k, hk, rfl, hw⟩ := hrel
    by_cases hlt : k < n
    · have hpk : l[k]? = some (l[k]'(by omega)) := List.getElem?_eq_getElem (by omega)
      obtain ⟨u0, v, u1, A', c', hv, _⟩ := hi k _ hpk
      rw [h160 _ (List.getElem_mem _)] at hv
      subst hv
      obtain ⟨ad, e, hb, hc⟩ := hr.2 (by omega)
      injection e with e
      subst e
      have d1 := hc _ _ u0
      have d2 := hc _ _ u1
      rw [Addr.add_mid] at d1 d2
      have e1 : wr.cell? ⟨g, o + k * 2, none⟩ = some (.int .u64 ((l[k]'(by omega)).1 : Int)) := by rw [Nat.mul_comm k 2]; exact (hw.cell (p := ⟨g, o + 2 * k, none⟩) hb).trans d1
      have e2 : wr.cell? ⟨g, o + k * 2 + 1, none⟩ = some (.slice A' 160 c') := by rw [Nat.mul_comm k 2]; exact (hw.cell (p := ⟨g, o + (2 * k + 1), none⟩) hb).trans d2
      generalize (l[k]'(by omega)).1 = x at *
      clear d1 d2 u0 u1 hc hpk hi h160
      go_wp2_with (refine (odd_no x A' c' _).mono ?_; rintro e w' ⟨rfl, b1⟩)
      go_roundw
      case rel => exact ⟨k + 1, by omega, by go_num, hw.trans (b1.mono hw.size)⟩
      case measure => simp [intOf]; omega
    · have hps : n ≤ k := by omega
      clear hk
      go_wp2
      go_ret
      exact ⟨rfl, hw⟩
theorem icontains_no (g o n c : Nat) (xs : List Value) (l : List (Nat × List UInt8)) (w : World) (hr : Reads w w.heap.size 2 (some ⟨g, o, none⟩) n xs) (hl : l.length = n) (hi : RowI w xs l) (h160 : ∀ p ∈ l, p.2.length = 160) (hn : n ≤ 1048576) :
    Calls Tryz.prog 64 #[.slice (some ⟨g, o, none⟩) n c, .func (.func 63) #[] #[]] w fun e w' => e = .returned (.bool false) ∧ Below w.heap.size w w' := by
  have h := iindex_no g o n c xs l w hr hl hi h160 hn
  clear hr hl hi h160
  go_enter Tryz.func64, Tryz.ntmps64
  go_wp2_with (go_at_call 87; refine h.mono ?_; rintro e w' ⟨rfl, b1⟩)
  go_ret
  exact ⟨rfl, b1⟩
theorem info87 : (Tryz.prog.info? 95).map (fun i => (i.zero, i.size, i.bytes)) = some (some (.agg #[.int .u64 0, .slice none 0 0, .bool false]), 3, 40) := by kernel_rfl
theorem RowR.snoc {w : World} {xs : List Value} {l : List (Nat × List UInt8)} {n x : Nat} {v : Value} {b : List UInt8} {B : Bool} (h : RowR w xs l n) (hl : xs.length = 3 * l.length) (hv : IsSl w v b) (hB : B = decide (l.length + 1 = n)) : RowR w (xs ++ [.int .u64 (x : Int), v, .bool B]) (l ++ [(x, b)]) n := by
  intro j p hp
  rw [List.getElem?_append] at hp
  split at hp
  · obtain ⟨h0, ⟨u, h1, h2⟩, h3⟩ := h j p hp
    exact ⟨by rw [List.getElem?_append_left (by omega)]; exact h0, ⟨u, by rw [List.getElem?_append_left (by omega)]; exact h1, h2⟩, by rw [List.getElem?_append_left (by omega)]; exact h3⟩
  · have hi : j = l.length := by
      rcases Nat.lt_or_ge (j - l.length) 1 with h1 | h1
      · omega
      · rw [List.getElem?_eq_none (by simp; omega)] at hp; cases hp
    subst hi
    rw [Nat.sub_self] at hp
    cases hp
    refine ⟨by rw [← hl, List.getElem?_append_right (Nat.le_refl _), Nat.sub_self]; rfl, ⟨v, ?_, hv⟩, ?_⟩
    · rw [List.getElem?_append_right (by omega), show 3 * l.length + 1 - xs.length = 1 by omega]
      rfl
    · rw [List.getElem?_append_right (by omega), show 3 * l.length + 2 - xs.length = 2 by omega, hB]
      rfl
set_option maxRecDepth 100000 in
set_option maxHeartbeats 4000000 in
theorem of_ok (g o n c : Nat) (xs : List Value) (l : List (Nat × List UInt8)) (w : World) (hr : Reads w w.heap.size 2 (some ⟨g, o, none⟩) n xs) (hl : l.length = n) (hi : RowI w xs l) (h160 : ∀ p ∈ l, p.2.length = 160) (h1 : 1 ≤ n) (hn : n ≤ 1048576) :
    Calls Tryz.prog 33 #[.slice (some ⟨g, o, none⟩) n c] w fun e w' => ∃ v xr, e = .returned (.tuple #[v, .int .i64 0]) ∧ w'.ownsRow w.heap.size 95 3 v n xr ∧ RowR w' xr l n ∧ Below w.heap.size w w' := by
  obtain ⟨i0, ii0, hz0, hz1, hz2⟩ := info_parts info87
  have hcon := icontains_no g o n c xs l w hr hl hi h160 hn
  have hn0 : ¬ (n : Int) = 0 := by omega
  have hn0' : ¬ n = 0 := by omega
  have hn0b : ((n : Int) == 0) = false := by rw [beq_eq_false_iff_ne]; omega
  go_enter Tryz.func33, Tryz.ntmps33
  go_wp2_with (go_at_call 64; refine hcon.mono ?_; rintro e w1 ⟨rfl, b1⟩)
  clear hcon hn0 hn0' hn0b
  go_loopw [5, 18] (fun v ix wr => ∃ (k : Nat) (A : Option Addr) (cc : Nat) (xr : List Value), k ≤ n ∧ ix = .int .i64 k ∧ v = .slice A k cc ∧ wr.ownsRow w.heap.size 95 3 (.slice A k cc) k xr ∧ RowR wr xr (l.take k) n ∧ Below w.heap.size w wr) (fun _ ix _ => n - (intOf ix).toNat)
  case atStart => exact ⟨0, none, 0, [], by omega, rfl, rfl, World.ownsRow_nil _ _ _ _, fun i p hp => by simp at hp, b1⟩
  case round =>
    obtain ⟨k, A, cc, xr, hk, rfl, rfl, ho, hR, hw⟩ := hrel
    by_cases hlt : k < n
    · have hpk : l[k]? = some (l[k]'(by omega)) := List.getElem?_eq_getElem (by omega)
      obtain ⟨u0, v, u1, hsl⟩ := (hi.under (w' := wr) (hw)) k _ hpk
      have hbl := h160 _ (List.getElem_mem (h := (by omega : k < l.length)))
      obtain ⟨A', c', hv, hcap, hrd⟩ := hsl.reads
      subst hv
      obtain ⟨ad, e, hb, hc⟩ := hr.2 (by omega)
      injection e with e
      subst e
      have d1 := hc _ _ u0
      have d2 := hc _ _ u1
      rw [Addr.add_mid] at d1 d2
      have htk : l.take (k + 1) = l.take k ++ [l[k]'(by omega)] := List.take_succ_eq_append_getElem (by omega)
      have e1 : wr.cell? ⟨g, o + k * 2, none⟩ = some (.int .u64 ((l[k]'(by omega)).1 : Int)) := by rw [Nat.mul_comm k 2]; exact (hw.cell (p := ⟨g, o + 2 * k, none⟩) hb).trans d1
      have e2 : wr.cell? ⟨g, o + k * 2 + 1, none⟩ = some (.slice A' (l[k]'(by omega)).2.length c') := by rw [Nat.mul_comm k 2]; exact (hw.cell (p := ⟨g, o + (2 * k + 1), none⟩) hb).trans d2
      have hlt2 : (l.take k).length = k := by rw [List.length_take]; omega
      generalize l[k]'(by omega) = p at *
      clear d1 d2 hpk u0 u1 hsl hc
      obtain ⟨Wa, hWa⟩ : ∃ Wa : World, Wa = wr.alloc (.cells #[.int .u64 (p.1 : Int), .slice A' p.2.length c'] 79) := ⟨_, rfl⟩
      have ya : Below wr.heap.size wr Wa := by rw [hWa]; exact (Below.refl _ _).alloc (Nat.le_refl _) _
      have sa : Wa.heap.size = wr.heap.size + 1 := by rw [hWa, size_alloc']
      have ka : Blk Wa wr.heap.size 79 #[.int .u64 (p.1 : Int), .slice A' p.2.length c'] := by rw [hWa]; exact Blk.new_of rfl rfl
      have hclo := clone_any A' p.2.length c' p.2 Wa ((hrd.below ya).more ya.size) (by omega)
      have hbnd : ∀ b, (Value.slice A k cc).ownBlock = some b → w.heap.size ≤ b ∧ b < wr.heap.size := World.ownsRow.lt ho
      have HWa := Lib.hid hWa
      have HTK := Lib.hid htk
      have HL2 := Lib.hid hlt2
      have HBL := Lib.hid hbl
      have hm1 : k + 1 ≤ maxLen := by unfold maxLen; omega
      have hm2 : (k + 1) * 40 ≤ 140737488355328 := by omega
      have hone : ∀ (a : Int) (A : Option Addr) (m c : Nat) (b : Bool), ∀ u ∈ [Value.int .u64 a, .slice A m c, .bool b], u.oneCell' = true := by intro a A m c b u hu; simp only [List.mem_cons, List.not_mem_nil, or_false] at hu; rcases hu with rfl | rfl | rfl <;> rfl
      clear hWa htk hlt2 hbl hrd hi h160
      go_wp2_with (first | (go_at_call 43; rw [← HWa.out]; refine hclo.mono ?_; rintro e w2 ⟨v2, rfl, hv2, b2⟩; obtain ⟨A2, cc2, rfl⟩ := hv2.shape; have k2 := ka.below b2 ka.lt; have x0 : w2.cell? ⟨wr.heap.size, 0, none⟩ = some (.int .u64 (p.1 : Int)) := k2.cell 0; have x1 : w2.cell? ⟨wr.heap.size, 1, none⟩ = some (.slice A' p.2.length c') := k2.cell 1; have fx1 := k2.frozen 1; have ho2 : w2.ownsRow w.heap.size 95 3 (.slice A k cc) k xr := (own_keep ho (fun b e => (b2.block b (by have := (hbnd b e).2; omega)).trans (ya.block b (hbnd b e).2))); have ho4 := ownsRow_setCell_other ho2 (a := ⟨wr.heap.size, 1, none⟩) (fun e => by have := (hbnd _ e).2; exact absurd this (Nat.lt_irrefl _)) (.slice A2 p.2.length cc2); have kn : Blk ((w2.setCell ⟨wr.heap.size, 1, none⟩ (.slice A2 p.2.length cc2)).alloc (.cells #[.int .u64 (p.1 : Int), .slice A2 p.2.length cc2, .bool ((k : Int) == (n : Int) - 1)] 95)) w2.heap.size 95 [Value.int .u64 (p.1 : Int), .slice A2 p.2.length cc2, .bool ((k : Int) == (n : Int) - 1)].toArray := Blk.new_of (by simp [World.setCell]) rfl; have hnews := kn.rows 1 3 rfl; have hbase : w.heap.size ≤ ((w2.setCell ⟨wr.heap.size, 1, none⟩ (.slice A2 p.2.length cc2)).alloc (.cells #[.int .u64 (p.1 : Int), .slice A2 p.2.length cc2, .bool ((k : Int) == (n : Int) - 1)] 95)).heap.size := (by have h1 := hw.size; have h2 := b2.size; rw [size_alloc']; simp [World.setCell]; omega)) | (at_builtin; refine wpList_append_any _ rfl (.tmp 27) (.tmp 35) 90 rfl w.heap.size 95 i0 _ 3 40 Tryz.underlying90 ii0 hz0 hz1 hz2 rfl (by omega) (.slice A k cc) k xr rfl (World.ownsRow.alloc ho4 _) _ (some ⟨w2.heap.size, 0, none⟩) 1 1 [.int .u64 (p.1 : Int), .slice A2 p.2.length cc2, .bool ((k : Int) == (n : Int) - 1)] rfl hnews (hone _ _ _ _ _) hm1 hm2 hbase ?_; intro v6 w6 hown6 hg6 hat6; obtain ⟨A6, cc6, rfl⟩ := own_shape hown6))
      have h8 : ∀ b, Kind wr b 5 → w6.heap[b]? = wr.heap[b]? := fun b hK => by
        have hb1 := hK.lt
        have hs2 := b2.size
        refine (hg6.block b (by rw [size_alloc']; simp [World.setCell]; omega) (fun e => ?_)).trans ?_
        · exact absurd (hK.uniq (own_kind ho e.symm)) (by decide)
        · exact (Below.heap_alloc _ _ b (by simp [World.setCell]; omega)).trans ((Below.heap_setCell _ _ _ _ (by show b ≠ wr.heap.size; omega)).trans ((b2.block b (by omega)).trans (ya.block b hb1)))
      have hs6 : wr.heap.size ≤ w6.heap.size := by have h1 := hg6.size; have h2 := b2.size; rw [size_alloc'] at h1; simp [World.setCell] at h1; omega
      have hR6 : RowR w6 xr (l.take k) n := hR.keep hs6 h8
      have hv6 : IsSl w6 (.slice A2 p.2.length cc2) p.2 := by
        refine (hv2.isSl).keep (by have h1 := hg6.size; rw [size_alloc'] at h1; simp [World.setCell] at h1; omega) fun b hK => ?_
        have hb1 := hK.lt
        refine (hg6.block b (by rw [size_alloc']; simp [World.setCell]; omega) (fun e => ?_)).trans ((Below.heap_alloc _ _ b (by simp [World.setCell]; omega)).trans (Below.heap_setCell _ _ _ _ ?_))
        · exact absurd (hK.uniq (own_kind ho2 e.symm)) (by decide)
        · show b ≠ wr.heap.size
          rintro rfl
          exact absurd (hK.uniq k2.kind) (by decide)
      have hB : ((k : Int) == (n : Int) - 1) = decide ((l.take k).length + 1 = n) := by
        rw [HL2.out, Bool.eq_iff_iff, beq_iff_eq, decide_eq_true_iff]
        omega
      have hR7 := hR6.snoc (x := p.1) (by have := ho.1; rw [HL2.out]; omega) hv6 hB
      rw [← HTK.out] at hR7
      have hw6 : Below w.heap.size w w6 := by
        have y1 := (hw.trans (ya.mono hw.size)).trans (b2.mono (by have := hw.size; omega))
        exact ((y1.setCell (p := ⟨wr.heap.size, 1, none⟩) hw.size _).alloc (by have := hw.size; have := b2.size; simp [World.setCell]; omega) _).grown hg6 hbase (fun b e => (hbnd b e).1)
      clear hclo
      go_wp2
      go_roundw
      case rel => exact ⟨k + 1, A6, cc6, _, by omega, by go_num, rfl, hown6, hR7, hw6⟩
      case measure => simp [intOf]; omega
    · have hkk : k = n := by omega
      have hps : n ≤ k := by omega
      have HK := Lib.hid hkk
      clear hkk hlt hk
      go_wp2
      go_ret2
      rw [HK.out] at ho hR
      rw [List.take_of_length_le (by omega)] at hR
      refine ⟨_, xr, ?_, ho, hR, hw⟩
      rw [HK.out]
      rfl
end Go.Proofs.YtkhebllmnagkmaaGreatDoor
/- Contract of the journal's Append, where there is room. Conditions: what each names. -/
namespace Go.Proofs.YtkhebllmnagkmaaGreatDoor
open Go.RowKit
set_option linter.unusedVariables false

def placeAt (J : Jr) (k : Nat) : Nat := J.first + (J.start + (J.count + k)) % J.size
/-- The slots that an append writes. -/
def slotsOf (J : Jr) (l : List (Nat × List UInt8)) : List (Nat × List UInt8) :=
  l.mapIdx fun k p => (placeAt J k, sealB J.key (placeAt J k) (J.next + k) (recB p.1 p.2 (decide (k + 1 = l.length))))
def tagOf (tag : List UInt8) (slots : List (Nat × List UInt8)) : List UInt8 := slots.foldl (fun t s => linkB t s.1 s.2) tag
theorem slotsOf_length (J : Jr) (l : List (Nat × List UInt8)) : (slotsOf J l).length = l.length := by simp [slotsOf]
theorem slotsOf_get (J : Jr) (l : List (Nat × List UInt8)) (k : Nat) (p : Nat × List UInt8) (h : l[k]? = some p) : (slotsOf J l)[k]? = some (placeAt J k, sealB J.key (placeAt J k) (J.next + k) (recB p.1 p.2 (decide (k + 1 = l.length)))) := by
  unfold slotsOf
  rw [List.getElem?_mapIdx, h]
  rfl
theorem take_snoc {α : Type} (l : List α) (k : Nat) (x : α) (h : l[k]? = some x) : l.take (k + 1) = l.take k ++ [x] := by
  rw [List.take_add_one, h]
  rfl
theorem tagOf_snoc (tag : List UInt8) (s : List (Nat × List UInt8)) (x : Nat × List UInt8) : tagOf tag (s ++ [x]) = linkB (tagOf tag s) x.1 x.2 := by
  unfold tagOf
  rw [List.foldl_append]
  rfl
theorem tagOf_length (tag : List UInt8) (s : List (Nat × List UInt8)) (h : tag.length = 32) : (tagOf tag s).length = 32 := by
  rcases List.eq_nil_or_concat s with rfl | ⟨s', x, rfl⟩
  · exact h
  · rw [List.concat_eq_append, tagOf_snoc]; exact linkB_length _ _ _
def st0 : List Value := stCells 0 0 (List.replicate 32 0)
theorem OnlyBut.blk {F : Nat → Prop} {b g : Nat} {w w' : World} {t : TypeId} {cs : Array Value} (h : OnlyBut F b w w') (hb : Blk w g t cs) (hne : g ≠ b) (ht : t ∉ wet) : Blk w' g t cs := (h.block g hb.lt hne (.inr ⟨t, hb.kind, ht⟩)).trans hb
theorem Only.grown_new {F : Nat → Prop} {a w w' : World} {b : Nat} (h : Only F a w) (hg : w.grownBy w' (some b)) (hb : a.heap.size ≤ b) : Only F a w' :=
  ⟨hg.os.trans h.os, hg.tape.trans h.tape, hg.output.trans h.output, Nat.le_trans h.size hg.size, fun k hk hn => (hg.block k (Nat.lt_of_lt_of_le hk h.size) (fun e => by injection e with e; omega)).trans (h.block k hk hn)⟩
theorem OnlyBut.u8 {F : Nat → Prop} {b k : Nat} {w w' : World} {t : TypeId} {cs : Array Value} (h : OnlyBut F b w w') (hb : Blk w b t cs) (ht : t ≠ 5) (hk : Kind w k 5) : w'.heap[k]? = w.heap[k]? :=
  h.block k hk.lt (fun e => by subst e; exact ht (hb.kind.uniq hk)) (.inr ⟨_, hk, by decide⟩)
theorem OnlyBut.tabs {F : Nat → Prop} {b : Nat} {w w' : World} (h : OnlyBut F b w w') (hT : Tabs w) (hF : ∀ k, F k → 1 + 0 < k) (hb : 1 + 0 < b) : Tabs w' :=
  ⟨fun i hi => (World.cell?_of_block (a := ⟨1, i, none⟩) (h.block _ (by have := hT.size; show 1 < _; omega) (by show 1 ≠ b; omega) (.inl fun hf => by have := hF 1 hf; omega))).trans (hT.k i hi),
    fun i hi => (World.cell?_of_block (a := ⟨0, i, none⟩) (h.block _ (by have := hT.size; show 0 < _; omega) (by show 0 ≠ b; omega) (.inl fun hf => by have := hF 0 hf; omega))).trans (hT.q i hi), Nat.lt_of_lt_of_le hT.size h.size⟩
set_option maxRecDepth 100000 in
set_option maxHeartbeats 4000000 in
theorem append_any (gj gd : Nat) (F : Nat → Prop) (D : Dk) (J : Jr) (g o n c : Nat) (xs : List Value) (l : List (Nat × List UInt8)) (w : World)
    (hJ : JAt w gj gd J) (hD : Disk w gd F D) (hFj : ¬ F gj) (hdn : D.down = false) (hlf : D.left < 0) (hn1 : D.way.length + n ≤ 1048576) (hn2 : D.ops + n ≤ 1048576) (hpl : D.places.length ≤ 1048576)
    (hr : Reads w w.heap.size 2 (some ⟨g, o, none⟩) n xs) (hl : l.length = n) (hi : RowI w xs l) (h160 : ∀ p ∈ l, p.2.length = 160) (h64 : ∀ p ∈ l, p.1 < 18446744073709551616) (hn0 : 1 ≤ n) (hnn : n ≤ 1048576)
    (h1 : 1 ≤ J.size) (h2 : J.first + J.size ≤ D.places.length) (h3 : J.start < J.size) (h4 : J.count + n ≤ J.size) (hv0 : 1 ≤ J.next) (hv1 : J.next + n ≤ J.limit) (hv2 : J.limit ≤ 9223372036854775807) (hT : Tabs w) (hgj2 : 1 + 0 < gj) (hF2 : ∀ k, F k → 1 + 0 < k) :
    Calls Tryz.prog 11 #[.pointer (some ⟨gj, 0, none⟩), .slice (some ⟨g, o, none⟩) n c] w fun e w' => e = .returned (.tuple #[.agg (stCells J.start (J.count + n) (tagOf J.tag (slotsOf J l))).toArray, .int .i64 0]) ∧
      JAt w' gj gd { J with next := J.next + n } ∧ Disk w' gd (more F w.heap.size) { D with way := D.way ++ slotsOf J l, ops := D.ops + n } ∧ Only (fun k => F k ∨ k = gj) w w' := by
  subst hl
  obtain ⟨W0, hW0⟩ : ∃ W0 : World, W0 = (w.alloc (.cells #[.pointer (some ⟨gj, 0, none⟩)] 36)).alloc (.cells st0.toArray 41) := ⟨_, rfl⟩
  have y0 : Below w.heap.size w W0 := by rw [hW0]; exact ((Below.refl _ _).alloc (Nat.le_refl _) _).alloc (by simp) _
  have kb0 : Blk W0 w.heap.size 36 #[.pointer (some ⟨gj, 0, none⟩)] := by rw [hW0]; exact (Blk.new_of rfl rfl).alloc _
  have kz0 : Blk W0 (w.heap.size + 1) 41 st0.toArray := by rw [hW0]; exact Blk.new_of (by simp) rfl
  have hof := of_ok g o l.length c xs l W0 ((hr.below y0).more y0.size) rfl (hi.under y0) h160 hn0 hnn
  rw [hW0] at hof
  have a0 : ((w.alloc (.cells #[.pointer (some ⟨gj, 0, none⟩)] 36)).alloc (.cells st0.toArray 41)).cell? ⟨w.heap.size, 0, none⟩ = some (.pointer (some ⟨gj, 0, none⟩)) := by rw [← hW0]; exact kb0.cell 0
  have hroom := fun W h => room_any gj gd J W h (by omega) (by omega)
  have d1 : decide (J.size - J.count < l.length) = false := decide_eq_false (by omega)
  have d2 : ¬ J.size - J.count < l.length := by omega
  have d3 : ¬ ((J.size - J.count : Nat) : Int) < (l.length : Int) := by omega
  have HW0 := Lib.hid hW0
  clear hW0
  go_enter Tryz.func11, Tryz.ntmps11
  go_wp2_with (first | (go_at_call 33; refine hof.mono ?_; rintro e w1 ⟨v1, xr, rfl, ho1, hR1, b1⟩; rw [← HW0.out] at ho1 b1; obtain ⟨A1, c1, rfl⟩ := own_shape ho1; have y1 := y0.trans (b1.mono y0.size); have kb1 := kb0.below b1 kb0.lt; have a1 : w1.cell? ⟨w.heap.size, 0, none⟩ = some (.pointer (some ⟨gj, 0, none⟩)) := kb1.cell 0; have J1 := hJ.under y1) | (go_at_call 34; refine (hroom _ J1).mono ?_; rintro e w2 ⟨rfl, m, rfl⟩))
  obtain ⟨W2, hW2⟩ : ∃ W2 : World, W2 = (w1.drewN m).drew := ⟨_, rfl⟩
  have b12 : Below w1.heap.size w1 W2 := by rw [hW2]; exact (below_drewN (Below.refl _ _) m).drew
  have s12 : W2.heap.size = w1.heap.size := by rw [hW2]; rfl
  have y2 : Below w.heap.size w W2 := y1.trans (b12.mono y1.size)
  have J2 := J1.under b12
  have kb2 := kb1.below b12 kb1.lt
  have kz2 : Blk W2 (w.heap.size + 1) 41 st0.toArray := (kz0.below b1 kz0.lt).below b12 (by have h1 := kz0.lt; have h2 := b1.size; omega)
  have c1' : (w1.drewN m).drew.cell? ⟨w.heap.size, 0, none⟩ = some (.pointer (some ⟨gj, 0, none⟩)) := by rw [← hW2]; exact kb2.cell 0
  have c2' : (w1.drewN m).drew.cell? ⟨gj, 69, none⟩ = some (.int .u64 (J.next : Int)) := by rw [← hW2]; exact J2.c69
  have c3' : (w1.drewN m).drew.cell? ⟨gj, 70, none⟩ = some (.int .u64 (J.limit : Int)) := by rw [← hW2]; exact J2.c70
  have e1 : decide (J.limit < J.next) = false := decide_eq_false (by omega)
  have e2 : decide ((J.limit : Int) < (J.next : Int)) = false := decide_eq_false (by omega)
  have e3 : IntKind.u64.wrap ((J.limit : Int) - (J.next : Int)) = (J.limit : Int) - (J.next : Int) := by rw [IntKind.wrap_u64]; omega
  have e4 : decide ((J.limit : Int) - (J.next : Int) < (l.length : Int)) = false := decide_eq_false (by omega)
  have HW2 := Lib.hid hW2
  have HS12 := Lib.hid s12
  clear s12
  clear hof hroom a0 d1 d2 d3 hW2
  go_region_held3 (fun w' => w'.cell? ⟨w.heap.size, 0, none⟩ = some (.pointer (some ⟨gj, 0, none⟩)) ∧ w'.cell? ⟨gj, 69, none⟩ = some (.int .u64 (J.next : Int)) ∧ w'.cell? ⟨gj, 70, none⟩ = some (.int .u64 (J.limit : Int))) (exact ⟨c1', c2', c3'⟩) (fail)
  rw [← HW2.out]
  have c4 : W2.cell? ⟨w.heap.size, 0, none⟩ = some (.pointer (some ⟨gj, 0, none⟩)) := kb2.cell 0
  have hst := J2.st
  have hsl := stCells_length J.start J.count J.tag
  rw [hJ.ht] at hsl
  have hs1 := stCells_one J.start J.count J.tag
  generalize hstc : stCells J.start J.count J.tag = st at *
  have hss : st0.toArray.size = st.toArray.size := by rw [List.size_toArray, List.size_toArray, hsl]; rfl
  have HSS := Lib.hid hss
  have HSL := Lib.hid hsl
  have HST := Lib.hid hstc
  have HS1 := Lib.hid hs1
  clear hss hsl hstc hs1 c1' c2' c3' e1 e2 e3 e4
  go_wp2_with (first | ((with_reducible refine wpList_load_mid (op := ⟨some 63, _, _, _, _, _⟩) rfl 41 _ rfl gj 35 rfl st _ hst Tryz.underlying41 rfl (by rw [HSL.out]; kernel_rfl) ?_)) | ((refine wpList_store_blk (o := ⟨none, .store 41 (.tmp 9) (.tmp 63), _, _, _, _⟩) rfl 41 (.tmp 9) (.tmp 63) rfl W2.heap.size st.toArray rfl rfl 41 st0.toArray (Blk.new_of rfl rfl) (by rw [List.size_toArray, HSL.out]; kernel_rfl) HSS.out HS1.out ?_); intro w3 k3 g3 s3))
  have s2 : (W2.alloc (.cells st0.toArray 41)).heap.size = W2.heap.size + 1 := size_alloc' _ _
  have hs3 : w3.heap.size = W2.heap.size + 1 := by rw [s3]; exact s2
  have b23 : Below W2.heap.size W2 w3 := ((Below.refl _ W2).alloc (Nat.le_refl _) (.cells st0.toArray 41)).grown g3 (by rw [s2]; omega) (fun k e => by injection e with e; omega)
  have y3 : Below w.heap.size w w3 := y2.trans (b23.mono y2.size)
  have hw2s := y2.size
  have hw2t := kz2.lt
  have J3 := J2.under b23
  have kb3 := kb2.below b23 kb2.lt
  have kz3 := kz2.below b23 kz2.lt
  have D3 : Disk w3 gd (fun k => F k ∧ k < w.heap.size) D := hD.bound.under y3
  have b13 : Below w1.heap.size w1 w3 := b12.trans (b23.mono (by have := HS12.out; omega))
  have ho3 : w3.ownsRow W0.heap.size 95 3 (.slice A1 l.length c1) l.length xr := own_keep ho1 fun k e => b13.block k (World.ownsRow.lt ho1 k e).2
  have hR3 : RowR w3 xr l l.length := hR1.keep b13.size fun k hK => b13.block k hK.lt
  have T3 := hT.under y3
  have hgjw := hJ.blk.lt
  obtain ⟨gr, _, hA1, _, hgr⟩ : ∃ gr cap, (Value.slice A1 l.length c1) = .slice (some ⟨gr, 0, none⟩) l.length cap ∧ W0.heap.size ≤ gr ∧ gr < w3.heap.size := by
    rcases ho3.2 with ⟨_, h0⟩ | ⟨g', cap', cur, hv, hb, hh, _⟩
    · omega
    · exact ⟨g', cap', hv, hb, (Array.getElem?_eq_some_iff.1 hh).1⟩
  have hA1' : A1 = some ⟨gr, 0, none⟩ := by injection hA1
  subst hA1'
  have hcell := ho3.2
  rw [← HST.out] at k3
  clear hA1 c4 hst a1 J1 kb1 ho1 hR1 b1 b12 b13 b23 J2 kb2 kz2 g3 s3 s2
  generalize W2.heap.size = bs' at *
  go_wp2
  have hFn : ∀ k, (F k ∧ k < w.heap.size) ∨ k = gj → 1 + 0 < k := fun k hk => by rcases hk with hk | rfl; exact hF2 k hk.1; exact hgj2
  have hb2 : 1 + 0 < bs' := by omega
  go_loopw [67] (fun ix wr => ∃ k : Nat, k ≤ l.length ∧ ix = .int .i64 k ∧ Blk wr bs' 41 (stCells J.start (J.count + k) (tagOf J.tag ((slotsOf J l).take k))).toArray ∧ JAt wr gj gd { J with next := J.next + k } ∧
    Disk wr gd (more (fun k => F k ∧ k < w.heap.size) w3.heap.size) { D with way := D.way ++ (slotsOf J l).take k, ops := D.ops + k } ∧ OnlyBut (fun k => (F k ∧ k < w.heap.size) ∨ k = gj) bs' w3 wr) (fun ix _ => l.length - (intOf ix).toNat)
  case atStart => exact ⟨0, by omega, rfl, k3, J3, by rw [List.take_zero, List.append_nil]; exact D3.mono fun k _ hk => .inl hk, OnlyBut.refl _ _ _⟩
  case round =>
    obtain ⟨k, hk, rfl, kst, Jr, Dr, Or⟩ := hrel
    have kbr := Or.blk kb3 (by omega) (by decide)
    have kzr := Or.blk kz3 (by omega) (by decide)
    have Tr := Or.tabs T3 hFn hb2
    have hsr := Or.size
    by_cases hlt : k < l.length
    · have hpk : l[k]? = some l[k] := List.getElem?_eq_getElem hlt
      have hRr : RowR wr xr l l.length := hR3.keep hsr fun b hK => Or.u8 k3 (by decide) hK
      have hor : wr.ownsRow W0.heap.size 95 3 (.slice (some ⟨gr, 0, none⟩) l.length c1) l.length xr := own_keep ho3 fun b e => Or.block b (World.ownsRow.lt ho3 b e).2 (fun e' => by subst e'; exact absurd ((own_kind ho3 e).uniq k3.kind) (by decide)) (.inr ⟨_, own_kind ho3 e, by decide⟩)
      obtain ⟨u0, ⟨v, u1, hsl⟩, u2⟩ := hRr k _ hpk
      have hby := h160 _ (List.getElem_mem hlt)
      have hx64 := h64 _ (List.getElem_mem hlt)
      obtain ⟨A', c', hv, hcap, hrd⟩ := hsl.reads
      rw [hby] at hv hrd
      subst hv
      have hcl := World.ownsRow.cells hor (g := gr) rfl
      have q0 : wr.cell? ⟨gr, k * 3, none⟩ = some (.int .u64 (l[k].1 : Int)) := by have h := hcl _ _ u0; rw [add_head, Nat.mul_comm] at h; exact h
      have q1 : wr.cell? ⟨gr, k * 3 + 1, none⟩ = some (.slice A' 160 c') := by have h := hcl _ _ u1; rw [add_head, Nat.mul_comm 3 k] at h; exact h
      have q2 : wr.cell? ⟨gr, k * 3 + 2, none⟩ = some (.bool (decide (k + 1 = l.length))) := by have h := hcl _ _ u2; rw [add_head, Nat.mul_comm 3 k] at h; exact h
      have hsg := slotsOf_get J l k _ hpk
      have htk := take_snoc (slotsOf J l) k _ hsg
      have htl := tagOf_length J.tag ((slotsOf J l).take k) hJ.ht
      have hnF : ¬ more (fun k => F k ∧ k < w.heap.size) w3.heap.size gj := fun h => by rcases h with h | h; exact hFj h.1; omega
      generalize l[k] = p at *
      generalize decide (k + 1 = l.length) = last at *
      have hput := put_any w.heap.size gj gd bs' (more (fun k => F k ∧ k < w.heap.size) w3.heap.size) { D with way := D.way ++ (slotsOf J l).take k, ops := D.ops + k } { J with next := J.next + k } J.start (J.count + k) p.1 (tagOf J.tag ((slotsOf J l).take k)) p.2 last A' c'
        (wr.alloc (.cells #[.int .u64 (p.1 : Int), .slice A' 160 c', .bool last] 95)) (kbr.alloc _) (Jr.alloc _) (kst.alloc _) (Dr.alloc _) hnF htl hdn hlf (by simp only [List.length_append, List.length_take]; omega) (by show D.ops + k ≤ 1048576; omega) hpl
        ((hrd.alloc (Nat.le_refl _) _).more (by simp)) hx64 h1 h2 h3 (by show J.count + k ≤ J.size; omega) (by show 1 ≤ J.next + k; omega) (by show J.next + k < 9223372036854775807; omega) (Tr.alloc _) hgj2 hb2
      have eg := enters_of Tryz.func35 (by kernel_rfl) rfl
      have HTK := Lib.hid htk
      have HJr := Lib.hid Jr
      clear htk hsg htl u0 u1 u2 hcl hsl hRr hrd hpk hJ hi h160 h64 hr
      go_wp2_with (refine hput.mono ?_; rintro e w5 ⟨rfl, k5, J5, D5, O5⟩)
      go_roundw
      case rel =>
        refine ⟨k + 1, by omega, by go_num, ?_, J5, ?_, ?_⟩
        · rw [HTK.out, tagOf_snoc]
          exact k5
        · rw [HTK.out, ← List.append_assoc]
          exact D5.mono fun b hb hf => by
            rcases hf with (hf | hf) | hf
            · exact .inl hf
            · exact .inr hf
            · exact .inr (by rw [size_alloc'] at hf; omega)
        · refine (Or.under ((Below.refl _ wr).alloc (Nat.le_refl _) (.cells #[.int .u64 (p.1 : Int), .slice A' 160 c', .bool last] 95))).trans O5 fun b hb hf => ?_
          rcases hf with (hf | hf) | hf
          · exact .inl hf
          · omega
          · exact .inr hf
      case measure => simp [intOf]; omega
    · have hkk : k = l.length := by omega
      have hps : l.length ≤ k := by omega
      rw [hkk, List.take_of_length_le (by rw [slotsOf_length]; exact Nat.le_refl _)] at kst Dr
      rw [hkk] at Jr
      have hfl := stCells_length J.start (J.count + l.length) (tagOf J.tag (slotsOf J l))
      rw [tagOf_length _ _ hJ.ht] at hfl
      have hf1 := stCells_one J.start (J.count + l.length) (tagOf J.tag (slotsOf J l))
      generalize hfin : stCells J.start (J.count + l.length) (tagOf J.tag (slotsOf J l)) = fin at *
      have hss : st0.toArray.size = fin.toArray.size := by rw [List.size_toArray, List.size_toArray, hfl]; rfl
      have HFIN := Lib.hid hfin
      have HFL := Lib.hid hfl
      have HF1 := Lib.hid hf1
      have HS := Lib.hid hss
      clear hkk hk hlt hfin hfl hf1 hss
      go_wp2_with (first | ((with_reducible refine wpList_load_blk (o := ⟨some 79, _, _, _, _, _⟩) rfl 41 _ rfl bs' rfl 41 _ _ kst Tryz.underlying41 rfl (by rw [List.size_toArray, HFL.out]; kernel_rfl) ?_)) | ((with_reducible refine wpList_store_blk (o := ⟨none, .store 41 (.tmp 4) (.tmp 79), _, _, _, _⟩) rfl 41 (.tmp 4) (.tmp 79) rfl (w.heap.size + 1) fin.toArray rfl rfl 41 _ kzr (by rw [List.size_toArray, HFL.out]; kernel_rfl) HS.out HF1.out ?_); intro w6 k6 g6 s6))
      refine bodyPost_ret (results_row_tmp (fr := (0, 0)) rfl _ _ (w.heap.size + 1) 41 _ _ rfl k6 Tryz.underlying41 rfl (by rw [List.size_toArray, HFL.out]; kernel_rfl)) rfl ?_
      have hO3 : Only (fun k => (F k ∧ k < w.heap.size) ∨ k = gj) w w3 := Only.of_below y3
      have hOr := (Or.only_of hO3 (by omega)).grown_new g6 (by omega)
      refine ⟨by rw [HFIN.out]; rfl, Jr.keep (g6.block gj Jr.blk.lt (fun e => by injection e with e; omega)), ?_, hOr.mono fun b hb hf => hf.imp (fun h => h.1) id⟩
      refine (Dr.keepW g6.size fun b t hK hf => g6.block b hK.lt (fun e => ?_)).mono fun b hb hf => ?_
      · injection e with e
        subst e
        have e5 := hK.uniq kzr.kind
        subst e5
        rcases hf with ⟨_, h2, _⟩ | h1
        · exact absurd h2 (by decide)
        · exact absurd h1 (by decide)
      · rcases hf with hf | hf
        · exact .inl hf.1
        · exact .inr (by omega)
end Go.Proofs.YtkhebllmnagkmaaGreatDoor
