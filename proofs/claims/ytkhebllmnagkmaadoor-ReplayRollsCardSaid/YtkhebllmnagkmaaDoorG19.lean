/- Contracts and lemmas under the statements of this seat, one behind the other. Conditions: what each names. -/
import Derived.Test.YtkhebllmnagkmaaDoorG18
import Derived.Deep.SlicePairs
import Derived.OpenShut
import Derived.Test.YtkhebllmnagkmaaDoorRows
import Derived.LaidMore
import Derived.Stop.Joined
/- How the laws' arguments read: slices of images, and of slices of images. Conditions: what each names. -/
namespace Go.Proofs.YtkhebllmnagkmaaDoor
open Go.RowKit
set_option linter.unusedVariables false

/-- A row of changes that came in. -/
def RowAA (w : World) (xs : List Value) (ll : List (List Img)) : Prop := ∀ (i : Nat) (l : List Img), ll[i]? = some l → ∃ A c xs1, xs[i]? = some (.slice A l.length c) ∧ Reads w w.heap.size 2 A l.length xs1 ∧ RowA w xs1 l
theorem lt_of_cell {w : World} {a : Addr} {v : Value} (h : w.cell? a = some v) : a.block < w.heap.size := by
  unfold World.cell? at h
  split at h
  · rename_i hh
    exact (Array.getElem?_eq_some_iff.1 hh).1
  · cases h
section
variable {H : Type} {enc : TypeId × Value → H} {w : World}
theorem open_bytes_in {fuel : Nat} {cs : List Value} {x : DataW H × List MemPlace} (h : DataW.trod enc Tryd.prog w 0 (fun _ => true) true fuel 34 cs = some x) :
    ∃ (A : Option Addr) (b : List UInt8) (c : Nat), cs = [.slice A b.length c] ∧ b.length ≤ c ∧ Reads w w.heap.size 1 A b.length (bs b) := by
  rcases ChangeShapes.open_ints Tryd.underlying34 Tryd.underlying5 (by kernel_rfl) h with ⟨rfl, _⟩ | ⟨a, len, cap, zs, rfl, hb, hl, hm, hz, _, hcell, hwf⟩
  · exact ⟨none, [], 0, rfl, Nat.le_refl _, Reads.none_⟩
  · simp only [if_true] at hz
    have hbl : ((zs.take len).map fun z => UInt8.ofNat z.toNat).length = len := by rw [List.length_map, List.length_take]; omega
    refine ⟨some a, (zs.take len).map fun z => UInt8.ofNat z.toNat, cap, by rw [hbl], by omega, by rw [bs_length]; omega, fun hn => ?_⟩
    rw [hbl] at hn
    refine ⟨a, rfl, ?_, fun j u hu => ?_⟩
    · have := lt_of_cell (hcell 0 (by omega))
      rwa [block_of_add] at this
    · rw [bs_get, List.getElem?_map, List.getElem?_take] at hu
      split at hu
      · rename_i hj
        have hjz : j < zs.length := by omega
        rw [List.getElem?_eq_getElem hjz] at hu
        simp only [Option.map_some, Option.some.injEq] at hu
        rw [hcell j hjz, ← hu]
        have hw := bounds_u8 (hwf _ (List.getElem_mem hjz))
        simp only [List.getD_eq_getElem?_getD, List.getElem?_eq_getElem hjz, Option.getD_some]
        congr 2
        rw [UInt8.toNat_ofNat']
        omega
      · simp at hu
theorem open_image_row {fuel : Nat} {cs : List Value} {x : DataW H × List MemPlace} (h : DataW.trod enc Tryd.prog w 0 (fun _ => true) true fuel 24 cs = some x) :
    ∃ (A : Option Addr) (n c : Nat) (xs : List Value) (l : List Img), cs = [.slice A n c] ∧ Reads w w.heap.size 2 A n xs ∧ l.length = n ∧ RowA w xs l ∧ ∀ p ∈ l, p.1 < 18446744073709551616 := by
  have hu : Tryd.prog.underlying 36 = some (.struct _) := Tryd.underlying36
  rcases Deep.open_slice_pairs Tryd.underlying24 hu (by kernel_rfl) rfl rfl (by kernel_rfl) (by kernel_rfl) h with ⟨rfl, _⟩ | ⟨a, len, cap, m, fu, V0, V1, D0, D1, P0, P1, rfl, hb, hl, hm, hmm, _, hx⟩
  · exact ⟨none, 0, 0, [], [], rfl, Reads.none_, rfl, fun i p hp => (by simp at hp), fun p hp => (by cases hp)⟩
  · simp only [if_true] at hmm
    subst hmm
    have each : ∀ i, i < len → ∃ p : Img × (Option Addr × Nat), V0 i = .int .u64 (p.1.1 : Int) ∧ p.1.1 < 18446744073709551616 ∧ V1 i = .slice p.2.1 p.1.2.length p.2.2 ∧ p.1.2.length ≤ p.2.2 ∧ Reads w w.heap.size 1 p.2.1 p.1.2.length (bs p.1.2) := by
      intro i hi
      obtain ⟨_, _, h0, h1⟩ := hx i (by omega)
      obtain ⟨k, e1, _, hwf⟩ := DataW.trod_int Tryd.underlying33 h0
      obtain ⟨A, b, c, e2, hc, hr⟩ := open_bytes_in h1
      have hk := bounds_u64 hwf
      refine ⟨((k.toNat, b), (A, c)), ?_, by show k.toNat < _; omega, ?_, hc, hr⟩
      · have e : V0 i = .int .u64 k := by simpa using e1
        rw [e, show ((k.toNat : Nat) : Int) = k by omega]
      · simpa using e2
    obtain ⟨q, hq⟩ := Deep.choose_lt each
    have hcell : ∀ i, i < len → w.cell? (a.add (i * 2)) = some (.int .u64 ((q i).1.1 : Int)) ∧ w.cell? (a.add (i * 2 + 1)) = some (.slice (q i).2.1 (q i).1.2.length (q i).2.2) := fun i hi => by
      obtain ⟨h0, h1, _⟩ := hx i (by omega)
      obtain ⟨e0, _, e1, _⟩ := hq i hi
      exact ⟨by rw [h0, e0], by rw [h1, e1]⟩
    have hget : ∀ n, n ≤ len → ∀ i, i < n → (((List.range n).map fun i => [Value.int .u64 ((q i).1.1 : Int), .slice (q i).2.1 (q i).1.2.length (q i).2.2]).flatten)[2 * i]? = some (.int .u64 ((q i).1.1 : Int)) ∧ (((List.range n).map fun i => [Value.int .u64 ((q i).1.1 : Int), .slice (q i).2.1 (q i).1.2.length (q i).2.2]).flatten)[2 * i + 1]? = some (.slice (q i).2.1 (q i).1.2.length (q i).2.2) := by
      intro n hn i hi
      have h := encs_get ((List.range n).map fun i => ((q i).1.1, ((q i).2.1, (q i).1.2.length, (q i).2.2))) i ((q i).1.1, ((q i).2.1, (q i).1.2.length, (q i).2.2)) (by simp [hi])
      have e : encs ((List.range n).map fun i => ((q i).1.1, ((q i).2.1, (q i).1.2.length, (q i).2.2))) = (((List.range n).map fun i => [Value.int .u64 ((q i).1.1 : Int), .slice (q i).2.1 (q i).1.2.length (q i).2.2]).flatten) := by unfold encs; rw [List.map_map]; rfl
      rw [e] at h
      exact h
    have hlen : (((List.range len).map fun i => [Value.int .u64 ((q i).1.1 : Int), .slice (q i).2.1 (q i).1.2.length (q i).2.2]).flatten).length = len * 2 := by
      have h := encs_length ((List.range len).map fun i => ((q i).1.1, ((q i).2.1, (q i).1.2.length, (q i).2.2)))
      have e : encs ((List.range len).map fun i => ((q i).1.1, ((q i).2.1, (q i).1.2.length, (q i).2.2))) = (((List.range len).map fun i => [Value.int .u64 ((q i).1.1 : Int), .slice (q i).2.1 (q i).1.2.length (q i).2.2]).flatten) := by unfold encs; rw [List.map_map]; rfl
      rw [e] at h
      simpa using h
    refine ⟨some a, len, _, _, (List.range len).map fun i => (q i).1, rfl, ⟨hlen, fun hn => ⟨a, rfl, ?_, fun j u hu => ?_⟩⟩, by simp, fun i p hp => ?_, fun p hp => ?_⟩
    · have := lt_of_cell (hcell 0 hn).1
      rwa [block_of_add] at this
    · have hj : j < len * 2 := by rw [← hlen]; exact (List.getElem?_eq_some_iff.1 hu).1
      obtain ⟨g0, g1⟩ := hget len (Nat.le_refl _) (j / 2) (by omega)
      obtain ⟨c0, c1⟩ := hcell (j / 2) (by omega)
      rcases Nat.mod_two_eq_zero_or_one j with hm2 | hm2
      · have e : j = 2 * (j / 2) := by omega
        rw [e] at hu
        rw [g0] at hu
        rw [show a.add j = a.add (j / 2 * 2) by rw [show j / 2 * 2 = j by omega], c0, hu]
      · have e : j = 2 * (j / 2) + 1 := by omega
        rw [e] at hu
        rw [g1] at hu
        rw [show a.add j = a.add (j / 2 * 2 + 1) by rw [show j / 2 * 2 + 1 = j by omega], c1, hu]
    · have hi : i < len := by have := (List.getElem?_eq_some_iff.1 hp).1; simpa using this
      have e : p = (q i).1 := by simp [hi] at hp; exact hp.symm
      subst e
      obtain ⟨g0, g1⟩ := hget len (Nat.le_refl _) i hi
      obtain ⟨_, _, _, e2, e3⟩ := hq i hi
      exact ⟨g0, _, _, g1, e2, e3⟩
    · obtain ⟨i, hi, e⟩ := List.mem_map.1 hp
      subst e
      exact (hq i (List.mem_range.1 hi)).2.1
theorem open_changes_in {fuel : Nat} {cs : List Value} {x : DataW H × List MemPlace} (h : DataW.trod enc Tryd.prog w 0 (fun _ => true) true fuel 22 cs = some x) :
    ∃ (A : Option Addr) (n c : Nat) (xs : List Value) (ll : List (List Img)), cs = [.slice A n c] ∧ Reads w w.heap.size 1 A n xs ∧ ll.length = n ∧ RowAA w xs ll ∧ (∀ l ∈ ll, ∀ p ∈ l, p.1 < 18446744073709551616) ∧ n ≤ 9223372036854775807 := by
  rcases Deep.open_slice1 Tryd.underlying22 (by kernel_rfl) h with ⟨rfl, _⟩ | ⟨a, len, cap, m, fu, V, D, Pl, rfl, hb, hl, hm, hmm, _, hx⟩
  · exact ⟨none, 0, 0, [], [], rfl, Reads.none_, rfl, fun i p hp => (by simp at hp), fun p hp => (by cases hp), by omega⟩
  · simp only [if_true] at hmm
    subst hmm
    have each : ∀ i, i < len → ∃ p : List Img × (Option Addr × Nat × List Value), V i = .slice p.2.1 p.1.length p.2.2.1 ∧ Reads w w.heap.size 2 p.2.1 p.1.length p.2.2.2 ∧ RowA w p.2.2.2 p.1 ∧ ∀ r ∈ p.1, r.1 < 18446744073709551616 := by
      intro i hi
      obtain ⟨_, h1⟩ := hx i (by omega)
      obtain ⟨A, n, c, xs, l, e, hr, hln, hR, h64⟩ := open_image_row h1
      subst hln
      exact ⟨(l, (A, c, xs)), by simpa using e, hr, hR, h64⟩
    obtain ⟨q, hq⟩ := Deep.choose_lt each
    refine ⟨some a, len, _, (List.range len).map V, (List.range len).map fun i => (q i).1, rfl, ⟨by simp, fun hn => ⟨a, rfl, ?_, fun j u hu => ?_⟩⟩, by simp, fun i l hli => ?_, fun l hl' => ?_, by unfold maxLen at hm; omega⟩
    · have := lt_of_cell (hx 0 (by omega)).1
      rwa [block_of_add] at this
    · have hj : j < len := by have := (List.getElem?_eq_some_iff.1 hu).1; simpa using this
      simp [hj] at hu
      rw [← hu]
      exact (hx j (by omega)).1
    · have hi : i < len := by have := (List.getElem?_eq_some_iff.1 hli).1; simpa using this
      have e : l = (q i).1 := by simp [hi] at hli; exact hli.symm
      subst e
      obtain ⟨e1, e2, e3, _⟩ := hq i hi
      exact ⟨(q i).2.1, (q i).2.2.1, (q i).2.2.2, by simp [hi, e1], e2, e3⟩
    · obtain ⟨i, hi, e⟩ := List.mem_map.1 hl'
      subst e
      exact (hq i (List.mem_range.1 hi)).2.2.2
end
end Go.Proofs.YtkhebllmnagkmaaDoor
/- The law ReplayLatest, walked: it returns true. Conditions: the arguments read as changes, the tables lie in memory. -/
namespace Go.Proofs.YtkhebllmnagkmaaDoor
open Go.RowKit
set_option linter.unusedVariables false

/-- A row of rows of images of the call's own. -/
def RowCO (w : World) (base : Nat) (ys : List Value) (ll : List (List Img)) : Prop := ∀ (i : Nat) (l : List Img), ll[i]? = some l → ∃ A c ys1, ys[i]? = some (.slice A l.length c) ∧ w.ownsRow base 36 2 (.slice A l.length c) l.length ys1 ∧ RowIO w base ys1 l
theorem own_isIm {w : World} {base c : Nat} {A : Option Addr} {ys : List Value} {l : List Img} (h : w.ownsRow base 36 2 (.slice A l.length c) l.length ys) (hR : RowI w ys l) : IsIm w (.slice A l.length c) l :=
  ⟨A, c, ys, rfl, own_cap' h, Reads.of_own h, hR, fun ad e => by
    rcases h.2 with ⟨hv, _⟩ | ⟨g, cap, cur, hv, _, hh, _⟩
    · injection hv with hv; rw [hv] at e; cases e
    · injection hv with hv; rw [hv] at e; injection e with e; subst e; exact ⟨⟨cur, _, hh⟩, rfl⟩⟩
theorem RowCO.rowC {w : World} {base : Nat} {ys : List Value} {ll : List (List Img)} (h : RowCO w base ys ll) : RowC w ys ll := fun i l hl => by
  obtain ⟨A, c, ys1, h1, h2, h3⟩ := h i l hl
  exact ⟨_, h1, own_isIm h2 h3.rowI⟩
theorem RowCO.keep {w w' : World} {base : Nat} {ys : List Value} {ll : List (List Img)} (h : RowCO w base ys ll) (h8 : ∀ k, Kind w k 5 → w'.heap[k]? = w.heap[k]?) (hI : ∀ k, Kind w k 36 → w'.heap[k]? = w.heap[k]?) : RowCO w' base ys ll := fun i l hl => by
  obtain ⟨A, c, ys1, h1, h2, h3⟩ := h i l hl
  exact ⟨A, c, ys1, h1, own_keep h2 fun k e => hI k (own_kind h2 e), h3.keep h8⟩
theorem RowCO.snoc {w : World} {base : Nat} {ys : List Value} {ll : List (List Img)} {l : List Img} {A : Option Addr} {c : Nat} {ys1 : List Value} (h : RowCO w base ys ll) (hl : ys.length = ll.length) (hv : w.ownsRow base 36 2 (.slice A l.length c) l.length ys1) (hR : RowIO w base ys1 l) : RowCO w base (ys ++ [.slice A l.length c]) (ll ++ [l]) := by
  intro j p hp
  rw [List.getElem?_append] at hp
  split at hp
  · obtain ⟨A', c', y', h1, h2, h3⟩ := h j p hp
    exact ⟨A', c', y', by rw [List.getElem?_append_left (by omega)]; exact h1, h2, h3⟩
  · have hi : j = ll.length := by
      rcases Nat.lt_or_ge (j - ll.length) 1 with h1 | h1
      · omega
      · rw [List.getElem?_eq_none (by simp; omega)] at hp; cases hp
    subst hi
    rw [Nat.sub_self] at hp
    cases hp
    exact ⟨A, c, ys1, by rw [← hl, List.getElem?_append_right (Nat.le_refl _), Nat.sub_self]; rfl, hv, hR⟩
def padAll (ll : List (List Img)) : List (List Img) := ll.map (·.map imgPad)
theorem own_spot {W : World} {base n c : Nat} {A : Option Addr} {e : TypeId} {sz : Nat} {zs : List Value} (h : W.ownsRow base e sz (.slice A n c) n zs) : ∀ ad, A = some ad → ad.spot = none := fun ad e' => by
  rcases h.2 with ⟨hv, _⟩ | ⟨g, cap, cur, hv, _⟩
  · injection hv with hv; rw [hv] at e'; cases e'
  · injection hv with hv; rw [hv] at e'; injection e' with e'; subst e'; rfl
theorem flatten_le (ll : List (List Img)) (m : Nat) (h : ∀ l ∈ ll, l.length ≤ m) : ll.flatten.length ≤ ll.length * m := by
  induction ll with
  | nil => simp
  | cons l ll ih =>
    rw [List.flatten_cons, List.length_append, List.length_cons, Nat.add_mul, Nat.one_mul]
    have h1 := h l List.mem_cons_self
    have h2 := ih fun l' hl' => h l' (List.mem_cons_of_mem _ hl')
    omega
theorem padAll_mem {ll : List (List Img)} {p : Img} (h : p ∈ (padAll ll).flatten) : ∃ l ∈ ll, ∃ q ∈ l, p = imgPad q := by
  obtain ⟨l', hl', hp⟩ := List.mem_flatten.1 h
  obtain ⟨l, hl, rfl⟩ := List.mem_map.1 hl'
  obtain ⟨q, hq, rfl⟩ := List.mem_map.1 hp
  exact ⟨l, hl, q, hq, rfl⟩
/-- The first byte of each image's bytes may be read and written. -/
def BytesOK (w : World) (B : Nat) (ys : List Value) (m : Nat) : Prop := ∀ i, i < m → ∃ g cap, ys[2 * i + 1]? = some (.slice (some ⟨g, 0, none⟩) 160 cap) ∧ B ≤ g ∧ Kind w g 5 ∧ w.frozen? ⟨g, 0, none⟩ = false ∧ ∃ u : UInt8, w.cell? ⟨g, 0, none⟩ = some (.int .u8 (u.toNat : Int))
theorem bytesOK_of {w : World} {B : Nat} {ys : List Value} {l : List Img} (h : RowIO w B ys l) (h160 : ∀ p ∈ l, p.2.length = 160) : BytesOK w B ys l.length := by
  intro i hi
  have hp : l[i]? = some l[i] := List.getElem?_eq_getElem hi
  have hlen := h160 _ (List.getElem_mem hi)
  obtain ⟨_, v, h1, h2⟩ := h i _ hp
  obtain ⟨g, cap, rfl, hb, hlt, hc⟩ := h2.form (by omega)
  rw [hlen] at h1
  have hr := h2.reads
  rw [hlen] at hr
  obtain ⟨ad, e, _, hcell⟩ := hr.2 (by omega)
  injection e with e
  subst e
  have h0 : (bs l[i].2)[0]? = some (.int .u8 ((l[i].2[0]'(by omega)).toNat : Int)) := by rw [bs_get, List.getElem?_eq_getElem (by omega)]; rfl
  refine ⟨g, cap, h1, hb, own_kind h2 rfl, ?_, _, hcell 0 _ h0⟩
  obtain ⟨cs, fr, hh⟩ := own_kind h2 rfl
  rcases h2.2 with ⟨hv, _⟩ | ⟨g', cap', cur, hv, _, hh', _⟩
  · cases hv
  · injection hv with hv
    injection hv with hv
    injection hv with hv
    subst hv
    exact (show Blk w g 5 cur from hh').frozen 0
theorem BytesOK.keep {w w' : World} {B : Nat} {ys : List Value} {m : Nat} (h : BytesOK w B ys m) (hk : ∀ k, Kind w k 5 → w'.heap[k]? = w.heap[k]?) : BytesOK w' B ys m := fun i hi => by
  obtain ⟨g, cap, h1, h2, h3, h4, u, h5⟩ := h i hi
  exact ⟨g, cap, h1, h2, h3.same (hk g h3), (by have e := hk g h3; simp only [World.frozen?] at h4 ⊢; rw [e]; exact h4), u, (World.cell?_of_block (hk g h3)).trans h5⟩
theorem kind_setCell {w : World} {g : Nat} {t : TypeId} (h : Kind w g t) (b o : Nat) (u : Value) : Kind (w.setCell ⟨b, o, none⟩ u) g t := by
  obtain ⟨cs, fr, hh⟩ := h
  by_cases hg : g = b
  · subst hg
    refine ⟨cs.setIfInBounds o u, fr, ?_⟩
    simp [World.setCell, Array.getElem?_modify, hh]
  · exact ⟨cs, fr, (Below.heap_setCell w ⟨b, o, none⟩ u g hg).trans hh⟩
theorem BytesOK.set_ {w : World} {B : Nat} {ys : List Value} {m g : Nat} (h : BytesOK w B ys m) (u : UInt8) : BytesOK (w.setCell ⟨g, 0, none⟩ (.int .u8 (u.toNat : Int))) B ys m := fun i hi => by
  obtain ⟨g', cap, h1, h2, h3, h4, v, h5⟩ := h i hi
  refine ⟨g', cap, h1, h2, kind_setCell h3 _ _ _, (World.frozen?_setCell _ _ _ _).trans h4, ?_⟩
  by_cases hg : g' = g
  · subst hg
    exact ⟨u, World.cell?_setCell_same w _ _ h5⟩
  · exact ⟨v, (World.cell?_setCell_other w _ _ _ (fun e => hg (by injection e with e; exact e.symm))).trans h5⟩
set_option maxRecDepth 100000 in
set_option maxHeartbeats 8000000 in
theorem replayLatest_any (A : Option Addr) (n c : Nat) (xs : List Value) (ll : List (List Img)) (w : World) (hr : Reads w w.heap.size 1 A n xs) (hl : ll.length = n) (hi : RowAA w xs ll) (h64 : ∀ l ∈ ll, ∀ p ∈ l, p.1 < 18446744073709551616) (hn : n ≤ 9223372036854775807) (hT : Tabs w) :
    Calls Tryd.prog 3 #[.slice A n c] w fun e w' => e = .returned (.bool true) ∧ Below w.heap.size w w' := by
  have haw := awake_any w hT
  by_cases h10 : 10 < n
  · have d1 : (10 : Int) < (n : Int) := by omega
    go_enter Tryd.func3, Tryd.ntmps3
    go_wp2_with (first | (go_at_call 7; refine haw.mono ?_; rintro e w1 ⟨rfl, b1⟩))
    go_ret
    exact ⟨rfl, b1⟩
  · have d1 : ¬ (10 : Int) < (n : Int) := by omega
    have d2 : n ≤ 10 := by omega
    obtain ⟨i1, ii1, hy0, hy1, hy2⟩ := info_parts info24
    clear h10
    go_enter Tryd.func3, Tryd.ntmps3
    go_wp2_with (first | (go_at_call 7; refine haw.mono ?_; rintro e w1 ⟨rfl, b1⟩))
    go_loopw [4, 5] (fun vo ix wr => ∃ (k : Nat) (A' : Option Addr) (c' : Nat) (ys : List Value), k ≤ n ∧ ix = .int .i64 k ∧ vo = .slice A' k c' ∧ wr.ownsRow w.heap.size 24 1 (.slice A' k c') k ys ∧ RowCO wr w.heap.size ys (padAll (ll.take k)) ∧ (∀ l ∈ ll.take k, l.length ≤ 10) ∧ Below w.heap.size w wr) (fun _ ix _ => n - (intOf ix).toNat)
    case atStart => exact ⟨0, none, 0, [], by omega, rfl, rfl, World.ownsRow_nil _ _ _ _, fun i p hp => by simp [padAll] at hp, fun l hl => by simp at hl, b1⟩
    case round =>
      obtain ⟨k, A', c', ys, hk, rfl, rfl, hor, hR, h10, hw⟩ := hrel
      by_cases hlt : k < n
      · have hpk : ll[k]? = some (ll[k]'(by omega)) := List.getElem?_eq_getElem (by omega)
        obtain ⟨A1, c1, xs1, u0, hr1, hR1⟩ := hi k _ hpk
        have hsp := hr.spot (by omega) (by omega)
        obtain ⟨ad, rfl, hadb, hcell⟩ := hr.2 (by omega)
        obtain ⟨g, o, sp⟩ := ad
        have hsp := hsp _ rfl
        simp only at hsp hadb
        subst hsp
        have d0 := hcell _ _ u0
        rw [Addr.add_mid] at d0
        have htk := take_snoc ll k _ hpk
        have q0 : wr.cell? ⟨g, o + k, none⟩ = some (.slice A1 (ll[k]'(by omega)).length c1) := (hw.cell (p := ⟨g, o + k, none⟩) hadb).trans d0
        generalize ll[k]'(by omega) = l at *
        have HTK := Lib.hid htk
        have hwr := hw.size
        clear hcell u0 hpk htk d0
        by_cases hl10 : 10 < l.length
        · have e1 : (10 : Int) < (l.length : Int) := by omega
          go_wp2
          go_ret
          exact ⟨rfl, hw⟩
        · have e1 : ¬ (10 : Int) < (l.length : Int) := by omega
          have hl10' : l.length ≤ 10 := by omega
          have hRw : RowA wr xs1 l := fun i p hp => by
            obtain ⟨h0, A2, c2, h1, h2, h3⟩ := hR1 i p hp
            exact ⟨h0, A2, c2, h1, h2, (h3.below hw).more hwr⟩
          have him := images_any A1 l.length c1 xs1 l wr ((hr1.below hw).more hwr) rfl hRw (by omega)
          have hbnd : ∀ bk, (Value.slice A' k c').ownBlock = some bk → w.heap.size ≤ bk ∧ bk < wr.heap.size := World.ownsRow.lt hor
          have hone : ∀ (A : Option Addr) (m c : Nat), ∀ u ∈ [Value.slice A m c], u.oneCell' = true := by intro A m c u hu; simp only [List.mem_cons, List.not_mem_nil, or_false] at hu; rcases hu with rfl; rfl
          have hm1 : k + 1 ≤ maxLen := by unfold maxLen; omega
          have hm2 : (k + 1) * 24 ≤ 140737488355328 := by omega
          clear hl10 hr1 hR1 hRw
          go_wp2_with (first | (go_at_call 8; refine him.mono ?_; rintro e w3 ⟨A3, c3, ys3, rfl, ho3, hR3, b3⟩; have hs3 := b3.size; have hor3 : w3.ownsRow w.heap.size 24 1 (.slice A' k c') k ys := (own_keep hor (fun bk e => b3.block bk (hbnd bk e).2)); have hnews := Blk.rows (xs := [Value.slice A3 l.length c3]) 1 1 (Blk.new w3 24 #[Value.slice A3 l.length c3]) rfl; have hbase : w.heap.size ≤ (w3.alloc (.cells #[Value.slice A3 l.length c3] 24)).heap.size := (by rw [size_alloc']; omega)) | (at_builtin; refine wpList_append_any _ rfl (.tmp 27) (.tmp 33) 22 rfl w.heap.size 24 i1 _ 1 24 Tryd.underlying22 ii1 hy0 hy1 hy2 rfl (by omega) (.slice A' k c') k ys rfl (World.ownsRow.alloc hor3 _) _ (some ⟨w3.heap.size, 0, none⟩) 1 1 [_] rfl hnews (hone _ _ _) hm1 hm2 hbase ?_; intro v5 w5 hown5 hg5 hat5; obtain ⟨A5, cc5, rfl⟩ := own_shape hown5))
          go_roundw
          case rel =>
            have k5 : ∀ (bk : Nat) (t : TypeId), Kind w3 bk t → t ≠ 24 → w5.heap[bk]? = w3.heap[bk]? := fun bk t hK hne => (hg5.block bk (by rw [size_alloc']; have := hK.lt; omega) (fun e => hne (hK.uniq (own_kind hor3 e.symm)))).trans (Below.heap_alloc _ _ bk hK.lt)
            have hR5 : RowCO w5 w.heap.size (ys ++ [.slice A3 l.length c3]) (padAll (ll.take (k + 1))) := by
              rw [HTK.out]
              have e : padAll (ll.take k ++ [l]) = padAll (ll.take k) ++ [l.map imgPad] := by unfold padAll; simp
              rw [e]
              have hlen : (l.map imgPad).length = l.length := List.length_map _
              have h := ((hR.keep (fun bk hK => b3.block bk hK.lt) (fun bk hK => b3.block bk hK.lt)).keep (w' := w5) (fun bk hK => k5 bk _ hK (by decide)) (fun bk hK => k5 bk _ hK (by decide))).snoc (l := l.map imgPad) (A := A3) (c := c3) (ys1 := ys3) (by rw [hor.1, padAll, List.length_map, List.length_take]; omega)
                (by rw [hlen]; exact ownsRow_lower (own_keep ho3 fun bk e => k5 bk _ (own_kind ho3 e) (by decide)) hwr) ((hR3.keep fun bk hK => k5 bk _ hK (by decide)).lower hwr)
              rw [hlen] at h
              exact h
            refine ⟨k + 1, A5, cc5, _, by omega, by go_num, rfl, hown5, hR5, fun l' hl' => ?_, ((hw.trans (b3.mono hwr)).alloc (by omega) _).grown hg5 hbase (fun bk e => (hbnd bk e).1)⟩
            rw [HTK.out] at hl'
            rcases List.mem_append.1 hl' with hl' | hl'
            · exact h10 l' hl'
            · simp only [List.mem_singleton] at hl'
              subst hl'
              exact hl10'
          case measure => simp [intOf]; omega
      · have hkk : k = n := by omega
        rw [List.take_of_length_le (by omega)] at hR h10
        clear hlt hk
        subst hkk
        have hLL : (padAll ll).length = k := by unfold padAll; rw [List.length_map]; exact hl
        have hlen10 : ∀ l ∈ padAll ll, l.length ≤ 10 := fun l hl' => by
          obtain ⟨l0, hl0, rfl⟩ := List.mem_map.1 hl'
          rw [List.length_map]
          exact h10 l0 hl0
        have hfl : (padAll ll).flatten.length ≤ 100 := by
          have h := flatten_le (padAll ll) 10 hlen10
          rw [hLL] at h
          omega
        have hp : ∀ p ∈ (padAll ll).flatten, p.1 < 18446744073709551616 ∧ p.2.length = 160 := fun p hp' => by
          obtain ⟨l0, hl0, q, hq, rfl⟩ := padAll_mem hp'
          exact ⟨h64 l0 hl0 q hq, padB_length _ _⟩
        have hp2 : ∀ p ∈ (padAll ll).flatten, p.1 < 18446744073709551616 ∧ p.2.length ≤ 1048576 := fun p hp' => ⟨(hp p hp').1, by rw [(hp p hp').2]; omega⟩
        have hL160 : ∀ p ∈ latest (padAll ll).flatten, p.2.length = 160 := fun p hp' => (hp _ (lastOf_mem ((latest_iff _ p).1 hp'))).2
        have hLm := latest_len (padAll ll).flatten
        have hd1 : decide (k < k) = false := decide_eq_false (by omega)
        clear hi hr h10 hp h64
        have hwr := hw.size
        generalize hFL : (padAll ll).flatten = fl at *
        generalize hLAT : latest fl = L at *
        have hal := allOf_any A' k c' ys (padAll ll) wr (Reads.of_own hor) (own_spot hor) hLL hR.rowC (by omega) (fun l hl' => Nat.le_trans (hlen10 l hl') (by omega))
        have HFL := Lib.hid hFL
        have HLAT := Lib.hid hLAT
        have HLL := Lib.hid hLL
        clear hFL hLAT hLL
        go_wp2_with (first | (go_at_call 10; refine hal.mono ?_; rintro e w2 ⟨A2, c2, ys2, rfl, ho2, hM2, b2⟩; have hrl := refLatest_any A2 k c2 wr.heap.size wr.heap.size ys2 (padAll ll) w2 HLL.out ho2 hM2 (by omega) (by rw [HFL.out]; omega); have hs2 := b2.size; have hor2 := own_keep hor (fun bk e => b2.block bk (World.ownsRow.lt hor bk e).2); have hR2 := hR.keep (fun bk hK => b2.block bk hK.lt) (fun bk hK => b2.block bk hK.lt); rw [HFL.out, HLAT.out] at hrl; clear hal ho2 hM2) | (go_at_call 9; refine hrl.mono ?_; rintro e w3 ⟨A3, c3, rfl, ho3, b3⟩; have hs3 := b3.size; have hor3 := own_keep hor2 (fun bk e => b3.block bk (World.ownsRow.lt hor2 bk e).2); have hR3 := hR2.keep (fun bk hK => b3.block bk hK.lt) (fun bk hK => b3.block bk hK.lt); have hlt3 := latest_any A' k c' ys (padAll ll) w3 (Reads.of_own hor3) (own_spot hor3) HLL.out hR3.rowC (by omega) (by rw [HFL.out]; omega) (by rw [HFL.out]; exact hp2); rw [HFL.out, HLAT.out] at hlt3; clear hrl hor2 hR2) | (go_at_call 11; refine hlt3.mono ?_; rintro e w4 ⟨A4, c4, ys4, rfl, ho4, hR4, b4⟩; have hs4 := b4.size; have hmo := modelOf_any A4 L.length c4 ys4 L w4 (Reads.of_own ho4) (own_spot ho4) rfl hR4.rowI (by omega); clear hlt3) | (go_at_call 13; refine hmo.mono ?_; rintro e w5 ⟨A5, c5, rfl, ho5, b5⟩; have hs5 := b5.size; have ho35 := own_keep (own_keep ho3 (fun bk e => b4.block bk (World.ownsRow.lt ho3 bk e).2)) (fun bk e => b5.block bk (by have := (World.ownsRow.lt ho3 bk e).2; omega)); have hsm := same_yes A5 A3 L.length c5 c3 _ _ L w5 ho5 ho35 (by omega); clear hmo) | (go_at_call 12; refine hsm.mono ?_; rintro e w6 ⟨rfl, q6, rfl⟩; clear hsm))
        obtain ⟨W6, hW6⟩ : ∃ W6 : World, W6 = w5.drewN q6 := ⟨_, rfl⟩
        rw [← hW6]
        have b56 : Below w5.heap.size w5 W6 := by rw [hW6]; exact below_drewN (Below.refl _ _) q6
        have hs6 : w5.heap.size ≤ W6.heap.size := b56.size
        have b36 : Below w3.heap.size w3 W6 := b4.trans ((b5.trans (b56.mono hs5)).mono hs4)
        have y6 : Below w.heap.size w W6 := hw.trans ((b2.trans ((b3.trans (b36.mono hs3)).mono hs2)).mono hwr)
        have hx6 : W6.ownsRow w3.heap.size 36 2 (.slice A4 L.length c4) L.length ys4 := own_keep (own_keep ho4 (fun bk e => b5.block bk (World.ownsRow.lt ho4 bk e).2)) (fun bk e => b56.block bk (by have := (World.ownsRow.lt ho4 bk e).2; omega))
        have hB6 : BytesOK W6 w3.heap.size ys4 L.length := (bytesOK_of ((hR4.keep fun bk hK => b5.block bk hK.lt)) hL160).keep fun bk hK => b56.block bk hK.lt
        have HW6 := Lib.hid hW6
        clear hW6 ho4 hR4 b4 b5 ho5 ho35 b56 hR
        go_loopw [8] (fun ix wr => ∃ j : Nat, j ≤ L.length ∧ ix = .int .i64 j ∧ Below w3.heap.size w3 wr ∧ wr.ownsRow w3.heap.size 36 2 (.slice A4 L.length c4) L.length ys4 ∧ BytesOK wr w3.heap.size ys4 L.length) (fun ix _ => L.length - (intOf ix).toNat)
        case atStart => exact ⟨0, by omega, rfl, b36, hx6, hB6⟩
        case round =>
          clear b36 hx6 hB6
          obtain ⟨j, hj, rfl, b3r, hxr, hBr⟩ := hrel
          by_cases hlt : j < L.length
          · obtain ⟨g, cap, e1, hgB, hgK, hgf, u, hgu⟩ := hBr j hlt
            obtain ⟨gx, cx, hvx, _, hxl⟩ := hxr.form (by omega)
            injection hvx with hA4 _ hc4
            subst hA4
            have hcx := World.ownsRow.cells hxr (g := gx) rfl _ _ e1
            rw [add_head] at hcx
            have q1 : wr.cell? ⟨gx, j * 2 + 1, none⟩ = some (.slice (some ⟨g, 0, none⟩) 160 cap) := by rw [Nat.mul_comm]; exact hcx
            have hxor : bits .xor .u8 (u.toNat : Int) 255 = ((u ^^^ 255).toNat : Int) := xor_u8 u 255
            have hB' := hBr.set_ (g := g) (u ^^^ 255)
            have hne : ∀ bk, (Value.slice (some ⟨gx, 0, none⟩) L.length c4).ownBlock = some bk → (wr.setCell ⟨g, 0, none⟩ (.int .u8 ((u ^^^ 255).toNat : Int))).heap[bk]? = wr.heap[bk]? := fun bk e => Below.heap_setCell _ _ _ _ (fun e2 => by
              have e2 : bk = g := e2
              subst e2
              exact absurd (hgK.uniq (own_kind hxr e)) (by decide))
            have hx' := own_keep hxr hne
            have b' := b3r.setCell (p := ⟨g, 0, none⟩) hgB (.int .u8 ((u ^^^ 255).toNat : Int))
            clear hne hcx e1
            have ex : ((u ^^^ 255).toNat : Nat) = u.toNat ^^^ 255 := by simp
            rw [ex] at hB' hx' b'
            have EX := Lib.hid ex
            clear ex
            go_wp2
            exact ⟨⟨j + 1, by omega, by go_num, b', hx', hB'⟩, by simp [intOf]; omega⟩
          · have hps : L.length ≤ j := by omega
            have hb3 := b3r.size
            have yr : Below w.heap.size w wr := hw.trans ((b2.trans ((b3.trans (b3r.mono hs3)).mono hs2)).mono hwr)
            have horr := own_keep hor3 (fun bk e => b3r.block bk (World.ownsRow.lt hor3 bk e).2)
            have hRr := hR3.keep (fun bk hK => b3r.block bk hK.lt) (fun bk hK => b3r.block bk hK.lt)
            have hor' := own_keep ho3 (fun bk e => b3r.block bk (World.ownsRow.lt ho3 bk e).2)
            have hlt3 := latest_any A' k c' ys (padAll ll) wr (Reads.of_own horr) (own_spot horr) HLL.out hRr.rowC (by omega) (by rw [HFL.out]; omega) (by rw [HFL.out]; exact hp2)
            rw [HFL.out, HLAT.out] at hlt3
            have hyr := yr.size
            clear hxr hBr
            go_wp2_with (first | (go_at_call 11; refine hlt3.mono ?_; rintro e w7 ⟨A7, c7, ys7, rfl, ho7, hR7, b7⟩; have hs7 := b7.size; have hmo := modelOf_any A7 L.length c7 ys7 L w7 (Reads.of_own ho7) (own_spot ho7) rfl hR7.rowI (by omega); clear hlt3) | (go_at_call 13; refine hmo.mono ?_; rintro e w8 ⟨A8, c8, rfl, ho8, b8⟩; have hs8 := b8.size; have ho38 := own_keep (own_keep hor' (fun bk e => b7.block bk (World.ownsRow.lt hor' bk e).2)) (fun bk e => b8.block bk (by have := (World.ownsRow.lt hor' bk e).2; omega)); have hsm := same_yes A8 A3 L.length c8 c3 _ _ L w8 ho8 ho38 (by omega); clear hmo) | (go_at_call 12; refine hsm.mono ?_; rintro e w9 ⟨rfl, q9, rfl⟩; clear hsm))
            go_ret
            exact ⟨rfl, yr.trans ((b7.trans ((below_drewN b8 q9).mono hs7)).mono hyr)⟩
end Go.Proofs.YtkhebllmnagkmaaDoor
/- The listed tables, read as the row lists them, lie in memory as the walks ask. No other condition. -/
namespace Go.Proofs.YtkhebllmnagkmaaDoor
open Go.RowKit
set_option linter.unusedVariables false

section
variable {H : Type} {enc : TypeId × Value → H} {P : Program} {w : World} {base : Nat} {spare : Nat → Bool} {held : Bool} {fuel : Nat} {t : TypeId} {cs : List Value} {x : DataW H × List MemPlace}
/-- An array of integers reads as its cells. -/
theorem open_arr_ints {n : Nat} {e : TypeId} {k : IntKind} (ht : P.underlying t = some (.array n e)) (he : P.underlying e = some (.int k)) (ce : P.cellsOf e = 1) (ct : P.cellsOf t = n) (h : DataW.trod enc P w base spare held fuel t cs = some x) :
    ∃ zs : List Int, zs.length = n ∧ x.1 = .agg (zs.map fun z => .lit (.int k z)) ∧ cs = zs.map (Value.int k) ∧ ∀ z ∈ zs, (Lit.int k z).wf = true := by
  obtain ⟨xs, m, _, hx, hlen, hn, hel⟩ := DataW.trod_array ht h
  rw [ct] at hlen
  have each : ∀ i, i < n → ∃ z : Int, cs[i]? = some (.int k z) ∧ (xs[i]?).map (·.1) = some (.lit (.int k z)) ∧ (Lit.int k z).wf = true := by
    intro i hi
    have hd := hel i hi
    have hxi : xs[i]? = some (xs[i]'(by omega)) := List.getElem?_eq_getElem (by omega)
    rw [hxi] at hd
    obtain ⟨z, e1, e2, hwf⟩ := DataW.trod_int he hd
    rw [ce, Nat.mul_one] at e1
    have hci : cs[i]? = some (.int k z) := by
      have := congrArg (·[0]?) e1
      simpa [List.getElem?_take, List.getElem?_drop] using this
    exact ⟨z, hci, by rw [hxi, Option.map_some, e2], hwf⟩
  obtain ⟨f, hf⟩ := Deep.choose_lt each
  refine ⟨(List.range n).map f, by simp, ?_, ?_, fun z hz => ?_⟩
  · rw [hx]
    show DataW.agg _ = _
    congr 1
    refine List.ext_getElem? fun i => ?_
    by_cases hi : i < n
    · rw [List.getElem?_map, (hf i hi).2.1]
      simp [hi]
    · rw [List.getElem?_eq_none (by simp; omega), List.getElem?_eq_none (by simp; omega)]
  · refine List.ext_getElem? fun i => ?_
    by_cases hi : i < n
    · rw [(hf i hi).1]
      simp [hi]
    · rw [List.getElem?_eq_none (by omega), List.getElem?_eq_none (by simp; omega)]
  · obtain ⟨i, hi, rfl⟩ := List.mem_map.1 hz
    exact (hf i (List.mem_range.1 hi)).2.2
end
def laid2 : List (String × DataW Unit) := [("reliquary/cipher.quarters", Rows.laid_reliquary_cipher_quarters), ("reliquary/digest.k", Rows.laid_reliquary_digest_k)]
theorem gQuarters : Tryd.prog.globalNamed "reliquary/cipher.quarters" = some 0 := by kernel_rfl
theorem gK : Tryd.prog.globalNamed "reliquary/digest.k" = some 1 := by kernel_rfl
theorem tQuarters : (Tryd.prog.globals[0]?).map (·.type) = some 167 := by kernel_rfl
theorem tK : (Tryd.prog.globals[1]?).map (·.type) = some 154 := by kernel_rfl
theorem lits_inj {k : IntKind} {zs ys : List Int} (h : (zs.map fun z => (DataW.lit (.int k z) : DataW Unit)) = ys.map fun z => .lit (.int k z)) : zs = ys := (List.map_inj_right (fun a b hab => by cases hab; rfl)).1 h
theorem quarters_rows : (Rows.laid_reliquary_cipher_quarters : DataW Unit) = .agg ((List.range 8).map fun i => .agg (((quarterTab.drop (4 * i)).take 4).map fun (x : Nat) => .lit (.int .i64 (x : Int)))) := rfl
theorem laid_tabs {W : World} (h : laidMetH Tryd.prog laid2 W) : Tabs W := by
  rw [MakeChecks.laidMetH_plain _ _ _ (by kernel_rfl)] at h
  obtain ⟨ps, ⟨g0, t0, cs0, f0, p0, q0, hg0, ht0, hv0, hd0, ⟨g1, t1, cs1, f1, p1, q1, hg1, ht1, hv1, hd1, _, _⟩, _⟩, _, _⟩ := h
  obtain rfl := Option.some.inj (gQuarters.symm.trans hg0)
  obtain rfl := Option.some.inj (gK.symm.trans hg1)
  obtain rfl := Option.some.inj (tQuarters.symm.trans ht0)
  obtain rfl := Option.some.inj (tK.symm.trans ht1)
  have hk : ∀ i, i < 64 → W.cell? ⟨1, i, none⟩ = some (.int .u32 (shaK i : Int)) := by
    obtain ⟨zs, hz, hx, hc, _⟩ := open_arr_ints Tryd.underlying154 Tryd.underlying67 (by kernel_rfl) (by kernel_rfl) hd1
    have he : zs = shaKs.map (fun x : Nat => (x : Int)) := by
      refine lits_inj (k := .u32) ?_
      have h1 := DataW.agg.inj hx
      rw [← h1]
      rfl
    intro i hi
    have hv := World.var?_cell hg1 hv1 i
    rw [hv, ← Array.getElem?_toList, hc, he]
    have hl : i < shaKs.length := by rw [show shaKs.length = 64 from rfl]; exact hi
    unfold shaK
    simp [hl]
  refine ⟨hk, ?_, ?_⟩
  · obtain ⟨xs, m, _, hx, hlen, hn, hel⟩ := DataW.trod_array Tryd.underlying167 hd0
    have c166 : Tryd.prog.cellsOf 166 = 4 := by kernel_rfl
    rw [c166] at hel
    intro q hq
    have hi : q / 4 < 8 := by omega
    have hxi : xs[q / 4]? = some (xs[q / 4]'(by omega)) := List.getElem?_eq_getElem (by omega)
    have hd := hel (q / 4) hi
    rw [hxi] at hd
    obtain ⟨zs, hz, hzx, hzc, _⟩ := open_arr_ints Tryd.underlying166 Tryd.underlying3 (by kernel_rfl) (by kernel_rfl) hd
    have hx0 : (Rows.laid_reliquary_cipher_quarters : DataW Unit) = .agg (xs.map (·.1)) := congrArg (·.1) hx
    rw [quarters_rows] at hx0
    have hrow : (xs[q / 4]'(by omega)).1 = .agg (((quarterTab.drop (4 * (q / 4))).take 4).map fun (x : Nat) => .lit (.int .i64 (x : Int))) := by
      have h1 := congrArg (·[q / 4]?) (DataW.agg.inj hx0)
      simp only [List.getElem?_map] at h1
      rw [hxi] at h1
      simp [hi] at h1
      simpa using h1.symm
    have he : zs = ((quarterTab.drop (4 * (q / 4))).take 4).map (fun x : Nat => (x : Int)) := by
      refine lits_inj (k := .i64) ?_
      have h1 := DataW.agg.inj (hzx.symm.trans hrow)
      rw [h1, List.map_map]
      exact List.map_congr_left fun _ _ => by rfl
    have hv := World.var?_cell hg0 hv0 q
    rw [hv, ← Array.getElem?_toList]
    have hcq : cs0.toList[q]? = ((cs0.toList.drop (q / 4 * 4)).take 4)[q % 4]? := by
      rw [List.getElem?_take, if_pos (Nat.mod_lt _ (by omega)), List.getElem?_drop, show q / 4 * 4 + q % 4 = q by omega]
    rw [hcq, hzc, he, List.getElem?_map, List.getElem?_map, List.getElem?_take, if_pos (Nat.mod_lt _ (by omega)), List.getElem?_drop, show 4 * (q / 4) + q % 4 = q by omega]
    have hl : q < quarterTab.length := by rw [show quarterTab.length = 32 from rfl]; exact hq
    simp [hl]
  · exact lt_of_cell (hk 0 (by omega))
end Go.Proofs.YtkhebllmnagkmaaDoor
/- Contract of the journal's State. Conditions: what it names. -/
namespace Go.Proofs.YtkhebllmnagkmaaDoor
open Go.RowKit
set_option linter.unusedVariables false

section
variable {P : Program} {ops : Array Oper} {o : Oper} {a : Act} {w : World} {K : Act → World → Prop} {Q : Exit → Act → World → Prop} {E : Prop}
theorem step_load_mid (hgd : o.guard = none) (ty : TypeId) (x : Operand) (ho : o.op = .load ty x) (b off : Nat) (hx : a.eval x = .pointer (some ⟨b, off, none⟩)) (cs : List Value) (d : TypeDesc) (hc : w.rangeAt b off cs)
    (hu : P.underlying ty = some d) (hd : d.isRow = true) (hi : (P.info? ty).map (·.size) = some cs.length) (h : K (a.put o.dst (.agg cs.toArray)) w) : if Region.wanted o (yielded ops a.tmps) = true then Oper.wp P o a w K Q else E := by
  have hw : Region.wanted o (yielded ops a.tmps) = true := by simp [Region.wanted, hgd]
  rw [if_pos hw]
  exact wp_load_mid ty x ho b off hx cs d hc hu hd hi h
theorem step_store_mid (hgd : o.guard = none) (ty : TypeId) (x y : Operand) (ho : o.op = .store ty x y) (b off : Nat) (cs : List Value) (hx : a.eval x = .pointer (some ⟨b, off, none⟩)) (hy : a.eval y = .agg cs.toArray)
    (ht : w.there b off cs.length) (hi : (P.info? ty).map (·.size) = some cs.length) (h1 : cs.toArray.all (·.oneCell') = true) (h : K (a.put o.dst undef) (w.setCells b off cs)) : if Region.wanted o (yielded ops a.tmps) = true then Oper.wp P o a w K Q else E := by
  have hw : Region.wanted o (yielded ops a.tmps) = true := by simp [Region.wanted, hgd]
  rw [if_pos hw]
  refine wp_store_mid ty x y ho b off cs.toArray hx hy (by rw [List.size_toArray]; exact ht) (by rw [List.size_toArray]; exact hi) h1 ?_
  simpa using h
end
set_option maxRecDepth 100000 in
set_option maxHeartbeats 2000000 in
theorem jstate_any (gj gd : Nat) (J : Jr) (w : World) (h : JAt w gj gd J) :
    Calls Tryd.prog 18 #[.pointer (some ⟨gj, 0, none⟩)] w fun e w' => e = .returned (.tuple #[.agg (stCells J.start J.count J.tag).toArray, .int .u64 (J.next : Int)]) ∧ Below w.heap.size w w' := by
  obtain ⟨W0, hW0⟩ : ∃ W0 : World, W0 = w.alloc (.cells st0.toArray 48) := ⟨_, rfl⟩
  have y0 : Below w.heap.size w W0.drew := by rw [hW0]; exact ((Below.refl _ _).alloc (Nat.le_refl _) _).drew
  have hj : JAt W0.drew gj gd J := h.under y0
  have kz : Blk W0.drew w.heap.size 48 st0.toArray := by rw [hW0]; exact (Blk.new_of rfl rfl).drew
  have hl := stCells_length J.start J.count J.tag
  rw [h.ht] at hl
  have h1 := stCells_one J.start J.count J.tag
  have h1' : ∀ v ∈ stCells J.start J.count J.tag, v.oneCell' = true := fun v hv => by
    have := Array.all_eq_true_iff_forall_mem.1 h1 v (by simpa using hv)
    exact this
  have c69 := hj.c69
  have hst := hj.st
  generalize stCells J.start J.count J.tag = st at *
  have hu := Tryd.underlying48
  have hi48 : (Tryd.prog.info? 48).map (·.size) = some st.length := by rw [hl]; kernel_rfl
  have hth : W0.drew.there w.heap.size 0 st.length := kz.there (by rw [hl]; exact Nat.le_refl _)
  have HW0 := Lib.hid hW0
  have HY := Lib.hid kz
  have HL := Lib.hid hl
  have hlt := h.blk.lt
  clear hW0 hl h hj kz
  go_enter Tryd.func18, Tryd.ntmps18
  go_wp2
  rw [show (w.alloc (.cells #[.int .u64 0, .int .u64 0, .int .u8 0, .int .u8 0, .int .u8 0, .int .u8 0, .int .u8 0, .int .u8 0, .int .u8 0, .int .u8 0, .int .u8 0, .int .u8 0, .int .u8 0, .int .u8 0, .int .u8 0, .int .u8 0, .int .u8 0, .int .u8 0, .int .u8 0, .int .u8 0, .int .u8 0, .int .u8 0, .int .u8 0, .int .u8 0, .int .u8 0, .int .u8 0, .int .u8 0, .int .u8 0, .int .u8 0, .int .u8 0, .int .u8 0, .int .u8 0, .int .u8 0, .int .u8 0] 48)) = W0 from HW0.out.symm]
  have g1 : W0.drew.grownBy (W0.drew.setCells w.heap.size 0 st) (some w.heap.size) := grownBy_setCells w.heap.size st 0 (World.grownBy.refl W0.drew _)
  have hne : ∀ i, (W0.drew.setCells w.heap.size 0 st).cell? ⟨gj, i, none⟩ = W0.drew.cell? ⟨gj, i, none⟩ := fun i => World.cell?_of_block (a := ⟨gj, i, none⟩) (g1.block gj (Nat.lt_of_lt_of_le hlt y0.size) (fun e => by injection e with e; omega))
  have hS0 : W0.drew.rangeAt gj 35 st ∧ W0.drew.cell? ⟨gj, 69, none⟩ = some (.int .u64 (J.next : Int)) ∧ W0.drew.there w.heap.size 0 st.length := ⟨hst, c69, hth⟩
  have hS2 : (W0.drew.setCells w.heap.size 0 st).rangeAt gj 35 st ∧ (W0.drew.setCells w.heap.size 0 st).cell? ⟨gj, 69, none⟩ = some (.int .u64 (J.next : Int)) ∧ (W0.drew.setCells w.heap.size 0 st).there w.heap.size 0 st.length := ⟨fun j v hj => (hne _).trans (hst j v hj), (hne 69).trans c69, World.there_setCells hth _ _ _⟩
  refine wp_region_held_drew (S := fun w' => w'.rangeAt gj 35 st ∧ w'.cell? ⟨gj, 69, none⟩ = some (.int .u64 (J.next : Int)) ∧ w'.there w.heap.size 0 st.length) (by kernel_rfl) hS0 (fun _ => ?_)
  refine wpAnyH_take (i := 0) (oi := ⟨some 7, _, _, _, _, _⟩) (v := (.pointer (some ⟨gj, 0, none⟩))) rfl (by kernel_rfl) (by kernel_rfl) (by kernel_rfl) (fun _ _ _ h => h) (Or.inl ⟨by rfl, by intro W hS; obtain ⟨s1, s2, s3⟩ := hS; go_simp⟩) hS0 ?_
  simp only [Act.put, List.setIfInBounds_toArray, List.set_cons_zero, List.set_cons_succ]
  refine wpAnyH_take (i := 1) (oi := ⟨some 8, _, _, _, _, _⟩) (v := (.pointer (some ⟨gj, 0, none⟩))) rfl (by kernel_rfl) (by kernel_rfl) (by kernel_rfl) (fun _ _ _ h => h) (Or.inl ⟨by rfl, by intro W hS; obtain ⟨s1, s2, s3⟩ := hS; go_simp⟩) hS0 ?_
  simp only [Act.put, List.setIfInBounds_toArray, List.set_cons_zero, List.set_cons_succ]
  refine wpAnyH_take (i := 2) (oi := ⟨some 9, _, _, _, _, _⟩) (v := (.pointer (some ⟨gj, 35, none⟩))) rfl (by kernel_rfl) (by kernel_rfl) (by kernel_rfl) (fun _ _ _ h => h) (Or.inl ⟨by rfl, by intro W hS; obtain ⟨s1, s2, s3⟩ := hS; go_simp⟩) hS0 ?_
  simp only [Act.put, List.setIfInBounds_toArray, List.set_cons_zero, List.set_cons_succ]
  refine wpAnyH_take (i := 3) (oi := ⟨some 10, _, _, _, _, _⟩) (v := .agg st.toArray) rfl (by kernel_rfl) (by kernel_rfl) (by kernel_rfl) (fun _ _ _ h => h) (yieldsIf_load_mid (by rfl) 48 _ rfl gj 35 (by rfl) st _ (fun W h => h.1) hu rfl hi48) hS0 ?_
  simp only [Act.put, List.setIfInBounds_toArray, List.set_cons_zero, List.set_cons_succ]
  refine wpAnyH_take (i := 4) (oi := ⟨some 11, _, _, _, _, _⟩) (v := (.pointer (some ⟨gj, 0, none⟩))) rfl (by kernel_rfl) (by kernel_rfl) (by kernel_rfl) (fun _ _ _ h => h) (Or.inl ⟨by rfl, by intro W hS; obtain ⟨s1, s2, s3⟩ := hS; go_simp⟩) hS0 ?_
  simp only [Act.put, List.setIfInBounds_toArray, List.set_cons_zero, List.set_cons_succ]
  refine wpAnyH_take (i := 5) (oi := ⟨some 12, _, _, _, _, _⟩) (v := (.pointer (some ⟨gj, 0, none⟩))) rfl (by kernel_rfl) (by kernel_rfl) (by kernel_rfl) (fun _ _ _ h => h) (Or.inl ⟨by rfl, by intro W hS; obtain ⟨s1, s2, s3⟩ := hS; go_simp⟩) hS0 ?_
  simp only [Act.put, List.setIfInBounds_toArray, List.set_cons_zero, List.set_cons_succ]
  refine wpAnyH_take (i := 6) (oi := ⟨some 13, _, _, _, _, _⟩) (v := (.pointer (some ⟨gj, 69, none⟩))) rfl (by kernel_rfl) (by kernel_rfl) (by kernel_rfl) (fun _ _ _ h => h) (Or.inl ⟨by rfl, by intro W hS; obtain ⟨s1, s2, s3⟩ := hS; go_simp⟩) hS0 ?_
  simp only [Act.put, List.setIfInBounds_toArray, List.set_cons_zero, List.set_cons_succ]
  refine wpAnyH_take (i := 7) (oi := ⟨some 14, _, _, _, _, _⟩) (v := (.int .u64 (J.next : Int))) rfl (by kernel_rfl) (by kernel_rfl) (by kernel_rfl) (fun _ _ _ h => h) (Or.inl ⟨by rfl, by intro W hS; obtain ⟨s1, s2, s3⟩ := hS; go_simp⟩) hS0 ?_
  simp only [Act.put, List.setIfInBounds_toArray, List.set_cons_zero, List.set_cons_succ]
  refine wpAnyH_ready (rs := [8]) (by kernel_rfl) (by simp) ?_
  refine AllReadyH.cons (o := ⟨none, .store 48 (.tmp 2) (.tmp 10), _, _, _, _⟩) rfl (fun K' hK => ?_) AllReadyH.nil
  rw [if_pos (by rfl)]
  refine wp_store_mid _ _ _ rfl _ _ (List.toArray _) rfl rfl ?_ ?_ h1 ?_
  · simpa using hth
  · rw [List.size_toArray]; exact hi48
  simp only [Act.put]
  refine hK.out _ _ hS2 (fun _ => ?_)
  clear hK
  refine wpAnyH_take (i := 9) (oi := ⟨some 3, _, _, _, _, _⟩) (v := .int .u64 (J.next : Int)) rfl (by kernel_rfl) (by kernel_rfl) (by kernel_rfl) (fun _ _ _ h => h) (Or.inl ⟨by rfl, by intro W hS; go_simp⟩) hS2 ?_
  simp only [Act.put, List.setIfInBounds_toArray, List.set_cons_zero, List.set_cons_succ]
  refine wpAnyH_done (by kernel_rfl) ?_ _
  have kF : Blk (W0.drew.setCells w.heap.size 0 st) w.heap.size 48 st.toArray := by
    have h := Blk.put st [] st0 [] W0.drew (by rw [HL.out]; rfl) (by simpa using HY.out)
    simpa using h
  go_wp2
  refine bodyPost_ret (results_row_tmp (fr := (0, 0)) rfl _ _ w.heap.size 48 _ _ rfl kF Tryd.underlying48 rfl (by rw [List.size_toArray]; exact hi48)) rfl ?_
  exact ⟨rfl, y0.grown g1 y0.size (fun k e => by injection e with e; omega)⟩
end Go.Proofs.YtkhebllmnagkmaaDoor
