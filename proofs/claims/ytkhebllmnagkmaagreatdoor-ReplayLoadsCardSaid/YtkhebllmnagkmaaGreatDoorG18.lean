/- Contracts and lemmas under the statements of this seat, one behind the other. Conditions: what each names. -/
import Derived.Test.YtkhebllmnagkmaaGreatDoorG17
import Derived.Laws.StructEq
import Derived.Deep.SlicePairs
import Derived.OpenShut
import Derived.Test.YtkhebllmnagkmaaGreatDoorRows
import Derived.LaidMore
import Derived.Stop.Joined
import Derived.Test.YtkhebllmnagkmaaGreatDoorG11
/- Contracts of the reference's Same and SameAll, of rows that are the same. Conditions: what each names. -/
namespace Go.Proofs.YtkhebllmnagkmaaGreatDoor
open Go.RowKit
set_option linter.unusedVariables false

theorem run_neq_I (w : World) (x : Int) (s : ByteArray) : (binOp .neq 105 (.agg #[.int .u64 x, .string s]) (.agg #[.int .u64 x, .string s])).run Tryz.prog w = .ok (.bool false) w := by
  have h60 := Tryz.underlying105
  have h33 := Tryz.underlying39
  have h9 := Tryz.underlying9
  simp [go_sem]
theorem own_at {w : World} {base : Nat} {A : Option Addr} {n c : Nat} {l : List Img} (h : w.ownsRow base 105 2 (.slice A n c) n (encM l)) {k : Nat} (hk : k < n) (p : Img) (hp : l[k]? = some p) : ∃ g, A = some ⟨g, 0, none⟩ ∧ g < w.heap.size ∧ w.cell? ⟨g, k * 2, none⟩ = some (.int .u64 (p.1 : Int)) ∧ w.cell? ⟨g, k * 2 + 1, none⟩ = some (.string ⟨p.2.toArray⟩) := by
  obtain ⟨g, cap, hv, _, hlt⟩ := h.form (by omega)
  injection hv with hA
  obtain ⟨h1, h2⟩ := encM_get l k p hp
  have hc := World.ownsRow.cells h (g := g) (by rw [hA]; rfl)
  have e1 := hc _ _ h1
  have e2 := hc _ _ h2
  rw [add_head] at e1 e2
  exact ⟨g, hA, hlt, by rw [Nat.mul_comm]; exact e1, by rw [Nat.mul_comm]; exact e2⟩
set_option maxRecDepth 100000 in
theorem same_yes (A B : Option Addr) (n ca cb ba bb : Nat) (l : List Img) (w : World) (ha : w.ownsRow ba 105 2 (.slice A n ca) n (encM l)) (hb : w.ownsRow bb 105 2 (.slice B n cb) n (encM l)) (hn : n ≤ 1048576) :
    Calls Tryz.prog 53 #[.slice A n ca, .slice B n cb] w fun e w' => e = .returned (.bool true) ∧ ∃ m, w' = w.drewN m := by
  have hl : l.length = n := by have := ha.1; rw [encM_length] at this; omega
  have hneq := run_neq_I
  have HL := Lib.hid hl
  have HA := Lib.hid ha
  have HB := Lib.hid hb
  clear hl ha hb
  go_enter Tryz.func53, Tryz.ntmps53
  go_wp2
  go_loopw [5] (fun ix wr => ∃ (k m : Nat), k ≤ n ∧ ix = .int .i64 k ∧ wr = w.drewN m) (fun ix _ => n - (intOf ix).toNat)
  case atStart => exact ⟨0, 0, by omega, rfl, rfl⟩
  case round =>
    obtain ⟨k, m, hk, rfl, rfl⟩ := hrel
    by_cases hlt : k < n
    · have hkl : k < l.length := by rw [HL.out]; exact hlt
      obtain ⟨g, rfl, hg, a0, a1⟩ := own_at HA.out hlt _ (List.getElem?_eq_getElem hkl)
      obtain ⟨g', rfl, hg', b0, b1⟩ := own_at HB.out hlt _ (List.getElem?_eq_getElem hkl)
      generalize l[k]'hkl = p at *
      obtain ⟨x, b⟩ := p
      simp only at a0 a1 b0 b1
      have i1 : (0 : Int) ≤ (k : Int) := by omega
      have i2 : (k : Int) < (n : Int) := by omega
      have q0 : (w.drewN (m + 1)).cell? ⟨g, k * 2, none⟩ = some (.int .u64 (x : Int)) := a0
      have q1 : (w.drewN (m + 1)).cell? ⟨g, k * 2 + 1, none⟩ = some (.string ⟨b.toArray⟩) := a1
      have q2 : (w.drewN (m + 1)).cell? ⟨g', k * 2, none⟩ = some (.int .u64 (x : Int)) := b0
      have q3 : (w.drewN (m + 1)).cell? ⟨g', k * 2 + 1, none⟩ = some (.string ⟨b.toArray⟩) := b1
      clear hkl
      go_wp2
      go_region_held3 (fun w' => w'.cell? ⟨g, k * 2, none⟩ = some (.int .u64 (x : Int)) ∧ w'.cell? ⟨g, k * 2 + 1, none⟩ = some (.string ⟨b.toArray⟩) ∧ w'.cell? ⟨g', k * 2, none⟩ = some (.int .u64 (x : Int)) ∧ w'.cell? ⟨g', k * 2 + 1, none⟩ = some (.string ⟨b.toArray⟩)) (exact ⟨q0, q1, q2, q3⟩) (fail)
      go_wp2
      exact ⟨⟨k + 1, m + 1, by omega, by go_num, rfl⟩, by simp [intOf]; omega⟩
    · have hps : n ≤ k := by omega
      go_wp2
      go_ret
      exact ⟨rfl, m, rfl⟩
theorem rows_at {w : World} {base b2 : Nat} {A : Option Addr} {n c : Nat} {ys : List Value} {ll : List (List Img)} (h : w.ownsRow base 52 1 (.slice A n c) n ys) (hR : RowMs w b2 ys ll) {k : Nat} (hk : k < n) (l : List Img) (hl : ll[k]? = some l) :
    ∃ g A' c', A = some ⟨g, 0, none⟩ ∧ w.cell? ⟨g, k, none⟩ = some (.slice A' l.length c') ∧ w.ownsRow b2 105 2 (.slice A' l.length c') l.length (encM l) := by
  obtain ⟨g, cap, hv, _, hlt⟩ := h.form (by omega)
  injection hv with hA
  obtain ⟨A', c', h1, h2⟩ := hR k l hl
  have hc := World.ownsRow.cells h (g := g) (by rw [hA]; rfl)
  have e1 := hc _ _ h1
  rw [add_head] at e1
  exact ⟨g, A', c', hA, e1, h2⟩
set_option maxRecDepth 100000 in
theorem sameAll_yes (A B : Option Addr) (n ca cb ba bb ba2 bb2 : Nat) (ys zs : List Value) (ll : List (List Img)) (w : World) (hl : ll.length = n) (ha : w.ownsRow ba 52 1 (.slice A n ca) n ys) (hra : RowMs w ba2 ys ll) (hb : w.ownsRow bb 52 1 (.slice B n cb) n zs) (hrb : RowMs w bb2 zs ll) (hn : n ≤ 1048576) (hn2 : ∀ l ∈ ll, l.length ≤ 1048576) :
    Calls Tryz.prog 19 #[.slice A n ca, .slice B n cb] w fun e w' => e = .returned (.bool true) ∧ ∃ m, w' = w.drewN m := by
  have HL := Lib.hid hl
  have HA := Lib.hid ha
  have HB := Lib.hid hb
  clear hl ha hb
  go_enter Tryz.func19, Tryz.ntmps19
  go_wp2
  go_loopw [5] (fun ix wr => ∃ (k m : Nat), k ≤ n ∧ ix = .int .i64 k ∧ wr = w.drewN m) (fun ix _ => n - (intOf ix).toNat)
  case atStart => exact ⟨0, 0, by omega, rfl, rfl⟩
  case round =>
    obtain ⟨k, m, hk, rfl, rfl⟩ := hrel
    by_cases hlt : k < n
    · have hkl : k < ll.length := by rw [HL.out]; exact hlt
      have hlen := hn2 _ (List.getElem_mem hkl)
      obtain ⟨g, A1, c1, rfl, a0, o1⟩ := rows_at HA.out hra hlt _ (List.getElem?_eq_getElem hkl)
      obtain ⟨g', A2, c2, rfl, b0, o2⟩ := rows_at HB.out hrb hlt _ (List.getElem?_eq_getElem hkl)
      generalize ll[k]'hkl = l at *
      have i1 : (0 : Int) ≤ (k : Int) := by omega
      have i2 : (k : Int) < (n : Int) := by omega
      have q0 : (w.drewN (m + 1)).cell? ⟨g, k, none⟩ = some (.slice A1 l.length c1) := a0
      have q1 : (w.drewN (m + 1)).cell? ⟨g', k, none⟩ = some (.slice A2 l.length c2) := b0
      have hsm := same_yes A1 A2 l.length c1 c2 ba2 bb2 l (w.drewN (m + 1)) o1 o2 hlen
      clear hkl a0 b0 o1 o2
      go_wp2
      go_region_held3 (fun w' => w'.cell? ⟨g, k, none⟩ = some (.slice A1 l.length c1) ∧ w'.cell? ⟨g', k, none⟩ = some (.slice A2 l.length c2)) (exact ⟨q0, q1⟩) (first | (go_at_call 53; refine hsm.mono ?_; rintro e w' ⟨rfl, m', rfl⟩))
      go_wp2
      exact ⟨⟨k + 1, m + 1 + m', by omega, by go_num, rfl⟩, by simp [intOf]; omega⟩
    · have hps : n ≤ k := by omega
      go_wp2
      go_ret
      exact ⟨rfl, m, rfl⟩
end Go.Proofs.YtkhebllmnagkmaaGreatDoor
/- How the laws' arguments read: slices of images, and of slices of images. Conditions: what each names. -/
namespace Go.Proofs.YtkhebllmnagkmaaGreatDoor
open Go.RowKit
set_option linter.unusedVariables false

/-- A row of changes that came in. -/
def RowAA (w : World) (xs : List Value) (ll : List (List Img)) : Prop := ∀ (i : Nat) (l : List Img), ll[i]? = some l → ∃ A c xs1, xs[i]? = some (.slice A l.length c) ∧ Reads w w.heap.size 2 A l.length xs1 ∧ RowA w xs1 l
theorem lt_of_cell {w : World} {a : Addr} {v : Value} (h : w.cell? a = some v) : a.block < w.heap.size := by
  unfold World.cell? at h
  split at h
  · rename_i hh
    exact (Array.getElem?_eq_some_iff.1 hh).1
  · cases h
section
variable {H : Type} {enc : TypeId × Value → H} {w : World}
theorem open_bytes_in {fuel : Nat} {cs : List Value} {x : DataW H × List MemPlace} (h : DataW.trod enc Tryz.prog w 0 (fun _ => true) true fuel 55 cs = some x) :
    ∃ (A : Option Addr) (b : List UInt8) (c : Nat), cs = [.slice A b.length c] ∧ b.length ≤ c ∧ Reads w w.heap.size 1 A b.length (bs b) := by
  rcases ChangeShapes.open_ints Tryz.underlying55 Tryz.underlying5 (by kernel_rfl) h with ⟨rfl, _⟩ | ⟨a, len, cap, zs, rfl, hb, hl, hm, hz, _, hcell, hwf⟩
  · exact ⟨none, [], 0, rfl, Nat.le_refl _, Reads.none_⟩
  · simp only [if_true] at hz
    have hbl : ((zs.take len).map fun z => UInt8.ofNat z.toNat).length = len := by rw [List.length_map, List.length_take]; omega
    refine ⟨some a, (zs.take len).map fun z => UInt8.ofNat z.toNat, cap, by rw [hbl], by omega, by rw [bs_length]; omega, fun hn => ?_⟩
    rw [hbl] at hn
    refine ⟨a, rfl, ?_, fun j u hu => ?_⟩
    · have := lt_of_cell (hcell 0 (by omega))
      rwa [block_of_add] at this
    · rw [bs_get, List.getElem?_map, List.getElem?_take] at hu
      split at hu
      · rename_i hj
        have hjz : j < zs.length := by omega
        rw [List.getElem?_eq_getElem hjz] at hu
        simp only [Option.map_some, Option.some.injEq] at hu
        rw [hcell j hjz, ← hu]
        have hw := bounds_u8 (hwf _ (List.getElem_mem hjz))
        simp only [List.getD_eq_getElem?_getD, List.getElem?_eq_getElem hjz, Option.getD_some]
        congr 2
        rw [UInt8.toNat_ofNat']
        omega
      · simp at hu
theorem open_image_row {fuel : Nat} {cs : List Value} {x : DataW H × List MemPlace} (h : DataW.trod enc Tryz.prog w 0 (fun _ => true) true fuel 24 cs = some x) :
    ∃ (A : Option Addr) (n c : Nat) (xs : List Value) (l : List Img), cs = [.slice A n c] ∧ Reads w w.heap.size 2 A n xs ∧ l.length = n ∧ RowA w xs l ∧ ∀ p ∈ l, p.1 < 18446744073709551616 := by
  have hu : Tryz.prog.underlying 79 = some (.struct _) := Tryz.underlying79
  rcases Deep.open_slice_pairs Tryz.underlying24 hu (by kernel_rfl) rfl rfl (by kernel_rfl) (by kernel_rfl) h with ⟨rfl, _⟩ | ⟨a, len, cap, m, fu, V0, V1, D0, D1, P0, P1, rfl, hb, hl, hm, hmm, _, hx⟩
  · exact ⟨none, 0, 0, [], [], rfl, Reads.none_, rfl, fun i p hp => (by simp at hp), fun p hp => (by cases hp)⟩
  · simp only [if_true] at hmm
    subst hmm
    have each : ∀ i, i < len → ∃ p : Img × (Option Addr × Nat), V0 i = .int .u64 (p.1.1 : Int) ∧ p.1.1 < 18446744073709551616 ∧ V1 i = .slice p.2.1 p.1.2.length p.2.2 ∧ p.1.2.length ≤ p.2.2 ∧ Reads w w.heap.size 1 p.2.1 p.1.2.length (bs p.1.2) := by
      intro i hi
      obtain ⟨_, _, h0, h1⟩ := hx i (by omega)
      obtain ⟨k, e1, _, hwf⟩ := DataW.trod_int Tryz.underlying39 h0
      obtain ⟨A, b, c, e2, hc, hr⟩ := open_bytes_in h1
      have hk := bounds_u64 hwf
      refine ⟨((k.toNat, b), (A, c)), ?_, by show k.toNat < _; omega, ?_, hc, hr⟩
      · have e : V0 i = .int .u64 k := by simpa using e1
        rw [e, show ((k.toNat : Nat) : Int) = k by omega]
      · simpa using e2
    obtain ⟨q, hq⟩ := Deep.choose_lt each
    have hcell : ∀ i, i < len → w.cell? (a.add (i * 2)) = some (.int .u64 ((q i).1.1 : Int)) ∧ w.cell? (a.add (i * 2 + 1)) = some (.slice (q i).2.1 (q i).1.2.length (q i).2.2) := fun i hi => by
      obtain ⟨h0, h1, _⟩ := hx i (by omega)
      obtain ⟨e0, _, e1, _⟩ := hq i hi
      exact ⟨by rw [h0, e0], by rw [h1, e1]⟩
    have hget : ∀ n, n ≤ len → ∀ i, i < n → (((List.range n).map fun i => [Value.int .u64 ((q i).1.1 : Int), .slice (q i).2.1 (q i).1.2.length (q i).2.2]).flatten)[2 * i]? = some (.int .u64 ((q i).1.1 : Int)) ∧ (((List.range n).map fun i => [Value.int .u64 ((q i).1.1 : Int), .slice (q i).2.1 (q i).1.2.length (q i).2.2]).flatten)[2 * i + 1]? = some (.slice (q i).2.1 (q i).1.2.length (q i).2.2) := by
      intro n hn i hi
      have h := encs_get ((List.range n).map fun i => ((q i).1.1, ((q i).2.1, (q i).1.2.length, (q i).2.2))) i ((q i).1.1, ((q i).2.1, (q i).1.2.length, (q i).2.2)) (by simp [hi])
      have e : encs ((List.range n).map fun i => ((q i).1.1, ((q i).2.1, (q i).1.2.length, (q i).2.2))) = (((List.range n).map fun i => [Value.int .u64 ((q i).1.1 : Int), .slice (q i).2.1 (q i).1.2.length (q i).2.2]).flatten) := by unfold encs; rw [List.map_map]; rfl
      rw [e] at h
      exact h
    have hlen : (((List.range len).map fun i => [Value.int .u64 ((q i).1.1 : Int), .slice (q i).2.1 (q i).1.2.length (q i).2.2]).flatten).length = len * 2 := by
      have h := encs_length ((List.range len).map fun i => ((q i).1.1, ((q i).2.1, (q i).1.2.length, (q i).2.2)))
      have e : encs ((List.range len).map fun i => ((q i).1.1, ((q i).2.1, (q i).1.2.length, (q i).2.2))) = (((List.range len).map fun i => [Value.int .u64 ((q i).1.1 : Int), .slice (q i).2.1 (q i).1.2.length (q i).2.2]).flatten) := by unfold encs; rw [List.map_map]; rfl
      rw [e] at h
      simpa using h
    refine ⟨some a, len, _, _, (List.range len).map fun i => (q i).1, rfl, ⟨hlen, fun hn => ⟨a, rfl, ?_, fun j u hu => ?_⟩⟩, by simp, fun i p hp => ?_, fun p hp => ?_⟩
    · have := lt_of_cell (hcell 0 hn).1
      rwa [block_of_add] at this
    · have hj : j < len * 2 := by rw [← hlen]; exact (List.getElem?_eq_some_iff.1 hu).1
      obtain ⟨g0, g1⟩ := hget len (Nat.le_refl _) (j / 2) (by omega)
      obtain ⟨c0, c1⟩ := hcell (j / 2) (by omega)
      rcases Nat.mod_two_eq_zero_or_one j with hm2 | hm2
      · have e : j = 2 * (j / 2) := by omega
        rw [e] at hu
        rw [g0] at hu
        rw [show a.add j = a.add (j / 2 * 2) by rw [show j / 2 * 2 = j by omega], c0, hu]
      · have e : j = 2 * (j / 2) + 1 := by omega
        rw [e] at hu
        rw [g1] at hu
        rw [show a.add j = a.add (j / 2 * 2 + 1) by rw [show j / 2 * 2 + 1 = j by omega], c1, hu]
    · have hi : i < len := by have := (List.getElem?_eq_some_iff.1 hp).1; simpa using this
      have e : p = (q i).1 := by simp [hi] at hp; exact hp.symm
      subst e
      obtain ⟨g0, g1⟩ := hget len (Nat.le_refl _) i hi
      obtain ⟨_, _, _, e2, e3⟩ := hq i hi
      exact ⟨g0, _, _, g1, e2, e3⟩
    · obtain ⟨i, hi, e⟩ := List.mem_map.1 hp
      subst e
      exact (hq i (List.mem_range.1 hi)).2.1
theorem open_changes_in {fuel : Nat} {cs : List Value} {x : DataW H × List MemPlace} (h : DataW.trod enc Tryz.prog w 0 (fun _ => true) true fuel 60 cs = some x) :
    ∃ (A : Option Addr) (n c : Nat) (xs : List Value) (ll : List (List Img)), cs = [.slice A n c] ∧ Reads w w.heap.size 1 A n xs ∧ ll.length = n ∧ RowAA w xs ll ∧ (∀ l ∈ ll, ∀ p ∈ l, p.1 < 18446744073709551616) ∧ n ≤ 9223372036854775807 := by
  rcases Deep.open_slice1 Tryz.underlying60 (by kernel_rfl) h with ⟨rfl, _⟩ | ⟨a, len, cap, m, fu, V, D, Pl, rfl, hb, hl, hm, hmm, _, hx⟩
  · exact ⟨none, 0, 0, [], [], rfl, Reads.none_, rfl, fun i p hp => (by simp at hp), fun p hp => (by cases hp), by omega⟩
  · simp only [if_true] at hmm
    subst hmm
    have each : ∀ i, i < len → ∃ p : List Img × (Option Addr × Nat × List Value), V i = .slice p.2.1 p.1.length p.2.2.1 ∧ Reads w w.heap.size 2 p.2.1 p.1.length p.2.2.2 ∧ RowA w p.2.2.2 p.1 ∧ ∀ r ∈ p.1, r.1 < 18446744073709551616 := by
      intro i hi
      obtain ⟨_, h1⟩ := hx i (by omega)
      obtain ⟨A, n, c, xs, l, e, hr, hln, hR, h64⟩ := open_image_row h1
      subst hln
      exact ⟨(l, (A, c, xs)), by simpa using e, hr, hR, h64⟩
    obtain ⟨q, hq⟩ := Deep.choose_lt each
    refine ⟨some a, len, _, (List.range len).map V, (List.range len).map fun i => (q i).1, rfl, ⟨by simp, fun hn => ⟨a, rfl, ?_, fun j u hu => ?_⟩⟩, by simp, fun i l hli => ?_, fun l hl' => ?_, by unfold maxLen at hm; omega⟩
    · have := lt_of_cell (hx 0 (by omega)).1
      rwa [block_of_add] at this
    · have hj : j < len := by have := (List.getElem?_eq_some_iff.1 hu).1; simpa using this
      simp [hj] at hu
      rw [← hu]
      exact (hx j (by omega)).1
    · have hi : i < len := by have := (List.getElem?_eq_some_iff.1 hli).1; simpa using this
      have e : l = (q i).1 := by simp [hi] at hli; exact hli.symm
      subst e
      obtain ⟨e1, e2, e3, _⟩ := hq i hi
      exact ⟨(q i).2.1, (q i).2.2.1, (q i).2.2.2, by simp [hi, e1], e2, e3⟩
    · obtain ⟨i, hi, e⟩ := List.mem_map.1 hl'
      subst e
      exact (hq i (List.mem_range.1 hi)).2.2.2
end
end Go.Proofs.YtkhebllmnagkmaaGreatDoor
/- The listed tables, read as the row lists them, lie in memory as the walks ask. No other condition. -/
namespace Go.Proofs.YtkhebllmnagkmaaGreatDoor
open Go.RowKit
set_option linter.unusedVariables false

section
variable {H : Type} {enc : TypeId × Value → H} {P : Program} {w : World} {base : Nat} {spare : Nat → Bool} {held : Bool} {fuel : Nat} {t : TypeId} {cs : List Value} {x : DataW H × List MemPlace}
/-- An array of integers reads as its cells. -/
theorem open_arr_ints {n : Nat} {e : TypeId} {k : IntKind} (ht : P.underlying t = some (.array n e)) (he : P.underlying e = some (.int k)) (ce : P.cellsOf e = 1) (ct : P.cellsOf t = n) (h : DataW.trod enc P w base spare held fuel t cs = some x) :
    ∃ zs : List Int, zs.length = n ∧ x.1 = .agg (zs.map fun z => .lit (.int k z)) ∧ cs = zs.map (Value.int k) ∧ ∀ z ∈ zs, (Lit.int k z).wf = true := by
  obtain ⟨xs, m, _, hx, hlen, hn, hel⟩ := DataW.trod_array ht h
  rw [ct] at hlen
  have each : ∀ i, i < n → ∃ z : Int, cs[i]? = some (.int k z) ∧ (xs[i]?).map (·.1) = some (.lit (.int k z)) ∧ (Lit.int k z).wf = true := by
    intro i hi
    have hd := hel i hi
    have hxi : xs[i]? = some (xs[i]'(by omega)) := List.getElem?_eq_getElem (by omega)
    rw [hxi] at hd
    obtain ⟨z, e1, e2, hwf⟩ := DataW.trod_int he hd
    rw [ce, Nat.mul_one] at e1
    have hci : cs[i]? = some (.int k z) := by
      have := congrArg (·[0]?) e1
      simpa [List.getElem?_take, List.getElem?_drop] using this
    exact ⟨z, hci, by rw [hxi, Option.map_some, e2], hwf⟩
  obtain ⟨f, hf⟩ := Deep.choose_lt each
  refine ⟨(List.range n).map f, by simp, ?_, ?_, fun z hz => ?_⟩
  · rw [hx]
    show DataW.agg _ = _
    congr 1
    refine List.ext_getElem? fun i => ?_
    by_cases hi : i < n
    · rw [List.getElem?_map, (hf i hi).2.1]
      simp [hi]
    · rw [List.getElem?_eq_none (by simp; omega), List.getElem?_eq_none (by simp; omega)]
  · refine List.ext_getElem? fun i => ?_
    by_cases hi : i < n
    · rw [(hf i hi).1]
      simp [hi]
    · rw [List.getElem?_eq_none (by omega), List.getElem?_eq_none (by simp; omega)]
  · obtain ⟨i, hi, rfl⟩ := List.mem_map.1 hz
    exact (hf i (List.mem_range.1 hi)).2.2
end
def laid2 : List (String × DataW Unit) := [("reliquary/cipher.quarters", Rows.laid_reliquary_cipher_quarters), ("reliquary/digest.k", Rows.laid_reliquary_digest_k)]
theorem gQuarters : Tryz.prog.globalNamed "reliquary/cipher.quarters" = some 0 := by kernel_rfl
theorem gK : Tryz.prog.globalNamed "reliquary/digest.k" = some 1 := by kernel_rfl
theorem tQuarters : (Tryz.prog.globals[0]?).map (·.type) = some 202 := by kernel_rfl
theorem tK : (Tryz.prog.globals[1]?).map (·.type) = some 205 := by kernel_rfl
theorem lits_inj {k : IntKind} {zs ys : List Int} (h : (zs.map fun z => (DataW.lit (.int k z) : DataW Unit)) = ys.map fun z => .lit (.int k z)) : zs = ys := (List.map_inj_right (fun a b hab => by cases hab; rfl)).1 h
theorem quarters_rows : (Rows.laid_reliquary_cipher_quarters : DataW Unit) = .agg ((List.range 8).map fun i => .agg (((quarterTab.drop (4 * i)).take 4).map fun (x : Nat) => .lit (.int .i64 (x : Int)))) := rfl
theorem laid_tabs {W : World} (h : laidMetH Tryz.prog laid2 W) : Tabs W := by
  rw [MakeChecks.laidMetH_plain _ _ _ (by kernel_rfl)] at h
  obtain ⟨ps, ⟨g0, t0, cs0, f0, p0, q0, hg0, ht0, hv0, hd0, ⟨g1, t1, cs1, f1, p1, q1, hg1, ht1, hv1, hd1, _, _⟩, _⟩, _, _⟩ := h
  obtain rfl := Option.some.inj (gQuarters.symm.trans hg0)
  obtain rfl := Option.some.inj (gK.symm.trans hg1)
  obtain rfl := Option.some.inj (tQuarters.symm.trans ht0)
  obtain rfl := Option.some.inj (tK.symm.trans ht1)
  have hk : ∀ i, i < 64 → W.cell? ⟨1, i, none⟩ = some (.int .u32 (shaK i : Int)) := by
    obtain ⟨zs, hz, hx, hc, _⟩ := open_arr_ints Tryz.underlying205 Tryz.underlying59 (by kernel_rfl) (by kernel_rfl) hd1
    have he : zs = shaKs.map (fun x : Nat => (x : Int)) := by
      refine lits_inj (k := .u32) ?_
      have h1 := DataW.agg.inj hx
      rw [← h1]
      rfl
    intro i hi
    have hv := World.var?_cell hg1 hv1 i
    rw [hv, ← Array.getElem?_toList, hc, he]
    have hl : i < shaKs.length := by rw [show shaKs.length = 64 from rfl]; exact hi
    unfold shaK
    simp [hl]
  refine ⟨hk, ?_, ?_⟩
  · obtain ⟨xs, m, _, hx, hlen, hn, hel⟩ := DataW.trod_array Tryz.underlying202 hd0
    have c166 : Tryz.prog.cellsOf 201 = 4 := by kernel_rfl
    rw [c166] at hel
    intro q hq
    have hi : q / 4 < 8 := by omega
    have hxi : xs[q / 4]? = some (xs[q / 4]'(by omega)) := List.getElem?_eq_getElem (by omega)
    have hd := hel (q / 4) hi
    rw [hxi] at hd
    obtain ⟨zs, hz, hzx, hzc, _⟩ := open_arr_ints Tryz.underlying201 Tryz.underlying3 (by kernel_rfl) (by kernel_rfl) hd
    have hx0 : (Rows.laid_reliquary_cipher_quarters : DataW Unit) = .agg (xs.map (·.1)) := congrArg (·.1) hx
    rw [quarters_rows] at hx0
    have hrow : (xs[q / 4]'(by omega)).1 = .agg (((quarterTab.drop (4 * (q / 4))).take 4).map fun (x : Nat) => .lit (.int .i64 (x : Int))) := by
      have h1 := congrArg (·[q / 4]?) (DataW.agg.inj hx0)
      simp only [List.getElem?_map] at h1
      rw [hxi] at h1
      simp [hi] at h1
      simpa using h1.symm
    have he : zs = ((quarterTab.drop (4 * (q / 4))).take 4).map (fun x : Nat => (x : Int)) := by
      refine lits_inj (k := .i64) ?_
      have h1 := DataW.agg.inj (hzx.symm.trans hrow)
      rw [h1, List.map_map]
      exact List.map_congr_left fun _ _ => by rfl
    have hv := World.var?_cell hg0 hv0 q
    rw [hv, ← Array.getElem?_toList]
    have hcq : cs0.toList[q]? = ((cs0.toList.drop (q / 4 * 4)).take 4)[q % 4]? := by
      rw [List.getElem?_take, if_pos (Nat.mod_lt _ (by omega)), List.getElem?_drop, show q / 4 * 4 + q % 4 = q by omega]
    rw [hcq, hzc, he, List.getElem?_map, List.getElem?_map, List.getElem?_take, if_pos (Nat.mod_lt _ (by omega)), List.getElem?_drop, show 4 * (q / 4) + q % 4 = q by omega]
    have hl : q < quarterTab.length := by rw [show quarterTab.length = 32 from rfl]; exact hq
    simp [hl]
  · exact lt_of_cell (hk 0 (by omega))
end Go.Proofs.YtkhebllmnagkmaaGreatDoor
/- Contract of the journal's State. Conditions: what it names. -/
namespace Go.Proofs.YtkhebllmnagkmaaGreatDoor
open Go.RowKit
set_option linter.unusedVariables false

section
variable {P : Program} {ops : Array Oper} {o : Oper} {a : Act} {w : World} {K : Act → World → Prop} {Q : Exit → Act → World → Prop} {E : Prop}
theorem step_load_mid (hgd : o.guard = none) (ty : TypeId) (x : Operand) (ho : o.op = .load ty x) (b off : Nat) (hx : a.eval x = .pointer (some ⟨b, off, none⟩)) (cs : List Value) (d : TypeDesc) (hc : w.rangeAt b off cs)
    (hu : P.underlying ty = some d) (hd : d.isRow = true) (hi : (P.info? ty).map (·.size) = some cs.length) (h : K (a.put o.dst (.agg cs.toArray)) w) : if Region.wanted o (yielded ops a.tmps) = true then Oper.wp P o a w K Q else E := by
  have hw : Region.wanted o (yielded ops a.tmps) = true := by simp [Region.wanted, hgd]
  rw [if_pos hw]
  exact wp_load_mid ty x ho b off hx cs d hc hu hd hi h
theorem step_store_mid (hgd : o.guard = none) (ty : TypeId) (x y : Operand) (ho : o.op = .store ty x y) (b off : Nat) (cs : List Value) (hx : a.eval x = .pointer (some ⟨b, off, none⟩)) (hy : a.eval y = .agg cs.toArray)
    (ht : w.there b off cs.length) (hi : (P.info? ty).map (·.size) = some cs.length) (h1 : cs.toArray.all (·.oneCell') = true) (h : K (a.put o.dst undef) (w.setCells b off cs)) : if Region.wanted o (yielded ops a.tmps) = true then Oper.wp P o a w K Q else E := by
  have hw : Region.wanted o (yielded ops a.tmps) = true := by simp [Region.wanted, hgd]
  rw [if_pos hw]
  refine wp_store_mid ty x y ho b off cs.toArray hx hy (by rw [List.size_toArray]; exact ht) (by rw [List.size_toArray]; exact hi) h1 ?_
  simpa using h
end
set_option maxRecDepth 100000 in
set_option maxHeartbeats 2000000 in
theorem jstate_any (gj gd : Nat) (J : Jr) (w : World) (h : JAt w gj gd J) :
    Calls Tryz.prog 25 #[.pointer (some ⟨gj, 0, none⟩)] w fun e w' => e = .returned (.tuple #[.agg (stCells J.start J.count J.tag).toArray, .int .u64 (J.next : Int)]) ∧ Below w.heap.size w w' := by
  obtain ⟨W0, hW0⟩ : ∃ W0 : World, W0 = w.alloc (.cells st0.toArray 41) := ⟨_, rfl⟩
  have y0 : Below w.heap.size w W0.drew := by rw [hW0]; exact ((Below.refl _ _).alloc (Nat.le_refl _) _).drew
  have hj : JAt W0.drew gj gd J := h.under y0
  have kz : Blk W0.drew w.heap.size 41 st0.toArray := by rw [hW0]; exact (Blk.new_of rfl rfl).drew
  have hl := stCells_length J.start J.count J.tag
  rw [h.ht] at hl
  have h1 := stCells_one J.start J.count J.tag
  have h1' : ∀ v ∈ stCells J.start J.count J.tag, v.oneCell' = true := fun v hv => by
    have := Array.all_eq_true_iff_forall_mem.1 h1 v (by simpa using hv)
    exact this
  have c69 := hj.c69
  have hst := hj.st
  generalize stCells J.start J.count J.tag = st at *
  have hu := Tryz.underlying41
  have hi48 : (Tryz.prog.info? 41).map (·.size) = some st.length := by rw [hl]; kernel_rfl
  have hth : W0.drew.there w.heap.size 0 st.length := kz.there (by rw [hl]; exact Nat.le_refl _)
  have HW0 := Lib.hid hW0
  have HY := Lib.hid kz
  have HL := Lib.hid hl
  have hlt := h.blk.lt
  clear hW0 hl h hj kz
  go_enter Tryz.func25, Tryz.ntmps25
  go_wp2
  rw [show (w.alloc (.cells #[.int .u64 0, .int .u64 0, .int .u8 0, .int .u8 0, .int .u8 0, .int .u8 0, .int .u8 0, .int .u8 0, .int .u8 0, .int .u8 0, .int .u8 0, .int .u8 0, .int .u8 0, .int .u8 0, .int .u8 0, .int .u8 0, .int .u8 0, .int .u8 0, .int .u8 0, .int .u8 0, .int .u8 0, .int .u8 0, .int .u8 0, .int .u8 0, .int .u8 0, .int .u8 0, .int .u8 0, .int .u8 0, .int .u8 0, .int .u8 0, .int .u8 0, .int .u8 0, .int .u8 0, .int .u8 0] 41)) = W0 from HW0.out.symm]
  have g1 : W0.drew.grownBy (W0.drew.setCells w.heap.size 0 st) (some w.heap.size) := grownBy_setCells w.heap.size st 0 (World.grownBy.refl W0.drew _)
  have hne : ∀ i, (W0.drew.setCells w.heap.size 0 st).cell? ⟨gj, i, none⟩ = W0.drew.cell? ⟨gj, i, none⟩ := fun i => World.cell?_of_block (a := ⟨gj, i, none⟩) (g1.block gj (Nat.lt_of_lt_of_le hlt y0.size) (fun e => by injection e with e; omega))
  have hS0 : W0.drew.rangeAt gj 35 st ∧ W0.drew.cell? ⟨gj, 69, none⟩ = some (.int .u64 (J.next : Int)) ∧ W0.drew.there w.heap.size 0 st.length := ⟨hst, c69, hth⟩
  have hS2 : (W0.drew.setCells w.heap.size 0 st).rangeAt gj 35 st ∧ (W0.drew.setCells w.heap.size 0 st).cell? ⟨gj, 69, none⟩ = some (.int .u64 (J.next : Int)) ∧ (W0.drew.setCells w.heap.size 0 st).there w.heap.size 0 st.length := ⟨fun j v hj => (hne _).trans (hst j v hj), (hne 69).trans c69, World.there_setCells hth _ _ _⟩
  refine wp_region_held_drew (S := fun w' => w'.rangeAt gj 35 st ∧ w'.cell? ⟨gj, 69, none⟩ = some (.int .u64 (J.next : Int)) ∧ w'.there w.heap.size 0 st.length) (by kernel_rfl) hS0 (fun _ => ?_)
  refine wpAnyH_take (i := 0) (oi := ⟨some 7, _, _, _, _, _⟩) (v := (.pointer (some ⟨gj, 0, none⟩))) rfl (by kernel_rfl) (by kernel_rfl) (by kernel_rfl) (fun _ _ _ h => h) (Or.inl ⟨by rfl, by intro W hS; obtain ⟨s1, s2, s3⟩ := hS; go_simp⟩) hS0 ?_
  simp only [Act.put, List.setIfInBounds_toArray, List.set_cons_zero, List.set_cons_succ]
  refine wpAnyH_take (i := 1) (oi := ⟨some 8, _, _, _, _, _⟩) (v := (.pointer (some ⟨gj, 0, none⟩))) rfl (by kernel_rfl) (by kernel_rfl) (by kernel_rfl) (fun _ _ _ h => h) (Or.inl ⟨by rfl, by intro W hS; obtain ⟨s1, s2, s3⟩ := hS; go_simp⟩) hS0 ?_
  simp only [Act.put, List.setIfInBounds_toArray, List.set_cons_zero, List.set_cons_succ]
  refine wpAnyH_take (i := 2) (oi := ⟨some 9, _, _, _, _, _⟩) (v := (.pointer (some ⟨gj, 35, none⟩))) rfl (by kernel_rfl) (by kernel_rfl) (by kernel_rfl) (fun _ _ _ h => h) (Or.inl ⟨by rfl, by intro W hS; obtain ⟨s1, s2, s3⟩ := hS; go_simp⟩) hS0 ?_
  simp only [Act.put, List.setIfInBounds_toArray, List.set_cons_zero, List.set_cons_succ]
  refine wpAnyH_take (i := 3) (oi := ⟨some 10, _, _, _, _, _⟩) (v := .agg st.toArray) rfl (by kernel_rfl) (by kernel_rfl) (by kernel_rfl) (fun _ _ _ h => h) (yieldsIf_load_mid (by rfl) 41 _ rfl gj 35 (by rfl) st _ (fun W h => h.1) hu rfl hi48) hS0 ?_
  simp only [Act.put, List.setIfInBounds_toArray, List.set_cons_zero, List.set_cons_succ]
  refine wpAnyH_take (i := 4) (oi := ⟨some 11, _, _, _, _, _⟩) (v := (.pointer (some ⟨gj, 0, none⟩))) rfl (by kernel_rfl) (by kernel_rfl) (by kernel_rfl) (fun _ _ _ h => h) (Or.inl ⟨by rfl, by intro W hS; obtain ⟨s1, s2, s3⟩ := hS; go_simp⟩) hS0 ?_
  simp only [Act.put, List.setIfInBounds_toArray, List.set_cons_zero, List.set_cons_succ]
  refine wpAnyH_take (i := 5) (oi := ⟨some 12, _, _, _, _, _⟩) (v := (.pointer (some ⟨gj, 0, none⟩))) rfl (by kernel_rfl) (by kernel_rfl) (by kernel_rfl) (fun _ _ _ h => h) (Or.inl ⟨by rfl, by intro W hS; obtain ⟨s1, s2, s3⟩ := hS; go_simp⟩) hS0 ?_
  simp only [Act.put, List.setIfInBounds_toArray, List.set_cons_zero, List.set_cons_succ]
  refine wpAnyH_take (i := 6) (oi := ⟨some 13, _, _, _, _, _⟩) (v := (.pointer (some ⟨gj, 69, none⟩))) rfl (by kernel_rfl) (by kernel_rfl) (by kernel_rfl) (fun _ _ _ h => h) (Or.inl ⟨by rfl, by intro W hS; obtain ⟨s1, s2, s3⟩ := hS; go_simp⟩) hS0 ?_
  simp only [Act.put, List.setIfInBounds_toArray, List.set_cons_zero, List.set_cons_succ]
  refine wpAnyH_take (i := 7) (oi := ⟨some 14, _, _, _, _, _⟩) (v := (.int .u64 (J.next : Int))) rfl (by kernel_rfl) (by kernel_rfl) (by kernel_rfl) (fun _ _ _ h => h) (Or.inl ⟨by rfl, by intro W hS; obtain ⟨s1, s2, s3⟩ := hS; go_simp⟩) hS0 ?_
  simp only [Act.put, List.setIfInBounds_toArray, List.set_cons_zero, List.set_cons_succ]
  refine wpAnyH_ready (rs := [8]) (by kernel_rfl) (by simp) ?_
  refine AllReadyH.cons (o := ⟨none, .store 41 (.tmp 2) (.tmp 10), _, _, _, _⟩) rfl (fun K' hK => ?_) AllReadyH.nil
  rw [if_pos (by rfl)]
  refine wp_store_mid _ _ _ rfl _ _ (List.toArray _) rfl rfl ?_ ?_ h1 ?_
  · simpa using hth
  · rw [List.size_toArray]; exact hi48
  simp only [Act.put]
  refine hK.out _ _ hS2 (fun _ => ?_)
  clear hK
  refine wpAnyH_take (i := 9) (oi := ⟨some 3, _, _, _, _, _⟩) (v := .int .u64 (J.next : Int)) rfl (by kernel_rfl) (by kernel_rfl) (by kernel_rfl) (fun _ _ _ h => h) (Or.inl ⟨by rfl, by intro W hS; go_simp⟩) hS2 ?_
  simp only [Act.put, List.setIfInBounds_toArray, List.set_cons_zero, List.set_cons_succ]
  refine wpAnyH_done (by kernel_rfl) ?_ _
  have kF : Blk (W0.drew.setCells w.heap.size 0 st) w.heap.size 41 st.toArray := by
    have h := Blk.put st [] st0 [] W0.drew (by rw [HL.out]; rfl) (by simpa using HY.out)
    simpa using h
  go_wp2
  refine bodyPost_ret (results_row_tmp (fr := (0, 0)) rfl _ _ w.heap.size 41 _ _ rfl kF Tryz.underlying41 rfl (by rw [List.size_toArray]; exact hi48)) rfl ?_
  exact ⟨rfl, y0.grown g1 y0.size (fun k e => by injection e with e; omega)⟩
end Go.Proofs.YtkhebllmnagkmaaGreatDoor
/- Contract of the journal's Adopt, of a state that may be. Conditions: what it names. -/
namespace Go.Proofs.YtkhebllmnagkmaaGreatDoor
open Go.RowKit
set_option linter.unusedVariables false

/-- A call of a function by its contract, as one step of a region that draws its order, its guard let by. -/
theorem step_call_w {P : Program} {ops : Array Oper} {o : Oper} {a : Act} {w : World} {K : Act → World → Prop} {Q : Exit → Act → World → Prop} {E : Prop} (hw : Region.wanted o (yielded ops a.tmps) = true) (f : FuncId) (argOps : List Operand) (tys : Array TypeId)
    (ho : o.op = .call { callee := .value (.func f), args := argOps.toArray, argTypes := tys }) (args : List Value) (ha : argOps.map a.eval = args) (he : ∀ args w, (callFunc f args).run P w = .ok (.enter f args) w) (R : Ending → World → Prop) (hc : Calls P f args.toArray w R)
    (hR : ∀ e w', R e w' → ∃ v, e = .returned v ∧ K (a.put o.dst v) w') : if Region.wanted o (yielded ops a.tmps) = true then Oper.wp P o a w K Q else E := by
  rw [if_pos hw]
  subst ha
  unfold Oper.wp
  have hrun : (execOp a.eval o).run P w = .ok (.enter f (argOps.map a.eval).toArray) w := by
    simp only [execOp, ho, resolve, invoke, Act.eval, go_sem]
    simp [he]
  rw [hrun, Oper.upon_enter]
  refine hc.mono fun e w' h => ?_
  obtain ⟨v, rfl, hk⟩ := hR e w' h
  exact hk
theorem jr_adopt (gd : Nat) (J : Jr) (start count lim : Nat) (tag : List UInt8) (hk : J.key.length = 32) (ht : J.tag.length = 32) (ht2 : tag.length = 32) :
    (jrHead gd J ++ (stCells start count tag ++ [Value.int .u64 (J.next : Int), .int .u64 (J.limit : Int)])).toArray.setIfInBounds 70 (.int .u64 (lim : Int)) = (jrCells gd { J with start := start, count := count, tag := tag, limit := lim }).toArray := by
  unfold jrCells
  rw [List.setIfInBounds_toArray, List.set_append_right _ _ (by rw [jrHead_length _ _ hk]; omega), jrHead_length _ _ hk, List.set_append_right _ _ (by rw [stCells_length, ht2]; omega), stCells_length, ht2]
  rfl
set_option maxRecDepth 100000 in
set_option maxHeartbeats 2000000 in
theorem jadopt_any (gj gd start count lim : Nat) (tag : List UInt8) (J : Jr) (w : World) (h : JAt w gj gd J) (ht : tag.length = 32) (h1 : start < J.size) (h2 : count ≤ J.size) (h3 : lim ≤ 9223372036854775807) :
    Calls Tryz.prog 21 #[.pointer (some ⟨gj, 0, none⟩), .agg (stCells start count tag).toArray, .int .u64 (lim : Int)] w fun e w' => e = .returned (.tuple #[]) ∧ JAt w' gj gd { J with start := start, count := count, tag := tag, limit := lim } ∧ w.grownBy w' (some gj) := by
  have hmay := fun W => may_yes start count J.size tag W h1 h2
  have emay : ∀ args w, (callFunc 32 args).run Tryz.prog w = .ok (.enter 32 args) w := enters_of Tryz.func32 (by kernel_rfl) rfl
  obtain ⟨W0, hW0⟩ : ∃ W0 : World, W0 = w.alloc (.cells (stCells start count tag).toArray 41) := ⟨_, rfl⟩
  have y0 : Below w.heap.size w W0.drew := by rw [hW0]; exact ((Below.refl _ _).alloc (Nat.le_refl _) _).drew
  have hj : JAt W0.drew gj gd J := h.under y0
  have kb : Blk W0.drew w.heap.size 41 (stCells start count tag).toArray := by rw [hW0]; exact (Blk.new_of rfl rfl).drew
  have hl := stCells_length start count tag
  rw [ht] at hl
  have h1s := stCells_one start count tag
  have hcell : ∀ W : World, JAt W gj gd J → W.cell? ⟨gj, 34, none⟩ = some (.int .u64 (J.size : Int)) := fun W hW => hW.c34
  have hadopt := jr_adopt gd J start count lim tag h.hk h.ht ht
  have hfin : ∀ W, Blk W gj 89 (jrCells gd { J with start := start, count := count, tag := tag, limit := lim }).toArray → JAt W gj gd { J with start := start, count := count, tag := tag, limit := lim } := fun W hb => ⟨hb, h.hk, ht⟩
  generalize hst : stCells start count tag = st at *
  have hu := Tryz.underlying41
  have hi48 : (Tryz.prog.info? 41).map (·.size) = some st.length := by rw [hl]; kernel_rfl
  have c34 := hcell _ hj
  have hrg : W0.drew.rangeAt w.heap.size 0 st := Blk.range kb
  have hgl := h.blk.lt
  have HW0 := Lib.hid hW0
  have HL := Lib.hid hl
  have HS := Lib.hid hst
  have HC := Lib.hid hcell
  have hS0 : W0.drew.rangeAt w.heap.size 0 st ∧ W0.drew.cell? ⟨gj, 34, none⟩ = some (.int .u64 (J.size : Int)) := ⟨hrg, c34⟩
  clear hW0 hl hst hcell hu
  have hu := Tryz.underlying41
  go_enter Tryz.func21, Tryz.ntmps21
  go_wp2
  rw [← HW0.out]
  refine wp_region_held_drew (S := fun w' => w'.rangeAt w.heap.size 0 st ∧ w'.cell? ⟨gj, 34, none⟩ = some (.int .u64 (J.size : Int))) (by kernel_rfl) hS0 (fun _ => ?_)
  refine wpAnyH_take (i := 0) (oi := ⟨some 6, _, _, _, _, _⟩) (v := (.pointer (some ⟨gj, 0, none⟩))) rfl (by kernel_rfl) (by kernel_rfl) (by kernel_rfl) (fun _ _ _ h => h) (Or.inl ⟨by rfl, by intro W hS; obtain ⟨s1, s2⟩ := hS; go_simp⟩) hS0 ?_
  simp only [Act.put, List.setIfInBounds_toArray, List.set_cons_zero, List.set_cons_succ]
  refine wpAnyH_take (i := 1) (oi := ⟨some 7, _, _, _, _, _⟩) (v := (.bool true)) rfl (by kernel_rfl) (by kernel_rfl) (by kernel_rfl) (fun _ _ _ h => h) (Or.inl ⟨by rfl, by intro W hS; obtain ⟨s1, s2⟩ := hS; go_simp⟩) hS0 ?_
  simp only [Act.put, List.setIfInBounds_toArray, List.set_cons_zero, List.set_cons_succ]
  refine wpAnyH_take (i := 2) (oi := ⟨some 8, _, _, _, _, _⟩) (v := (.bool true)) rfl (by kernel_rfl) (by kernel_rfl) (by kernel_rfl) (fun _ _ _ h => h) (Or.inl ⟨by rfl, by intro W hS; obtain ⟨s1, s2⟩ := hS; go_simp⟩) hS0 ?_
  simp only [Act.put, List.setIfInBounds_toArray, List.set_cons_zero, List.set_cons_succ]
  refine wpAnyH_take (i := 3) (oi := ⟨some 9, _, _, _, _, _⟩) (v := .agg st.toArray) rfl (by kernel_rfl) (by kernel_rfl) (by kernel_rfl) (fun _ _ _ h => h) (yieldsIf_load_mid (by rfl) 41 _ rfl w.heap.size 0 (by rfl) st _ (fun W h => h.1) hu rfl hi48) hS0 ?_
  simp only [Act.put, List.setIfInBounds_toArray, List.set_cons_zero, List.set_cons_succ]
  refine wpAnyH_take (i := 4) (oi := ⟨some 10, _, _, _, _, _⟩) (v := (.pointer (some ⟨gj, 0, none⟩))) rfl (by kernel_rfl) (by kernel_rfl) (by kernel_rfl) (fun _ _ _ h => h) (Or.inl ⟨by rfl, by intro W hS; obtain ⟨s1, s2⟩ := hS; go_simp⟩) hS0 ?_
  simp only [Act.put, List.setIfInBounds_toArray, List.set_cons_zero, List.set_cons_succ]
  refine wpAnyH_take (i := 5) (oi := ⟨some 11, _, _, _, _, _⟩) (v := (.pointer (some ⟨gj, 0, none⟩))) rfl (by kernel_rfl) (by kernel_rfl) (by kernel_rfl) (fun _ _ _ h => h) (Or.inl ⟨by rfl, by intro W hS; obtain ⟨s1, s2⟩ := hS; go_simp⟩) hS0 ?_
  simp only [Act.put, List.setIfInBounds_toArray, List.set_cons_zero, List.set_cons_succ]
  refine wpAnyH_take (i := 6) (oi := ⟨some 12, _, _, _, _, _⟩) (v := (.pointer (some ⟨gj, 34, none⟩))) rfl (by kernel_rfl) (by kernel_rfl) (by kernel_rfl) (fun _ _ _ h => h) (Or.inl ⟨by rfl, by intro W hS; obtain ⟨s1, s2⟩ := hS; go_simp⟩) hS0 ?_
  simp only [Act.put, List.setIfInBounds_toArray, List.set_cons_zero, List.set_cons_succ]
  refine wpAnyH_take (i := 7) (oi := ⟨some 13, _, _, _, _, _⟩) (v := (.int .u64 (J.size : Int))) rfl (by kernel_rfl) (by kernel_rfl) (by kernel_rfl) (fun _ _ _ h => h) (Or.inl ⟨by rfl, by intro W hS; obtain ⟨s1, s2⟩ := hS; go_simp⟩) hS0 ?_
  simp only [Act.put, List.setIfInBounds_toArray, List.set_cons_zero, List.set_cons_succ]
  refine wpAnyH_ready (rs := [8]) (by kernel_rfl) (by simp) ?_
  refine AllReadyH.cons (o := ⟨some 14, .call { callee := .value (.func 32), args := #[.tmp 9, .tmp 13], argTypes := #[41, 39] }, _, _, _, _⟩) rfl (fun K' hK => ?_) AllReadyH.nil
  refine step_call_w (by rfl) 32 [.tmp 9, .tmp 13] _ rfl [.agg st.toArray, .int .u64 (J.size : Int)] rfl emay _ (hmay _) ?_
  rintro e w1 ⟨rfl, b1⟩
  have hS1 : w1.rangeAt w.heap.size 0 st ∧ w1.cell? ⟨gj, 34, none⟩ = some (.int .u64 (J.size : Int)) := ⟨range_below hrg b1 kb.lt, (b1.cell (p := ⟨gj, 34, none⟩) hj.blk.lt).trans c34⟩
  refine ⟨_, rfl, hK.out _ _ hS1 (fun _ => ?_)⟩
  clear hK
  simp only [Act.put, List.setIfInBounds_toArray, List.set_cons_zero, List.set_cons_succ]
  refine wpAnyH_take (i := 9) (oi := ⟨some 15, _, _, _, _, _⟩) (v := .bool true) rfl (by kernel_rfl) (by kernel_rfl) (by kernel_rfl) (fun _ _ _ h => h) (Or.inl ⟨by rfl, by intro W hS; go_simp⟩) hS1 ?_
  simp only [Act.put, List.setIfInBounds_toArray, List.set_cons_zero, List.set_cons_succ]
  refine wpAnyH_done (by kernel_rfl) ?_ _
  clear hS1
  have kb1 : Blk w1 w.heap.size 41 st.toArray := (b1.block _ kb.lt).trans kb
  have j1 : JAt w1 gj gd J := hj.under b1
  have hmin : IntKind.u64.wrap (lim : Int) = lim := by rw [IntKind.wrap_u64]; omega
  have hmn : min (lim : Int) 9223372036854775807 = lim := by omega
  iterate 10 go_step
  refine wpList_load_blk rfl 41 (.tmp 4) rfl w.heap.size rfl 41 st.toArray _ kb1 hu rfl (by rw [List.size_toArray]; exact hi48) ?_
  go_wp2
  obtain ⟨w2, hw2⟩ : ∃ w2 : World, w2 = w1.setRow gj (jrHead gd J ++ (st ++ [Value.int .u64 (J.next : Int), .int .u64 (J.limit : Int)])).toArray := ⟨_, rfl⟩
  have hsc : (storeCells ⟨gj, 35, none⟩ st).run Tryz.prog w1 = .ok () w2 := by
    have hsz : (jrCells gd J).length = 71 := by simp [jrCells, jrHead_length _ _ j1.hk, stCells_length, j1.ht]
    have := run_storeCells_at (P := Tryz.prog) gj 35 89 st 0 (jrCells gd J).toArray w1 j1.blk (by rw [List.size_toArray, hsz, HL.out]; decide) (fun v hv => by
      have := Array.all_eq_true_iff_forall_mem.1 h1s v (by simpa using hv)
      exact this)
    rw [this, hw2]
    have e1 : (jrCells gd J).take 35 = jrHead gd J := by unfold jrCells; rw [List.take_append_of_le_length (by rw [jrHead_length _ _ j1.hk]; omega), List.take_of_length_le (by rw [jrHead_length _ _ j1.hk]; omega)]
    have e2 : (jrCells gd J).drop (35 + 0 + st.length) = [Value.int .u64 (J.next : Int), .int .u64 (J.limit : Int)] := by
      rw [show 35 + 0 + st.length = 69 by rw [HL.out]]
      unfold jrCells
      rw [← List.append_assoc, List.drop_append_of_le_length (by simp [jrHead_length _ _ j1.hk, stCells_length, j1.ht]), List.drop_of_length_le (by simp [jrHead_length _ _ j1.hk, stCells_length, j1.ht])]
      rfl
    rw [List.toList_toArray, e2, Nat.add_zero, e1, List.append_assoc]
  have k2 : Blk w2 gj 89 (jrHead gd J ++ (st ++ [Value.int .u64 (J.next : Int), .int .u64 (J.limit : Int)])).toArray := by rw [hw2]; exact setRow_heap w1 gj _ _ _ _ j1.blk
  have g2 : w1.grownBy w2 (some gj) := by rw [hw2]; exact grownBy_setRow _ _ _
  have c70 : w2.cell? ⟨gj, 70, none⟩ = some (.int .u64 (J.limit : Int)) := (k2.cell 70).trans (by
    rw [List.getElem?_toArray, List.getElem?_append_right (by rw [jrHead_length _ _ j1.hk]; omega), jrHead_length _ _ j1.hk, List.getElem?_append_right (by rw [HL.out]; decide), HL.out]; rfl)
  have f70 : w2.frozen? ⟨gj, 70, none⟩ = false := k2.frozen 70
  have K2 := Lib.hid k2
  have G2 := Lib.hid g2
  clear hw2 k2 g2
  rw [hsc]
  clear hsc
  go_simp
  go_wp2
  go_end0
  have hB : Blk (w2.setCell ⟨gj, 70, none⟩ (.int .u64 (lim : Int))) gj 89 (jrCells gd { J with start := start, count := count, tag := tag, limit := lim }).toArray := by
    rw [setCell_eq_setRow w2 gj 70 _ _ _ _ K2.out, hadopt]
    exact setRow_heap w2 gj _ _ _ _ K2.out
  exact ⟨rfl, hfin _ hB, only_setCell ((only_of_below (y0.trans (b1.mono y0.size)) _).trans G2.out) (Or.inl rfl) _⟩
end Go.Proofs.YtkhebllmnagkmaaGreatDoor
/- Contracts of record.Of and of the journal's Append, of no image. Conditions: what each names. -/
namespace Go.Proofs.YtkhebllmnagkmaaGreatDoor
open Go.RowKit
set_option linter.unusedVariables false

theorem of_none (A : Option Addr) (c : Nat) (w : World) : Calls Tryz.prog 33 #[.slice A 0 c] w fun e w' => e = .returned (.tuple #[.slice none 0 0, .int .i64 1]) ∧ Below w.heap.size w w' := by
  go_enter Tryz.func33, Tryz.ntmps33
  go_wp2
  go_ret2
  exact ⟨rfl, Below.refl _ _⟩
set_option maxRecDepth 100000 in
set_option maxHeartbeats 4000000 in
theorem append_none (gj : Nat) (A : Option Addr) (c : Nat) (w : World) :
    Calls Tryz.prog 11 #[.pointer (some ⟨gj, 0, none⟩), .slice A 0 c] w fun e w' => e = .returned (.tuple #[.agg st0.toArray, .int .i64 1]) ∧ Below w.heap.size w w' := by
  obtain ⟨W0, hW0⟩ : ∃ W0 : World, W0 = (w.alloc (.cells #[.pointer (some ⟨gj, 0, none⟩)] 36)).alloc (.cells st0.toArray 41) := ⟨_, rfl⟩
  have y0 : Below w.heap.size w W0 := by rw [hW0]; exact ((Below.refl _ _).alloc (Nat.le_refl _) _).alloc (by simp) _
  have kz0 : Blk W0 (w.heap.size + 1) 41 st0.toArray := by rw [hW0]; exact Blk.new_of (by simp) rfl
  have hof := of_none A c W0
  rw [hW0] at hof
  have HW0 := Lib.hid hW0
  clear hW0
  go_enter Tryz.func11, Tryz.ntmps11
  go_wp2_with (first | (go_at_call 33; refine hof.mono ?_; rintro e w1 ⟨rfl, b1⟩; rw [← HW0.out] at b1) | ((with_reducible refine wpList_store_blk (o := ⟨none, .store 41 (.tmp 4) (.tmp 28), _, _, _, _⟩) rfl 41 (.tmp 4) (.tmp 28) rfl (w.heap.size + 1) st0.toArray rfl rfl 41 st0.toArray (kz0.below b1 kz0.lt) (by kernel_rfl) rfl (by kernel_rfl) ?_); intro w3 k3 g3 s3; have S3 := Lib.hid s3; clear s3))
  refine bodyPost_ret (results_row_tmp (fr := (0, 0)) rfl _ _ (w.heap.size + 1) 41 _ _ rfl k3 Tryz.underlying41 rfl (by kernel_rfl)) rfl ?_
  exact ⟨rfl, (y0.trans (b1.mono y0.size)).grown g3 (Nat.le_trans y0.size b1.size) (fun k e => by injection e with e; omega)⟩
end Go.Proofs.YtkhebllmnagkmaaGreatDoor
