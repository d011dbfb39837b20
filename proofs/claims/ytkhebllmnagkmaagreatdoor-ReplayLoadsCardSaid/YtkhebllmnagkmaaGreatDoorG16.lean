/- Contracts and lemmas under the statements of this seat, one behind the other. Conditions: what each names. -/
import Derived.Test.YtkhebllmnagkmaaGreatDoorG15
import Derived.Sort.Grow
import Derived.Lib.Small
import Derived.Shelf.GgSortFunc.InsertionK
import Derived.Shelf.SlSortCmp.WholeK
import Derived.Shelf.SlGeneric
import Derived.Ground.SlsfProg
import Derived.Test.YtkhebllmnagkmaaGreatDoorProg
import Derived.OpenShut
/- Contracts of cmp.Compare at uint64, and of the closure of replay.Latest that compares images by it. Conditions: none. -/
namespace Go.Proofs.YtkhebllmnagkmaaGreatDoor
open Go.RowKit Go.Sort
set_option linter.unusedVariables false

/-- An image's two cells: the block, a slice of bytes. -/
abbrev ImV := Nat × (Option Addr × Nat × Nat)
def encI (p : ImV) : List Value := [.int .u64 (p.1 : Int), .slice p.2.1 p.2.2.1 p.2.2.2]
def cmpI (p q : ImV) : Int := Lib.compareInt (p.1 : Int) (q.1 : Int)
theorem nan_no (x : Nat) (w : World) : Calls Tryz.prog 86 #[.int .u64 (x : Int)] w fun e w' => e = .returned (.bool false) ∧ w = w' := by
  go_enter Tryz.func86, Tryz.ntmps86
  go_wp2
  go_ret
  exact ⟨rfl, rfl⟩
theorem compare_any (x y : Nat) (w : World) : Calls Tryz.prog 62 #[.int .u64 (x : Int), .int .u64 (y : Int)] w fun e w' => e = .returned (.int .i64 (Lib.compareInt (x : Int) (y : Int))) ∧ w = w' := by
  have hn := fun x w => nan_no x w
  unfold Lib.compareInt
  by_cases h1 : (x : Int) < (y : Int)
  · have g1 : x < y := by omega
    go_enter Tryz.func62, Tryz.ntmps62
    go_wp2_with (go_at_call 86; refine (hn _ _).mono ?_; rintro e w' ⟨rfl, rfl⟩)
    go_ret
    exact ⟨rfl, rfl⟩
  · by_cases h2 : (y : Int) < (x : Int)
    · have g1 : ¬ x < y := by omega
      have g2 : y < x := by omega
      go_enter Tryz.func62, Tryz.ntmps62
      go_wp2_with (go_at_call 86; refine (hn _ _).mono ?_; rintro e w' ⟨rfl, rfl⟩)
      go_ret
      exact ⟨rfl, rfl⟩
    · have g1 : ¬ x < y := by omega
      have g2 : ¬ y < x := by omega
      go_enter Tryz.func62, Tryz.ntmps62
      go_wp2_with (go_at_call 86; refine (hn _ _).mono ?_; rintro e w' ⟨rfl, rfl⟩)
      go_ret
      exact ⟨rfl, rfl⟩
theorem closure_any (p q : ImV) (w : World) : Calls Tryz.prog 61 #[.agg (encI p).toArray, .agg (encI q).toArray] w fun e w' => e = .returned (.int .i64 (cmpI p q)) ∧ ∃ n os', w' = grow (w.drewN n) os' := by
  obtain ⟨x, A, n, c⟩ := p
  obtain ⟨y, B, m, d⟩ := q
  have hcon := fun W' => compare_any x y W'
  unfold cmpI encI
  simp only
  generalize Lib.compareInt (x : Int) (y : Int) = r at hcon ⊢
  go_enter Tryz.func61, Tryz.ntmps61
  go_wp2_with (go_at_call 62; refine (hcon _).mono ?_; rintro e w' ⟨rfl, rfl⟩)
  go_ret
  exact ⟨rfl, 0, _, by rw [alloc_eq_grow, alloc_eq_grow, grow_grow]; rfl⟩
end Go.Proofs.YtkhebllmnagkmaaGreatDoor
/- Rows of images that are sorted. Plain lemmas over worlds. -/
namespace Go.Proofs.YtkhebllmnagkmaaGreatDoor
open Go.RowKit Go.Sort
set_option linter.unusedVariables false

def encs (ds : List ImV) : List Value := (ds.map encI).flatten
def slV (q : Option Addr × Nat × Nat) : Value := .slice q.1 q.2.1 q.2.2
theorem encs_length (ds : List ImV) : (encs ds).length = ds.length * 2 := by
  induction ds with
  | nil => rfl
  | cons p ds ih => unfold encs at *; rw [List.map_cons, List.flatten_cons, List.length_append, ih, List.length_cons]; simp [encI]; omega
theorem encs_append (a b : List ImV) : encs (a ++ b) = encs a ++ encs b := by unfold encs; simp
theorem encs_get (ds : List ImV) (i : Nat) (p : ImV) (h : ds[i]? = some p) : (encs ds)[2 * i]? = some (.int .u64 (p.1 : Int)) ∧ (encs ds)[2 * i + 1]? = some (slV p.2) := by
  induction ds generalizing i with
  | nil => simp at h
  | cons q ds ih =>
    have e : encs (q :: ds) = .int .u64 (q.1 : Int) :: slV q.2 :: encs ds := rfl
    rw [e]
    cases i with
    | zero => simp at h; subst h; exact ⟨rfl, rfl⟩
    | succ i =>
      simp at h
      obtain ⟨h1, h2⟩ := ih i h
      exact ⟨by rw [show 2 * (i + 1) = 2 * i + 1 + 1 by omega]; simpa using h1, by rw [show 2 * (i + 1) + 1 = 2 * i + 1 + 1 + 1 by omega]; simpa using h2⟩
theorem flatK_encs (ds : List ImV) : (flatK encI 2 ds.toArray).toList = encs ds := by
  refine List.ext_getElem? fun t => ?_
  by_cases ht : t < ds.length * 2
  · have hq : t / 2 < ds.length := by omega
    have h1 := encs_get ds (t / 2) _ (List.getElem?_eq_getElem hq)
    have hsz : t < (flatK encI 2 ds.toArray).size := by rw [size_flatK]; simpa using ht
    have h2 := get_flatK encI 2 ds.toArray t (by simpa using ht)
    rw [getElem!_pos _ t hsz] at h2
    rw [Array.getElem?_toList, Array.getElem?_eq_getElem hsz, h2]
    have h3 : ds.toArray[t / 2]! = ds[t / 2] := by rw [getElem!_pos _ _ (by simpa using hq)]; simp
    rw [h3]
    rcases Nat.mod_two_eq_zero_or_one t with h | h
    · have e : t = 2 * (t / 2) := by omega
      rw [h, show (encs ds)[t]? = (encs ds)[2 * (t / 2)]? from by rw [← e], h1.1]
      rfl
    · have e : t = 2 * (t / 2) + 1 := by omega
      rw [h, show (encs ds)[t]? = (encs ds)[2 * (t / 2) + 1]? from by rw [← e], h1.2]
      rfl
  · rw [List.getElem?_eq_none (by rw [Array.length_toList, size_flatK]; simp; omega), List.getElem?_eq_none (by rw [encs_length]; omega)]
/-- A row of images whose bytes lie in memory of the call's own. -/
def RowIO (w : World) (base : Nat) (xs : List Value) (l : List Img) : Prop := ∀ (i : Nat) (p : Img), l[i]? = some p → xs[2 * i]? = some (.int .u64 (p.1 : Int)) ∧ ∃ v, xs[2 * i + 1]? = some v ∧ Owns w base v p.2
theorem Owns.keep {w w' : World} {base : Nat} {v : Value} {b : List UInt8} (h : Owns w base v b) (hk : ∀ k, Kind w k 5 → w'.heap[k]? = w.heap[k]?) : Owns w' base v b := own_keep h fun k e => hk k (own_kind h e)
theorem RowIO.keep {w w' : World} {base : Nat} {xs : List Value} {l : List Img} (h : RowIO w base xs l) (hk : ∀ k, Kind w k 5 → w'.heap[k]? = w.heap[k]?) : RowIO w' base xs l := fun i p hp => by
  obtain ⟨h0, v, h1, h2⟩ := h i p hp
  exact ⟨h0, v, h1, h2.keep hk⟩
theorem RowIO.rowI {w : World} {base : Nat} {xs : List Value} {l : List Img} (h : RowIO w base xs l) : RowI w xs l := fun i p hp => by
  obtain ⟨h0, v, h1, h2⟩ := h i p hp
  exact ⟨h0, v, h1, h2.isSl⟩
theorem RowIO.lower {w : World} {base b' : Nat} {xs : List Value} {l : List Img} (h : RowIO w base xs l) (hb : b' ≤ base) : RowIO w b' xs l := fun i p hp => by
  obtain ⟨h0, v, h1, h2⟩ := h i p hp
  exact ⟨h0, v, h1, h2.lower hb⟩
/-- What the round over the map has put into the row. -/
structure Took (w : World) (base : Nat) (l : List Img) (ds : List ImV) : Prop where
  mem : ∀ p ∈ ds, p.1 < 18446744073709551616 ∧ ∃ b, lastOf l p.1 = some b ∧ Owns w base (slV p.2) b
  apart : ds.Pairwise (fun p q => p.1 ≠ q.1)
theorem Took.keep {w w' : World} {base : Nat} {l : List Img} {ds : List ImV} (h : Took w base l ds) (hk : ∀ k, Kind w k 5 → w'.heap[k]? = w.heap[k]?) : Took w' base l ds :=
  ⟨fun p hp => by obtain ⟨h1, b, h2, h3⟩ := h.mem p hp; exact ⟨h1, b, h2, h3.keep hk⟩, h.apart⟩
theorem Took.snoc {w : World} {base : Nat} {l : List Img} {ds : List ImV} {p : ImV} {b : List UInt8} (h : Took w base l ds) (h1 : p.1 < 18446744073709551616) (h2 : lastOf l p.1 = some b) (h3 : Owns w base (slV p.2) b) (h4 : ds.any (fun q => q.1 == p.1) = false) : Took w base l (ds ++ [p]) := by
  refine ⟨fun q hq => ?_, ?_⟩
  · rcases List.mem_append.1 hq with hq | hq
    · exact h.mem q hq
    · simp only [List.mem_singleton] at hq
      subst hq
      exact ⟨h1, b, h2, h3⟩
  · refine List.pairwise_append.2 ⟨h.apart, List.pairwise_singleton _ _, fun q hq r hr => ?_⟩
    simp only [List.mem_singleton] at hr
    subst hr
    intro e
    rw [List.any_eq_false] at h4
    have := h4 q hq
    simp [e] at this
theorem swoI : SWO (fun p q : ImV => decide (cmpI p q < 0)) := by
  have h : ∀ p q : ImV, decide (cmpI p q < 0) = decide (p.1 < q.1) := by
    intro p q
    unfold cmpI Lib.compareInt
    by_cases h1 : (p.1 : Int) < (q.1 : Int)
    · have : p.1 < q.1 := by omega
      simp [h1, this]
    · by_cases h2 : (q.1 : Int) < (p.1 : Int)
      · have : ¬ p.1 < q.1 := by omega
        simp [h1, h2, this]
      · have : ¬ p.1 < q.1 := by omega
        simp [h1, h2, this]
  exact ⟨fun x => by rw [h]; simp, fun x y z h1 h2 => by rw [h] at *; simp at *; omega, fun x y z h1 h2 => by rw [h] at *; simp at *; omega⟩
/-- A row that is sorted, of all that the map holds, is the last bytes of each block. -/
theorem took_sorted {w : World} {base : Nat} {l : List Img} {ds : List ImV} (h : Took w base l ds) (hall : ∀ x, (lastOf l x).isSome = true → ds.any (fun q => q.1 == x) = true) (hs : ds.Pairwise (fun p q => p.1 ≤ q.1)) : ds.length = (latest l).length ∧ RowIO w base (encs ds) (latest l) := by
  have hlt : (ds.map (·.1)).Pairwise (· < ·) := List.pairwise_map.2 ((hs.and h.apart).imp fun {p q} hpq => by have h1 := hpq.1; have h2 := hpq.2; omega)
  have hk : ds.map (·.1) = (latest l).map (·.1) := rising_eq hlt (latest_keys l) fun x => by
    rw [latest_mem_keys, ← lastOf_isSome (l := l)]
    constructor
    · intro hx
      obtain ⟨p, hp, rfl⟩ := List.mem_map.1 hx
      obtain ⟨_, b, hb, _⟩ := h.mem p hp
      rw [hb]
      rfl
    · intro hx
      obtain ⟨q, hq, e⟩ := List.any_eq_true.1 (hall x hx)
      exact List.mem_map.2 ⟨q, hq, by simpa using e⟩
  have hlen : ds.length = (latest l).length := by have := congrArg List.length hk; simpa using this
  refine ⟨hlen, fun i p hp => ?_⟩
  have hi : i < ds.length := by rw [hlen]; exact (List.getElem?_eq_some_iff.1 hp).1
  have hd : ds[i]? = some ds[i] := List.getElem?_eq_getElem hi
  have hfst : ds[i].1 = p.1 := by
    have e : (ds.map (·.1))[i]? = ((latest l).map (·.1))[i]? := by rw [hk]
    rw [List.getElem?_map, List.getElem?_map, hd, hp] at e
    simpa using e
  obtain ⟨h1, h2⟩ := encs_get ds i _ hd
  obtain ⟨_, b, hb, ho⟩ := h.mem _ (List.getElem_mem hi)
  have hpb := (latest_iff l p).1 (List.mem_of_getElem? hp)
  rw [hfst, hpb] at hb
  injection hb with hb
  rw [hfst] at h1
  refine ⟨h1, _, h2, ?_⟩
  rw [hb]
  exact ho
theorem own_holds {w : World} {base g n cap : Nat} {ds : List ImV} (ho : w.ownsRow base 79 2 (.slice (some ⟨g, 0, none⟩) n cap) n (encs ds)) : HoldsK encI 2 w g 0 ds.toArray := by
  intro j hj
  have hj' : j < (encs ds).length := by rw [encs_length]; simpa using hj
  have hk : Kind w g 79 := own_kind ho rfl
  have hc := World.ownsRow.cells ho (g := g) rfl j _ (List.getElem?_eq_getElem hj')
  rw [add_head] at hc
  rw [Nat.zero_add]
  have e : (flatK encI 2 ds.toArray)[j]! = (encs ds)[j] := by
    rw [getElem!_pos _ j hj]
    have h := flatK_encs ds
    simp only [← h, Array.getElem_toList]
  rcases ho.2 with ⟨h0, _⟩ | ⟨g', cap', cur, hv, _, hh, _⟩
  · cases h0
  · cases hv
    exact ⟨by rw [e]; exact hc, (show Blk w g 79 cur from hh).frozen j⟩
theorem sorted_world {w : World} {base g n cap m : Nat} {ds ds' : List ImV} {os : Array Obj} (ho : w.ownsRow base 79 2 (.slice (some ⟨g, 0, none⟩) n cap) n (encs ds)) (hp : ds'.length = ds.length) :
    w.grownBy (sortWorldK encI 2 w g 0 m ds'.toArray os) (some g) ∧ (sortWorldK encI 2 w g 0 m ds'.toArray os).ownsRow base 79 2 (.slice (some ⟨g, 0, none⟩) n cap) n (encs ds') := by
  have hn : ds.length = n := by have := ho.1; rw [encs_length] at this; omega
  rcases ho.2 with ⟨h0, _⟩ | ⟨g', cap', cur, hv, hb, hh, h1, h2, h3, h4⟩
  · cases h0
  · cases hv
    have hlt : g < w.heap.size := (Array.getElem?_eq_some_iff.1 hh).1
    have hsz : (flatK encI 2 ds'.toArray).size = n * 2 := by rw [size_flatK]; simp; omega
    have hg : (sortWorldK encI 2 w g 0 m ds'.toArray os).heap[g]? = some (.cells (Go.Sort.putCells id 0 (flatK encI 2 ds'.toArray) cur) 79 (0, 0)) := by
      show ((w.heap.modify g (onCells (Go.Sort.putCells id 0 (flatK encI 2 ds'.toArray)))) ++ os)[g]? = _
      rw [Array.getElem?_append_left (by simpa using hlt), Array.getElem?_modify, if_pos rfl, hh]
      rfl
    refine ⟨⟨rfl, rfl, rfl, ?_, fun k hk hne => ?_⟩, by rw [encs_length]; omega, .inr ⟨g, cap, _, rfl, hb, hg, h1, h2, ?_, ?_⟩⟩
    · show w.heap.size ≤ ((w.heap.modify g _) ++ os).size
      simp
    · show ((w.heap.modify g _) ++ os)[k]? = _
      have hkg : g ≠ k := fun e => hne (by rw [e])
      rw [Array.getElem?_append_left (by simpa using hk), Array.getElem?_modify, if_neg hkg]
    · simp [Go.Sort.putCells, h3]
    · rw [← flatK_encs]
      refine List.ext_getElem? fun j => ?_
      rw [List.getElem?_take]
      by_cases hj : j < n * 2
      · have hjc : j < cur.size := by rw [h3]; exact Nat.lt_of_lt_of_le hj (Nat.mul_le_mul_right _ h1)
        have hjf : j < (flatK encI 2 ds'.toArray).size := by omega
        rw [if_pos hj, Array.getElem?_toList, Array.getElem?_toList, Go.Sort.putCells, Array.getElem?_mapIdx, Array.getElem?_eq_getElem hjc, Array.getElem?_eq_getElem hjf, Option.map_some, if_pos ⟨Nat.zero_le _, by omega⟩]
        rw [Nat.sub_zero, getElem!_pos _ j hjf]
        rfl
      · rw [if_neg hj, List.getElem?_eq_none (by rw [Array.length_toList]; omega)]
end Go.Proofs.YtkhebllmnagkmaaGreatDoor
/- The shelf contract of slices.SortFunc laid at this dump: the numbers of functions and types, each a fact of the dump or of the kernel comparison. No conditions. -/
namespace Go.Proofs
open Go.Shelf
def Tryz.sortIm_ren : Go.Shelf.Ren := ⟨fun | 6 => 60 | 15 => 85 | 14 => 84 | 28 => 107 | 29 => 108 | 20 => 99 | 21 => 100 | 22 => 101 | 23 => 102 | 24 => 103 | 25 => 104 | 26 => 105 | 27 => 106 | 46 => 121 | 47 => 122 | 48 => 123 | 49 => 124 | 50 => 125 | 57 => 128 | n => n, fun | 22 => 24 | 24 => 79 | 25 => 147 | 3 => 3 | 39 => 158 | 0 => 0 | 53 => 59 | 55 => 39 | 4 => 4 | 46 => 188 | 45 => 187 | 50 => 192 | 5 => 5 | 9 => 9 | 66 => 211 | 70 => 214 | 76 => 216 | 77 => 217 | n => n, fun | n => n⟩
theorem Tryz.sortIm : Go.Proofs.SlLaysF0.n6 Tryz.prog Tryz.sortIm_ren := {
  mixed := by kernel_rfl
  f6 := ⟨Tryz.f60.name, by decide, Tryz.func60.trans (congrArg some (by kernel_rfl))⟩
  f14 := ⟨Tryz.f84.name, by decide, Tryz.func84.trans (congrArg some (by kernel_rfl))⟩
  f15 := Tryz.func85.trans (congrArg some (by kernel_rfl))
  f20 := ⟨Tryz.f99.name, by decide, Tryz.func99.trans (congrArg some (by kernel_rfl))⟩
  f21 := ⟨Tryz.f100.name, by decide, Tryz.func100.trans (congrArg some (by kernel_rfl))⟩
  f22 := ⟨Tryz.f101.name, by decide, Tryz.func101.trans (congrArg some (by kernel_rfl))⟩
  f23 := ⟨Tryz.f102.name, by decide, Tryz.func102.trans (congrArg some (by kernel_rfl))⟩
  f24 := ⟨Tryz.f103.name, by decide, Tryz.func103.trans (congrArg some (by kernel_rfl))⟩
  f25 := ⟨Tryz.f104.name, by decide, Tryz.func104.trans (congrArg some (by kernel_rfl))⟩
  f26 := ⟨Tryz.f105.name, by decide, Tryz.func105.trans (congrArg some (by kernel_rfl))⟩
  f27 := ⟨Tryz.f106.name, by decide, Tryz.func106.trans (congrArg some (by kernel_rfl))⟩
  f28 := Tryz.func107.trans (congrArg some (by kernel_rfl))
  f29 := Tryz.func108.trans (congrArg some (by kernel_rfl))
  f46 := ⟨Tryz.f121.name, by decide, Tryz.func121.trans (congrArg some (by kernel_rfl))⟩
  f47 := Tryz.func122.trans (congrArg some (by kernel_rfl))
  f48 := Tryz.func123.trans (congrArg some (by kernel_rfl))
  f49 := ⟨Tryz.f124.name, by decide, Tryz.func124.trans (congrArg some (by kernel_rfl))⟩
  f50 := ⟨Tryz.f125.name, by decide, Tryz.func125.trans (congrArg some (by kernel_rfl))⟩
  f57 := ⟨Tryz.f128.name, by decide, Tryz.func128.trans (congrArg some (by kernel_rfl))⟩
  t0 := Tryz.underlying0
  a0 := Tryz.isAgg0
  z0 := Tryz.sizeOf0
  v0 := Tryz.zeroValue0
  t3 := Tryz.underlying3
  a3 := Tryz.isAgg3
  z3 := Tryz.sizeOf3
  v3 := Tryz.zeroValue3
  t4 := Tryz.underlying4
  a4 := Tryz.isAgg4
  z4 := Tryz.sizeOf4
  v4 := Tryz.zeroValue4
  t5 := Tryz.underlying5
  a5 := Tryz.isAgg5
  z5 := Tryz.sizeOf5
  v5 := Tryz.zeroValue5
  t9 := Tryz.underlying9
  a9 := Tryz.isAgg9
  z9 := Tryz.sizeOf9
  v9 := Tryz.zeroValue9
  t22 := Tryz.underlying24
  a22 := Tryz.isAgg24
  z22 := Tryz.sizeOf24
  v22 := Tryz.zeroValue24
  t25 := Tryz.underlying147
  a25 := Tryz.isAgg147
  z25 := Tryz.sizeOf147
  v25 := Tryz.zeroValue147
  t39 := Tryz.underlying158
  a39 := Tryz.isAgg158
  z39 := Tryz.sizeOf158
  v39 := Tryz.zeroValue158
  t45 := Tryz.underlying187
  a45 := Tryz.isAgg187
  z45 := Tryz.sizeOf187
  v45 := Tryz.zeroValue187
  t46 := Tryz.underlying188
  a46 := Tryz.isAgg188
  z46 := Tryz.sizeOf188
  v46 := Tryz.zeroValue188
  t50 := Tryz.underlying192
  a50 := Tryz.isAgg192
  z50 := Tryz.sizeOf192
  v50 := Tryz.zeroValue192
  t53 := Tryz.underlying59
  a53 := Tryz.isAgg59
  z53 := Tryz.sizeOf59
  v53 := Tryz.zeroValue59
  t55 := Tryz.underlying39
  a55 := Tryz.isAgg39
  z55 := Tryz.sizeOf39
  v55 := Tryz.zeroValue39
  t66 := Tryz.underlying211
  a66 := Tryz.isAgg211
  z66 := Tryz.sizeOf211
  v66 := Tryz.zeroValue211
  t70 := Tryz.underlying214
  a70 := Tryz.isAgg214
  z70 := Tryz.sizeOf214
  v70 := Tryz.zeroValue214
  t76 := Tryz.underlying216
  a76 := Tryz.isAgg216
  z76 := Tryz.sizeOf216
  v76 := Tryz.zeroValue216
  t77 := Tryz.underlying217
  a77 := Tryz.isAgg217
  z77 := Tryz.sizeOf217
  v77 := Tryz.zeroValue217 }
end Go.Proofs
/- Contract of slices.SortFunc at images, with the closure of replay.Latest, at a row of the call's own. Conditions: fewer than 2^62 elements, at least one. -/
namespace Go.Proofs.YtkhebllmnagkmaaGreatDoor
open Go.RowKit Go.Sort
set_option linter.unusedVariables false

theorem lt_cmpI (p q : ImV) : ltOf cmpI p q = decide (p.1 < q.1) := by
  unfold ltOf cmpI Lib.compareInt
  by_cases h1 : (p.1 : Int) < (q.1 : Int)
  · have : p.1 < q.1 := by omega
    simp [h1, this]
  · by_cases h2 : (q.1 : Int) < (p.1 : Int)
    · have : ¬ p.1 < q.1 := by omega
      simp [h1, h2, this]
    · have : ¬ p.1 < q.1 := by omega
      simp [h1, h2, this]
theorem swo_cmpI : SWO (ltOf cmpI) := ⟨fun x => by rw [lt_cmpI]; simp, fun x y z h1 h2 => by rw [lt_cmpI] at *; simp at *; omega, fun x y z h1 h2 => by rw [lt_cmpI] at *; simp at *; omega⟩
theorem sort_any (g n cap base : Nat) (ds : List ImV) (w : World) (ho : w.ownsRow base 79 2 (.slice (some ⟨g, 0, none⟩) n cap) n (encs ds)) (hn : n < 4611686018427387904) :
    Calls Tryz.prog 60 #[.slice (some ⟨g, 0, none⟩) n cap, .func (.func 61) #[] #[]] w fun e w' =>
      e = .returned (.tuple #[]) ∧ ∃ ds' : List ImV, ds'.Perm ds ∧ ds'.Pairwise (fun p q => p.1 ≤ q.1) ∧ w.grownBy w' (some g) ∧ w'.ownsRow base 79 2 (.slice (some ⟨g, 0, none⟩) n cap) n (encs ds') := by
  have hl : ds.length = n := by have := ho.1; rw [encs_length] at this; omega
  have hsz : ds.toArray.size = n := by simpa using hl
  have eg : ∀ args w, (callFunc 61 args).run Tryz.prog w = .ok (.enter 61 args) w := enters_of Tryz.func61 (by kernel_rfl) rfl
  have hcmp : CmpLays Tryz.prog 61 #[] encI 2 cmpI g 0 ds.toArray.size w := fun _ _ _ _ x y => closure_any x y _
  have hcon := AnyQ.slices_SortFunc Tryz.sortIm 2 Tryz.isAgg79 Tryz.sizeOf79 encI (fun _ => rfl) (fun x v hv => by simp [encI] at hv; rcases hv with rfl | rfl <;> rfl) cmpI swo_cmpI 61 #[] g 0 cap ds.toArray w eg hcmp (own_holds ho) (own_kind ho rfl).lt (by omega)
  rw [hsz] at hcon
  refine hcon.mono ?_
  rintro e w' ⟨rfl, d', m, os, ⟨hp1, _, hp2⟩, hs, rfl⟩
  rw [hsz] at hp1
  have hp : d'.toList.Perm ds := by
    have e1 : d'.extract 0 n = d' := by rw [← hp1]; exact Array.extract_size
    have e2 : ds.toArray.extract 0 n = ds.toArray := by rw [← hsz]; exact Array.extract_size
    rw [e1, e2] at hp2
    simpa using hp2
  have hw := sorted_world (m := m) (ds' := d'.toList) (os := os) ho hp.length_eq
  simp only [Array.toArray_toList] at hw
  refine ⟨rfl, d'.toList, hp, ?_, hw.1, hw.2⟩
  rw [List.pairwise_iff_getElem]
  intro i j hi hj hij
  have h := hs i j (Nat.zero_le _) hij (by simpa [hp1] using hj)
  rw [lt_cmpI, getElem!_pos _ _ (by simpa using hj), getElem!_pos _ _ (by simpa using hi)] at h
  simp at h
  simpa using h

/-! ### nothing to sort -/
theorem insertion_nil (c : Nat) (w : World) : Calls Tryz.prog 99 #[.slice none 0 c, .int .i64 0, .int .i64 0, .func (.func 61) #[] #[]] w fun e w' => e = .returned (.tuple #[]) ∧ w = w' := by
  go_enter Tryz.func99, Tryz.ntmps99
  go_wp2
  refine wp_loop_rounds 1 ?_
  rw [rounds_succ]
  go_wp2
  go_end0
  exact ⟨rfl, rfl⟩
set_option maxRecDepth 100000 in
theorem pdq_nil (c n : Nat) (w : World) : Calls Tryz.prog 84 #[.slice none 0 c, .int .i64 0, .int .i64 0, .int .i64 (n : Int), .func (.func 61) #[] #[]] w fun e w' => e = .returned (.tuple #[]) ∧ w = w' := by
  have hi := fun W => insertion_nil c W
  go_enter Tryz.func84, Tryz.ntmps84
  go_wp2_with (go_at_call 99; refine (hi _).mono ?_; rintro e w' ⟨rfl, rfl⟩)
  refine wp_loop_rounds 1 ?_
  rw [rounds_succ]
  go_wp2_with (go_at_call 99; refine (hi _).mono ?_; rintro e w' ⟨rfl, rfl⟩)
  refine bodyPost_ret (results_none rfl _ _ _) rfl ?_
  exact ⟨rfl, rfl⟩
theorem len_zero (w : World) : Calls Tryz.prog 85 #[.int .u64 0] w fun e w' => (∃ n : Nat, e = .returned (.int .i64 (n : Int))) ∧ w = w' := by
  have h := Any.bits_Len (SlLaysF0.n15.bits (P := Tryz.prog) (ρ := Tryz.sortIm_ren) { Tryz.sortIm with }) 0 w (by omega) (by omega)
  exact h.mono fun e w' ⟨h1, h2⟩ => ⟨⟨_, h1⟩, h2.symm⟩
theorem sort_nil (c : Nat) (w : World) : Calls Tryz.prog 60 #[.slice none 0 c, .func (.func 61) #[] #[]] w fun e w' => e = .returned (.tuple #[]) ∧ w = w' := by
  have hi := fun n W => pdq_nil c n W
  have hl := fun W => len_zero W
  go_enter Tryz.func60, Tryz.ntmps60
  go_wp2_with (first | (go_at_call 85; refine (hl _).mono ?_; rintro e w' ⟨⟨n, rfl⟩, rfl⟩) | (go_at_call 84; refine (hi _ _).mono ?_; rintro e w' ⟨rfl, rfl⟩))
  go_end0
  exact ⟨rfl, rfl⟩
end Go.Proofs.YtkhebllmnagkmaaGreatDoor
/- Contract of replay.Latest. Conditions: what it names. -/
namespace Go.Proofs.YtkhebllmnagkmaaGreatDoor
open Go.RowKit
set_option linter.unusedVariables false

theorem key33 : Maps.Keyed Tryz.prog 39 := Maps.int_keyed Tryz.underlying39
theorem wf_u64 (x : Nat) (h : x < 18446744073709551616) : (Lit.int .u64 (x : Int)).wf = true := WalkArith.wf_u64 (by omega)
theorem ranges_ne {P : Program} {k : TypeId} {R : Value → Option (DataW Value × List MemPlace)} {w : World} {b r n cnt g : Nat} {D : DataW Value} {left : Lit → Bool} {t : TypeId} (h : w.ranges P k R b r n D left cnt) (hK : Kind w g t) : g ≠ b ∧ g ≠ r := by
  obtain ⟨es, clock, since, seen, c0, hb, _, _, _, hr, _⟩ := h
  obtain ⟨cs, fr, hc⟩ := hK
  constructor
  · rintro rfl
    rw [hb] at hc
    cases hc
  · rintro rfl
    rw [hr] at hc
    cases hc
theorem Rv_inv {v : Value} {y : DataW Value × List MemPlace} (h : Rv v = some y) : ∃ q : Option Addr × Nat × Nat, v = slV q ∧ y = (.held (slV q), []) := by
  cases v <;> simp [Rv] at h
  rename_i A n c
  exact ⟨(A, n, c), rfl, h.symm⟩
set_option maxRecDepth 100000 in
set_option maxHeartbeats 4000000 in
theorem latest_any (A : Option Addr) (n c : Nat) (xs : List Value) (ll : List (List Img)) (w : World) (hr : Reads w w.heap.size 1 A n xs) (hA : ∀ ad, A = some ad → ad.spot = none) (hl : ll.length = n) (hi : RowC w xs ll) (hn : n ≤ 1048576) (hm : ll.flatten.length ≤ 1048576)
    (h64 : ∀ p ∈ ll.flatten, p.1 < 18446744073709551616 ∧ p.2.length ≤ 1048576) :
    Calls Tryz.prog 30 #[.slice A n c] w fun e w' => ∃ A' c' ys, e = .returned (.slice A' (latest ll.flatten).length c') ∧ w'.ownsRow w.heap.size 79 2 (.slice A' (latest ll.flatten).length c') (latest ll.flatten).length ys ∧ RowIO w' w.heap.size ys (latest ll.flatten) ∧ Below w.heap.size w w' := by
  have hmm := @run_makeMap Tryz.prog
  go_enter Tryz.func30, Tryz.ntmps30
  go_wp2
  have b0 : Below w.heap.size w (w.alloc (.map #[] 0)) := (Below.refl _ _).alloc (Nat.le_refl _) _
  have hmade := World.ownsMap_made w Tryz.prog 39 Rv
  clear hmm
  go_loopw [14] (fun ix wr => ∃ (k : Nat) (D : DataW Value) (cnt : Nat), k ≤ n ∧ ix = .int .i64 k ∧ wr.ownsMap Tryz.prog 39 Rv w.heap.size cnt D ∧ cnt ≤ (ll.take k).flatten.length ∧ MapIs wr D (ll.take k).flatten ∧ Below w.heap.size w wr) (fun ix _ => n - (intOf ix).toNat)
  case atStart => exact ⟨0, _, 0, by omega, rfl, hmade, by simp, by rw [List.take_zero]; exact MapIs.nil _, b0⟩
  case round =>
    obtain ⟨k, D, cnt, hk, rfl, hown, hcnt, hMI, hw⟩ := hrel
    obtain ⟨wo, rfl⟩ : ∃ wo : World, wo = wr := ⟨_, rfl⟩
    by_cases hlt : k < n
    · have hlk : ll[k]? = some (ll[k]'(by omega)) := List.getElem?_eq_getElem (by omega)
      obtain ⟨v, hv, A1, c1, xs1, rfl, hc1, hr1, hR1, hK1⟩ := hi k _ hlk
      obtain ⟨ad, rfl, hadb, hcell⟩ := hr.2 (by omega)
      obtain ⟨g, o, sp⟩ := ad
      have hsp := hA _ rfl
      simp only at hsp hadb
      subst hsp
      have q0 := hcell k _ hv
      rw [Addr.add_mid] at q0
      have q0 : wo.cell? ⟨g, o + k, none⟩ = some (.slice A1 (ll[k]'(by omega)).length c1) := (hw.cell (p := ⟨g, o + k, none⟩) hadb).trans q0
      have htk : (ll.take (k + 1)).flatten = (ll.take k).flatten ++ ll[k]'(by omega) := by rw [List.take_succ_eq_append_getElem (by omega), List.flatten_append, List.flatten_singleton]
      have hfl : (ll.take k).flatten.length + (ll[k]'(by omega)).length ≤ 1048576 := by
        have h1 : (ll.take (k + 1)).flatten.length ≤ ll.flatten.length := by
          have h := congrArg List.length (congrArg List.flatten (List.take_append_drop (k + 1) ll))
          rw [List.flatten_append, List.length_append] at h
          omega
        rw [htk, List.length_append] at h1
        omega
      have h64k : ∀ p ∈ ll[k]'(by omega), p.1 < 18446744073709551616 ∧ p.2.length ≤ 1048576 := fun p hp => h64 p (List.mem_flatten.2 ⟨_, List.getElem_mem _, hp⟩)
      generalize ll[k]'(by omega) = l at *
      generalize (ll.take k).flatten = fl at *
      have HTK := Lib.hid htk
      have HLK := Lib.hid hlk
      clear htk hlk hv hcell
      go_wp2
      go_loopw [20] (fun ix wr => ∃ (j : Nat) (D : DataW Value) (cnt : Nat), j ≤ l.length ∧ ix = .int .i64 j ∧ wr.ownsMap Tryz.prog 39 Rv w.heap.size cnt D ∧ cnt ≤ fl.length + j ∧ MapIs wr D (fl ++ l.take j) ∧ Below w.heap.size w wr) (fun ix _ => l.length - (intOf ix).toNat)
      case atStart => exact ⟨0, D, cnt, by omega, rfl, hown, by omega, by rw [List.take_zero, List.append_nil]; exact hMI, hw⟩
      case round =>
        clear hown hcnt hMI D cnt
        obtain ⟨j, D, cnt, hj, rfl, hown, hcnt, hMI, hwr⟩ := hrel
        by_cases hlj : j < l.length
        · have hpj : l[j]? = some (l[j]'hlj) := List.getElem?_eq_getElem hlj
          obtain ⟨u0, v, u1, hsl⟩ := hR1 j _ hpj
          obtain ⟨ad1, rfl, had, hcell1⟩ := hr1.2 (by omega)
          obtain ⟨g1, o1, sp1⟩ := ad1
          obtain ⟨hK1', hsp1⟩ := hK1 _ rfl
          simp only at hsp1 had
          subst hsp1
          have hslw := hsl.under hwr
          have hx64 := (h64k _ (List.getElem_mem hlj)).1
          obtain ⟨A2, c2, hv, hcap, hrd⟩ := hsl.reads
          subst hv
          have d0 := hcell1 _ _ u0
          have d1 := hcell1 _ _ u1
          rw [Addr.add_mid] at d0 d1
          have q2 : wr.cell? ⟨g1, o1 + j * 2, none⟩ = some (.int .u64 ((l[j]'hlj).1 : Int)) := by rw [Nat.mul_comm j 2]; exact (hwr.cell (p := ⟨g1, o1 + 2 * j, none⟩) had).trans d0
          have q3 : wr.cell? ⟨g1, o1 + j * 2 + 1, none⟩ = some (.slice A2 (l[j]'hlj).2.length c2) := by rw [Nat.mul_comm j 2]; exact (hwr.cell (p := ⟨g1, o1 + (2 * j + 1), none⟩) had).trans d1
          have htj := take_snoc l j _ hpj
          generalize l[j]'hlj = p at *
          obtain ⟨x, b⟩ := p
          simp only at q2 q3 hx64 hslw htj
          have hMI' := (hMI.put (x := x) hslw)
          rw [List.append_assoc, ← htj] at hMI'
          have hkey : keyOf Tryz.prog 39 (.int .u64 (x : Int)) = some (.int .u64 (x : Int)) := Maps.keyOf_int_mk Tryz.underlying39 (wf_u64 x hx64)
          have hbl := hown.lt
          have hcn : cnt < maxLen := by unfold maxLen; omega
          have HTJ := Lib.hid htj
          have hws := hwr.size
          clear u0 u1 d0 d1 hpj htj hsl hrd
          go_wp2_with (first | (at_mapUpdate; refine wpList_mapUpdate_own _ rfl _ _ _ 144 rfl 39 55 key33 Tryz.underlying144 Rv w.heap.size cnt D rfl (World.ownsMap.alloc hown _) hcn _ _ _ rfl rfl hkey (.held (.slice A2 b.length c2)) [] rfl ?_; intro w1 hown1 hgrow1))
          go_roundw
          case rel =>
            have hs1 := hgrow1.size
            rw [size_alloc'] at hs1
            refine ⟨j + 1, _, _, by omega, by go_num, hown1, by omega, ?_, (hwr.alloc hws _).grown hgrow1 (by rw [size_alloc']; omega) (fun b e => by injection e with e; omega)⟩
            refine hMI'.keep (by omega) fun b hK => (hgrow1.block b (by rw [size_alloc']; have := hK.lt; omega) (fun e => ?_)).trans (Below.heap_alloc _ _ b hK.lt)
            obtain ⟨es, clock, hb, _⟩ := hown
            injection e with e
            subst e
            obtain ⟨cs, fr, hc⟩ := hK
            rw [hb] at hc
            cases hc
          case measure => simp [intOf]; omega
        · have hjl : j = l.length := by omega
          have hps : l.length ≤ j := by omega
          have HJ := Lib.hid hjl
          clear hjl hlj hj
          go_wp2
          go_roundw
          case rel =>
            refine ⟨k + 1, D, cnt, by omega, by go_num, hown, ?_, ?_, hwr⟩
            · rw [HTK.out, List.length_append, ← HJ.out]; exact hcnt
            · rw [HTK.out]
              have h := hMI
              rw [List.take_of_length_le hps] at h
              exact h
          case measure => simp [intOf]; omega
    · have hkk : k = n := by omega
      have hps : n ≤ k := by omega
      have hfl : (ll.take k).flatten = ll.flatten := by rw [List.take_of_length_le (by omega)]
      rw [hfl] at hcnt hMI
      have HK := Lib.hid hkk
      have hbl := hown.lt
      have hsz := ownsMap_size hown
      have hdk : decide (k < n) = false := decide_eq_false (by omega)
      clear hkk hfl hlt hk
      go_wp2_with (first | (at_range; refine wpList_range_own _ rfl _ 144 rfl 39 55 key33 Tryz.underlying144 Rv w.heap.size cnt D rfl hown ?_; intro w1 hrg hgr1 hs1))
      go_frame
      have hMI1 : MapIs w1 D ll.flatten := hMI.keep (by omega) fun b hK => hgr1.block b hK.lt (by simp)
      have hw1 : Below w.heap.size w w1 := hw.grown hgr1 hw.size (fun b e => by cases e)
      have hlt1 := hrg.lt
      have hwos := hw.size
      clear hMI hown hgr1 hi hr
      generalize hrr : wo.heap.size = r at *
      clear hrr
      go_loopw [8] (fun v8 wr => ∃ (left : Lit → Bool) (cn : Nat) (A' : Option Addr) (c' : Nat) (ds : List ImV), wr.ranges Tryz.prog 39 Rv w.heap.size r cnt D left cn ∧ v8 = .slice A' ds.length c' ∧ (ds.length = 0 → A' = none) ∧ wr.ownsRow w.heap.size 79 2 (.slice A' ds.length c') ds.length (encs ds) ∧ Took wr w.heap.size ll.flatten ds ∧
        (∀ x : Nat, left (.int .u64 x) = ((lastOf ll.flatten x).isSome && !(ds.any (fun q => q.1 == x)))) ∧ ds.length + cn ≤ Maps.size D ∧ MapIs wr D ll.flatten ∧ Below w.heap.size w wr) (fun _ wr => wr.rangeLeft w.heap.size r)
      case atStart => exact ⟨_, _, none, 0, [], hrg, rfl, fun _ => rfl, World.ownsRow_nil _ _ _ _, ⟨(fun p hp => by cases hp), List.Pairwise.nil⟩, fun x => by rw [hMI1.has]; simp, by simp, hMI1, hw1⟩
      case round =>
        clear hrg hMI1 hw1
        obtain ⟨left, cn, A', c', ds, hrg, rfl, hnil, hor, hTk, hleft, hsum, hMI, hw1⟩ := hrel
        go_wp2_with (first | (at_next; refine wpList_next_ranges _ rfl _ rfl 39 key33 Rv (fun x : Int => Value.int .u64 x) slV (fun key kl h => by obtain ⟨x, rfl, _⟩ := Maps.keyOf_int_inv Tryz.underlying39 h; exact ⟨x, rfl⟩) (fun v y h => by obtain ⟨q, rfl, _⟩ := Rv_inv h; exact ⟨q, rfl⟩) w.heap.size r cnt D left cn rfl hrg ?_ ?_))
        · intro _ hl0
          have hall : ∀ x, (lastOf ll.flatten x).isSome = true → ds.any (fun q => q.1 == x) = true := fun x hx => by
            have h := hleft x
            rw [hl0, hx] at h
            simpa using h.symm
          clear hleft hl0 hMI
          by_cases h0 : ds.length = 0
          · have hA' := hnil h0
            have hds : ds = [] := List.eq_nil_of_length_eq_zero h0
            subst hA' hds
            have hso := fun W => sort_nil c' W
            obtain ⟨hlen, hR⟩ := took_sorted hTk hall List.Pairwise.nil
            have hlen' : (latest ll.flatten).length = 0 := hlen.symm
            have HO := Lib.hid hlen'
            clear hlen hlen' hrg hall hnil
            go_wp2_with (first | (go_at_call 60; refine (hso _).mono ?_; rintro e w' ⟨rfl, rfl⟩))
            go_ret
            refine ⟨none, c', encs [], ?_, ?_, hR, hw1⟩
            · rw [HO.out]; rfl
            · rw [HO.out]; exact hor
          · obtain ⟨gr, cr, hgr, _, hgr2⟩ : ∃ gr cap, (Value.slice A' ds.length c') = .slice (some ⟨gr, 0, none⟩) ds.length cap ∧ w.heap.size ≤ gr ∧ gr < wr.heap.size := by
              rcases hor.2 with ⟨_, h0'⟩ | ⟨g', cap', cur, hv, hb, hh, _⟩
              · omega
              · exact ⟨g', cap', hv, hb, (Array.getElem?_eq_some_iff.1 hh).1⟩
            injection hgr with hgr _ hcr
            subst hgr hcr
            have hdn : ds.length < 4611686018427387904 := by omega
            have hso := sort_any gr ds.length c' w.heap.size ds wr hor hdn
            have hKr := own_kind hor rfl
            have hwr1 := hw1.size
            clear hrg hnil
            go_wp2_with (first | (go_at_call 60; refine hso.mono ?_; rintro e w' ⟨rfl, ds', hp, hs, hg, ho'⟩))
            go_ret
            have hT' : Took w' w.heap.size ll.flatten ds' := by
              have h := hTk.keep (w' := w') fun b hK => hg.block b hK.lt (fun e => by injection e with e; subst e; exact absurd (hK.uniq hKr) (by decide))
              exact ⟨fun p hp' => h.mem p (hp.mem_iff.1 hp'), (hp.symm.pairwise_iff (fun {a b} (h : a.1 ≠ b.1) => h.symm)).1 h.apart⟩
            have hall' : ∀ x, (lastOf ll.flatten x).isSome = true → ds'.any (fun q => q.1 == x) = true := fun x hx => by
              obtain ⟨q, hq, e⟩ := List.any_eq_true.1 (hall x hx)
              exact List.any_eq_true.2 ⟨q, hp.mem_iff.2 hq, e⟩
            obtain ⟨hlen, hR⟩ := took_sorted hT' hall' hs
            rw [hp.length_eq] at hlen
            rw [← hlen]
            exact ⟨_, c', encs ds', rfl, ho', hR, hw1.grown hg hwr1 (fun b e => by injection e with e; omega)⟩
        · intro x Aq nq cq kl y1 y2 w2 cn2 hkx hlk hRy hat hrg2 hlt2 hg2 hs2 hen
          obtain ⟨x', hx', hkl, hwf⟩ := Maps.keyOf_int_inv Tryz.underlying39 hkx
          injection hx' with _ hx'
          subst hx' hkl
          have hx64 := bounds_u64 hwf
          obtain ⟨z, rfl⟩ : ∃ z : Nat, x = (z : Int) := ⟨x.toNat, by omega⟩
          obtain ⟨q, hq, hy⟩ := Rv_inv hRy
          injection hy with hy1 hy2
          subst hy1 hy2
          have hlz := hleft z
          rw [hlk] at hlz
          have hlz1 : (lastOf ll.flatten z).isSome = true ∧ ds.any (fun q => q.1 == z) = false := by simpa using hlz.symm
          obtain ⟨hsome, hnany⟩ := hlz1
          obtain ⟨b, hb⟩ := Option.isSome_iff_exists.1 hsome
          obtain ⟨Ab, nb, cb, hatb, hslb⟩ := hMI.at_ z b hb
          have hqq : slV q = .slice Ab nb cb := by
            have h := (hat (.lit (.bool true))).symm.trans (hatb (.lit (.bool true)))
            injection h
          have hqs : slV (Aq, nq, cq) = .slice Ab nb cb := hq.trans hqq
          injection hqs with e1 e2 e3
          simp only at e1 e2 e3
          subst e1 e2 e3
          have hbl6 : b.length ≤ 1048576 := (h64 _ (List.mem_flatten.2 ⟨_, (List.mem_flatten.1 (lastOf_mem hb)).choose_spec.1, (List.mem_flatten.1 (lastOf_mem hb)).choose_spec.2⟩)).2
          have hw2 : ∀ bk, Kind wr bk 5 → w2.heap[bk]? = wr.heap[bk]? := fun bk hK => hg2.block bk hK.lt (fun e => by injection e with e; exact (ranges_ne hrg hK).2 e)
          have hsl2 := hslb.keep (by omega) hw2
          obtain ⟨A0, c0, hv0, hcap0, hrd0⟩ := hsl2.reads
          injection hv0 with e4 e5 e6
          subst e4 e5 e6
          have hclo := clone_any Aq b.length cq b w2 hrd0 (by omega)
          have hor2 : w2.ownsRow w.heap.size 79 2 (.slice A' ds.length c') ds.length (encs ds) := own_keep hor fun bk e => hg2.block bk (own_kind hor e).lt (fun e2 => by injection e2 with e2; exact (ranges_ne hrg (own_kind hor e)).2 e2)
          have hTk2 := hTk.keep hw2
          have hMI2 := hMI.keep (w' := w2) (by omega) hw2
          have hb2 : Below w.heap.size w w2 := hw1.grown hg2 hw1.size (fun bk e => by injection e with e; omega)
          have hs1' := hw1.size
          have hs2' := hb2.size
          have hen' : (Instr.entry (.pointer (some ⟨r, 0, none⟩))).run Tryz.prog w2 = .ok (.tuple #[.int .u64 (z : Int), .slice Aq b.length cq]) w2 := hen
          obtain ⟨i0, ii0, hz0, hz1, hz2⟩ := info_parts info36
          have hm1 : ds.length + 1 ≤ maxLen := by unfold maxLen; omega
          have hm2 : (ds.length + 1) * 32 ≤ 140737488355328 := by omega
          have hone : ∀ (a : Int) (A : Option Addr) (m c : Nat), ∀ u ∈ [Value.int .u64 a, .slice A m c], u.oneCell' = true := by intro a A m c u hu; simp only [List.mem_cons, List.not_mem_nil, or_false] at hu; rcases hu with rfl | rfl <;> rfl
          have HB := Lib.hid hb
          have HN := Lib.hid hnany
          have HAT := Lib.hid hat
          have HLK := Lib.hid hlk
          have HS2 := Lib.hid hs2
          have hs2le : wr.heap.size ≤ w2.heap.size := Nat.le_of_eq hs2.symm
          clear hs2 hen hat hlz hsome hnany hatb hslb hlk hkx hq hqq hRy hb
          go_wp2_with (first | (go_at_call 43; refine hclo.mono ?_; rintro e w3 ⟨v3, rfl, hv3, b3⟩; obtain ⟨A3, c3, rfl⟩ := hv3.shape; have hs3 := b3.size; have hor3 : w3.ownsRow w.heap.size 79 2 (.slice A' ds.length c') ds.length (encs ds) := (own_keep hor2 (fun bk e => b3.block bk (own_kind hor2 e).lt)); have hnews := Blk.rows (xs := [Value.int .u64 (z : Int), .slice A3 b.length c3]) 1 2 (Blk.new w3 79 #[Value.int .u64 (z : Int), .slice A3 b.length c3]) rfl; have hbase : w.heap.size ≤ (w3.alloc (.cells #[Value.int .u64 (z : Int), .slice A3 b.length c3] 79)).heap.size := (by rw [size_alloc']; omega)) | (at_builtin; refine wpList_append_any _ rfl (.tmp 38) (.tmp 43) 24 rfl w.heap.size 79 i0 _ 2 32 Tryz.underlying24 ii0 hz0 hz1 hz2 rfl (by omega) (.slice A' ds.length c') ds.length (encs ds) rfl (World.ownsRow.alloc hor3 _) _ (some ⟨w3.heap.size, 0, none⟩) 1 1 [_, _] rfl hnews (hone _ _ _ _) hm1 hm2 hbase ?_; intro v5 w5 hown5 hg5 hat5; obtain ⟨A5, cc5, rfl⟩ := own_shape hown5))
          have hrg5 : w5.ranges Tryz.prog 39 Rv w.heap.size r cnt D (fun y => left y && !y.sameKey (.int .u64 (z : Int))) cn2 :=
            (((hrg2.kept (grown_of_below b3 none) (by simp) (by simp)).alloc _).kept hg5 (fun e => (ranges_ne hrg2 (own_kind hor2 e.symm)).1 rfl) (fun e => (ranges_ne hrg2 (own_kind hor2 e.symm)).2 rfl))
          have k5 : ∀ bk, Kind w3 bk 5 → w5.heap[bk]? = w3.heap[bk]? := fun bk hK => (hg5.block bk (by rw [size_alloc']; have := hK.lt; omega) (fun e => absurd (hK.uniq (own_kind hor3 e.symm)) (by decide))).trans (Below.heap_alloc _ _ bk hK.lt)
          have k25 : ∀ bk, Kind w2 bk 5 → w5.heap[bk]? = w2.heap[bk]? := fun bk hK => (k5 bk (hK.same (b3.block bk hK.lt))).trans (b3.block bk hK.lt)
          have hs5 := hg5.size
          rw [size_alloc'] at hs5
          go_roundw
          case rel =>
            refine ⟨_, cn2, A5, cc5, ds ++ [(z, (A3, b.length, c3))], hrg5, by rw [List.length_append]; rfl, fun h => by simp at h, ?_, (hTk2.keep k25).snoc (by show z < 18446744073709551616; omega) HB.out ((hv3.keep k5).lower hs2') HN.out, fun x => ?_, by rw [List.length_append]; simp; omega, hMI2.keep (by omega) k25, ?_⟩
            · rw [List.length_append, encs_append]
              exact hown5
            · show (left (.int .u64 (x : Int)) && !(Lit.int .u64 (x : Int)).sameKey (.int .u64 (z : Int))) = _
              rw [hleft x, List.any_append]
              by_cases hxz : x = z
              · subst hxz
                simp [Lit.sameKey]
              · have h1 : ¬ (x : Int) = (z : Int) := by omega
                have h2 : (z == x) = false := by rw [beq_eq_false_iff_ne]; exact fun e => hxz e.symm
                simp [Lit.sameKey, h1, h2]
            · exact ((hb2.trans (b3.mono hs2')).alloc (by omega) _).grown hg5 hbase (fun bk e => (World.ownsRow.lt hor2 bk e).1)
          case measure => rw [hrg5.left_eq, hrg.left_eq]; exact hlt2
end Go.Proofs.YtkhebllmnagkmaaGreatDoor
