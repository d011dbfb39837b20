/- Contracts and lemmas under the statements of this seat, one behind the other. Conditions: what each names. -/
import Derived.Test.YtkhebllmnagkmaaGreatDoorG3
import Derived.Lib.AppendZeros
/- Contracts of slices.Grow (nil), slices.Concat at []byte, digest.Pieces. Conditions: what each names. -/
namespace Go.Proofs.YtkhebllmnagkmaaGreatDoor
open Go.RowKit
set_option linter.unusedVariables false

set_option maxRecDepth 100000 in
theorem grow_zero (w : World) : Calls Tryz.prog 88 #[.slice none 0 0, .int .i64 0] w fun e w' => e = .returned (.slice none 0 0) ∧ w = w' := by
  go_enter Tryz.func88, Tryz.ntmps88
  go_wp2
  go_ret
  exact ⟨rfl, rfl⟩
set_option maxRecDepth 100000 in
theorem grow_pos (n : Nat) (w : World) (h0 : 0 < n) (hn : n ≤ 140737488351232) :
    Calls Tryz.prog 88 #[.slice none 0 0, .int .i64 (n : Int)] w fun e w' => ∃ v, e = .returned v ∧ Owns w' w.heap.size v [] ∧ Below w.heap.size w w' := by
  obtain ⟨i0, hi, hz0, hz1, hz2⟩ := info_parts info5
  have happ := Lib.run_append_nil_zeros (P := Tryz.prog) w 55 3 55 5 i0 (.int .u8 0) .i64 .i64 Tryz.underlying55 Tryz.underlying3 hi hz0 n h0 (by omega) (by omega) (by rw [hz2]; omega)
  have hcap1 : n ≤ grownCap w n 0 5 := grownCap_ge w _ 0 5
  have hcap2 : grownCap w n 0 5 ≤ maxLen := grownCap_le_maxLen w _ 0 5 (by unfold maxLen; omega)
  generalize grownCap w n 0 5 = c at *
  generalize hZ : (Builtin.zeroCells (Value.int .u8 0).cells n ++ Builtin.zeroCells (Value.int .u8 0).cells (c - n)) = Z at happ
  have hZs : Z.size = c := by rw [← hZ]; simp [size_zeroCells, Value.cells]; omega
  have HZ := Lib.hid hZs
  clear hZ hZs
  go_enter Tryz.func88, Tryz.ntmps88
  go_wp2_with (at_builtin; refine Lib.wpList_append_run _ rfl _ _ _ _ rfl _ _ rfl rfl _ _ happ ?_)
  go_ret
  refine ⟨_, rfl, ⟨by simp [bs], .inr ⟨w.heap.size, c, Z, rfl, Nat.le_refl _, heap_alloc_new _ _, Nat.zero_le _, hcap2, ?_, by simp [bs]⟩⟩, (Below.refl _ w).drew.alloc (Nat.le_refl _) _⟩
  rw [HZ.out, Nat.mul_one]
theorem grow_nil (n : Nat) (w : World) (hn : n ≤ 140737488351232) :
    Calls Tryz.prog 88 #[.slice none 0 0, .int .i64 (n : Int)] w fun e w' => ∃ v, e = .returned v ∧ Owns w' w.heap.size v [] ∧ Below w.heap.size w w' := by
  rcases Nat.eq_zero_or_pos n with rfl | h0
  · exact (grow_zero w).mono fun e w' ⟨he, hw⟩ => ⟨_, he, by subst hw; exact World.ownsRow_nil _ _ _ _, by subst hw; exact Below.refl _ _⟩
  · exact grow_pos n w h0 hn

/-! ### slices.Concat -/
def partV (p : Option Addr × Nat × List UInt8) : Value := .slice p.1 p.2.2.length p.2.1
def cat (ps : List (Option Addr × Nat × List UInt8)) : List UInt8 := (ps.map (·.2.2)).flatten
theorem cat_succ (ps : List (Option Addr × Nat × List UInt8)) (k : Nat) (p : Option Addr × Nat × List UInt8) (h : ps[k]? = some p) : cat (ps.take (k + 1)) = cat (ps.take k) ++ p.2.2 := by
  unfold cat
  rw [List.take_add_one, h]
  simp
theorem cat_le (ps : List (Option Addr × Nat × List UInt8)) (k : Nat) : (cat (ps.take k)).length ≤ (cat ps).length := by
  have h : cat ps = cat (ps.take k) ++ cat (ps.drop k) := by
    unfold cat
    rw [← List.flatten_append, ← List.map_append, List.take_append_drop]
  rw [h, List.length_append]
  omega
theorem info34 : (Tryz.prog.info? 55).map (fun i => (i.zero, i.size, i.bytes)) = some (some (.slice none 0 0), 1, 24) := by kernel_rfl

set_option maxRecDepth 100000 in
set_option maxHeartbeats 1000000 in
theorem concat_any (A : Option Addr) (c : Nat) (ps : List (Option Addr × Nat × List UInt8)) (w : World) (hr : Reads w w.heap.size 1 A ps.length (ps.map partV)) (hp : ∀ p ∈ ps, Reads w w.heap.size 1 p.1 p.2.2.length (bs p.2.2))
    (hM : (cat ps).length ≤ 1099511627776) (hn : ps.length ≤ 1099511627776) :
    Calls Tryz.prog 65 #[.slice A ps.length c] w fun e w' => ∃ v, e = .returned v ∧ Owns w' w.heap.size v (cat ps) ∧ Below w.heap.size w w' := by
  obtain ⟨i0, hi, hz0, hz1, hz2⟩ := info_parts info5
  go_enter Tryz.func65, Tryz.ntmps65
  go_wp2
  go_loopw [3, 11] (fun sz ix wr => ∃ k : Nat, k ≤ ps.length ∧ ix = .int .i64 k ∧ sz = .int .i64 ((cat (ps.take k)).length : Nat) ∧ Below w.heap.size w wr) (fun _ ix _ => ps.length - (intOf ix).toNat)
  case atStart => exact ⟨0, by omega, rfl, rfl, Below.refl _ _⟩
  case round =>
    obtain ⟨k, hk, rfl, rfl, hw⟩ := hrel
    have hsz := hw.size
    have hr' := hr.below hw
    have hp' : ∀ p ∈ ps, Reads wr w.heap.size 1 p.1 p.2.2.length (bs p.2.2) := fun p h => (hp p h).below hw
    clear hr hp
    by_cases hlt : k < ps.length
    · obtain ⟨ad, u, rfl, hb, hu, hc⟩ := hr'.at_ hlt
      have hpk : ps[k]? = some ps[k] := List.getElem?_eq_getElem hlt
      rw [List.getElem?_map, hpk] at hu
      have hu' : u = partV ps[k] := by cases hu; rfl
      clear hu
      subst hu'
      have hcat := cat_succ ps k ps[k] hpk
      have h1 := cat_le ps k
      have h2 := cat_le ps (k + 1)
      rw [hcat, List.length_append] at h2
      generalize ps[k] = p at *
      obtain ⟨pa, pc, pl⟩ := p
      simp only [partV] at *
      have HC := Lib.hid hcat
      clear hcat
      go_wp2
      go_roundw
      case rel => exact ⟨k + 1, by omega, by go_num, by rw [HC.out, List.length_append]; go_num, by first | exact hw | exact hw.drew⟩
      case measure => simp [intOf]; omega
    · have hkk : k = ps.length := by omega
      have HK := Lib.hid hkk
      have hct : cat (ps.take k) = cat ps := by rw [hkk, List.take_length]
      rw [hct]
      clear hkk hct hk
      have hps : ps.length ≤ k := by omega
      clear hlt
      go_wp2_with (go_at_call 88; refine (grow_nil _ _ (by omega)).mono ?_; rintro e w1 ⟨v1, rfl, hv1, hb1⟩)
      have hw1 : Below w.heap.size w w1 := hw.trans (hb1.mono hsz)
      have hr1 : Reads w1 w.heap.size 1 A ps.length (ps.map partV) := hr'.below (hb1.mono hsz)
      have hp1 : ∀ p ∈ ps, Reads w1 w.heap.size 1 p.1 p.2.2.length (bs p.2.2) := fun p h => (hp' p h).below (hb1.mono hsz)
      have own1 : Owns w1 w.heap.size v1 [] := hv1.lower hsz
      have hs1 := hw1.size
      clear hr' hp' hw hb1 hv1 hsz hps HK
      go_loopw [6, 27] (fun v ix W => ∃ k : Nat, k ≤ ps.length ∧ ix = .int .i64 k ∧ Owns W w.heap.size v (cat (ps.take k)) ∧ Below w.heap.size w1 W) (fun _ ix _ => ps.length - (intOf ix).toNat)
      case atStart => exact ⟨0, by omega, rfl, own1, Below.refl _ _⟩
      case round =>
        clear own1
        obtain ⟨k, hk, rfl, own, hw⟩ := hrel
        have hsz := hw.size
        have hr' := hr1.below hw
        have hp' : ∀ p ∈ ps, Reads wr w.heap.size 1 p.1 p.2.2.length (bs p.2.2) := fun p h => (hp1 p h).below hw
        clear hr1 hp1
        by_cases hlt : k < ps.length
        · obtain ⟨ad, u, rfl, hb, hu, hc⟩ := hr'.at_ hlt
          have hpk : ps[k]? = some ps[k] := List.getElem?_eq_getElem hlt
          have hpr := hp' ps[k] (List.getElem_mem hlt)
          rw [List.getElem?_map, hpk] at hu
          have hu' : u = partV ps[k] := by cases hu; rfl
          clear hu
          subst hu'
          have hcat := cat_succ ps k ps[k] hpk
          have h1 := cat_le ps k
          have h2 := cat_le ps (k + 1)
          rw [hcat, List.length_append] at h2
          generalize ps[k] = p at *
          obtain ⟨pa, pc, pl⟩ := p
          simp only [partV] at *
          have HC := Lib.hid hcat
          clear hcat
          generalize cat (ps.take k) = q at *
          go_wp2_with (at_builtin; refine wpList_append_any _ rfl (.tmp 31) (.tmp 32) 55 rfl w.heap.size 5 i0 _ 1 1 Tryz.underlying55 hi hz0 hz1 hz2 rfl (by omega) _ q.length (bs q) rfl own w.heap.size pa pl.length pc (bs pl) rfl hpr bs_one (by unfold maxLen; omega) (by omega) (by omega) ?_; intro v2 w2 hown2 hg2 hat2)
          have own2 : Owns w2 w.heap.size v2 (q ++ pl) := by unfold Owns; rw [bs_append, List.length_append]; exact hown2
          have hw2 : Below w.heap.size w1 w2 := hw.grown hg2 (by omega) (fun k hk => (World.ownsRow.lt own k hk).1)
          clear hown2 hg2 hat2 own hw
          go_wp2
          go_roundw
          case rel => exact ⟨k + 1, by omega, by go_num, by rw [HC.out]; exact own2, hw2⟩
          case measure => simp [intOf]; omega
        · have hkk : k = ps.length := by omega
          have hct : cat (ps.take k) = cat ps := by rw [hkk, List.take_length]
          rw [hct] at own
          clear hct hk hkk
          go_wp2
          go_ret
          exact ⟨_, rfl, own, hw1.trans hw⟩

theorem sha256_length (l : List UInt8) : (sha256 l).length = 32 := by unfold sha256; exact shaOut_length _ _
theorem Owns.shape {w : World} {base : Nat} {v : Value} {l : List UInt8} (h : Owns w base v l) : ∃ A c, v = .slice A l.length c := by
  rcases h.2 with ⟨hv, h0⟩ | ⟨g, cap, cur, hv, _⟩
  · exact ⟨none, 0, by rw [hv, h0]⟩
  · exact ⟨_, cap, hv⟩

/-! ### digest.Pieces -/
set_option maxRecDepth 100000 in
set_option maxHeartbeats 1000000 in
theorem pieces_any (A : Option Addr) (c : Nat) (ps : List (Option Addr × Nat × List UInt8)) (w : World) (hr : Reads w w.heap.size 1 A ps.length (ps.map partV)) (hp : ∀ p ∈ ps, Reads w w.heap.size 1 p.1 p.2.2.length (bs p.2.2))
    (hM : (cat ps).length ≤ 1099511627776) (hn : ps.length ≤ 1099511627776) (hT : Tabs w) :
    Calls Tryz.prog 44 #[.slice A ps.length c] w fun e w' => e = .returned (.agg (bs (sha256 (cat ps))).toArray) ∧ Below w.heap.size w w' := by
  have hb0 : Below w.heap.size w (w.alloc (.cells (bs (List.replicate 32 0)).toArray 23)) := (Below.refl _ _).alloc (Nat.le_refl _) _
  have z2 : (bs (sha256 (cat ps))).toArray.all (·.oneCell') = true := bs_all _
  have hz : Blk (w.alloc (.cells (bs (List.replicate 32 0)).toArray 23)) w.heap.size 23 (bs (List.replicate 32 0)).toArray := Blk.new _ _ _
  have z3 : (bs (List.replicate 32 0)).toArray.size = (bs (sha256 (cat ps))).toArray.size := by simp [bs_length, sha256_length]
  have z1 : (bs (sha256 (cat ps))).toArray.size = 32 := by rw [List.size_toArray, bs_length, sha256_length]
  go_enter Tryz.func44, Tryz.ntmps44
  go_wp2_with (first | (go_at_call 65; refine (concat_any A c ps _ ((hr.below hb0).more hb0.size) (fun p h => ((hp p h).below hb0).more hb0.size) hM hn).mono ?_; rintro e w1 ⟨v1, rfl, hv1, hb1⟩; obtain ⟨A1, c1, rfl⟩ := hv1.shape) | (go_at_call 75; refine (of_any A1 _ c1 (cat ps) _ hv1.reads hM ((hT.under hb0).under hb1)).mono ?_; rintro e w2 ⟨rfl, hb2⟩; have hz2 := hz.below (hb1.trans (hb2.mono hb1.size)) (by simp)) | ((with_reducible refine wpList_store_blk rfl 23 (.tmp 2) (.tmp 5) rfl w.heap.size _ rfl rfl 23 _ hz2 (by rw [z1]; kernel_rfl) z3 z2 ?_); intro w3 hb3 hg3 hs3))
  refine ret_cell _ 23 rfl rfl w.heap.size 23 _ _ rfl hb3 Tryz.underlying23 rfl (by rw [z1]; kernel_rfl) ⟨rfl, ?_⟩
  exact ((hb0.trans (hb1.mono hb0.size)).trans (hb2.mono ((hb0.trans (hb1.mono hb0.size)).size))).trans (below_grown hg3 (Nat.le_refl _) (by have h1 := hb0.size; have h2 := hb1.size; have h3 := hb2.size; omega))
end Go.Proofs.YtkhebllmnagkmaaGreatDoor
/- Contracts of slices.IndexFunc, ContainsFunc at []byte with the predicates 'not nought'. Conditions: what each names. -/
namespace Go.Proofs.YtkhebllmnagkmaaGreatDoor
open Go.RowKit
set_option linter.unusedVariables false

/-- A predicate of bytes that turns nothing. -/
def IsNz (g : Nat) : Prop := ∀ (b : UInt8) (W : World), Calls Tryz.prog g #[.int .u8 (b.toNat : Int)] W fun e w' => e = .returned (.bool (b != 0)) ∧ W = w'
theorem nz_iff (b : UInt8) : ((b.toNat : Int) != 0) = (b != 0) := by
  rw [Bool.eq_iff_iff, bne_iff_ne, bne_iff_ne]
  constructor
  · rintro h rfl; exact h rfl
  · intro h h'; exact h (UInt8.toNat_inj.1 (by simpa using h'))
theorem nz_open : IsNz 97 := by
  intro b W
  rw [← nz_iff]
  go_enter Tryz.func97, Tryz.ntmps97
  go_wp2
  go_ret
  exact ⟨rfl, rfl⟩
theorem nz_get : IsNz 98 := by
  intro b W
  rw [← nz_iff]
  go_enter Tryz.func98, Tryz.ntmps98
  go_wp2
  go_ret
  exact ⟨rfl, rfl⟩

set_option maxRecDepth 100000 in
set_option maxHeartbeats 1000000 in
theorem index_nz (g : Nat) (eg : ∀ args w, (callFunc g args).run Tryz.prog w = .ok (.enter g args) w) (hg : IsNz g) (A : Option Addr) (c : Nat) (l : List UInt8) (w : World) (hr : Reads w w.heap.size 1 A l.length (bs l)) (hl : l.length ≤ 1099511627776) :
    Calls Tryz.prog 120 #[.slice A l.length c, .func (.func g) #[] #[]] w fun e w' => (∃ i : Int, e = .returned (.int .i64 i) ∧ (0 ≤ i ↔ l.any (· != 0) = true)) ∧ ∃ m, w' = w.drewN m := by
  go_enter Tryz.func120, Tryz.ntmps120
  go_wp2
  go_loopw [8] (fun ix wr => ∃ k : Nat, k ≤ l.length ∧ ix = .int .i64 k ∧ (l.take k).any (· != 0) = false ∧ ∃ m, wr = w.drewN m) (fun ix _ => l.length - (intOf ix).toNat)
  case atStart => exact ⟨0, by omega, rfl, by simp, 0, rfl⟩
  case round =>
    obtain ⟨k, hk, rfl, hany, m, rfl⟩ := hrel
    have HA := Lib.hid hany
    clear hany
    by_cases hlt : k < l.length
    · obtain ⟨ad, u, rfl, hb, hu, hc⟩ := hr.at_ hlt
      have hpk : l[k]? = some l[k] := List.getElem?_eq_getElem hlt
      rw [bs_get, hpk] at hu
      have hu' : u = .int .u8 (l[k].toNat : Int) := by cases hu; rfl
      clear hu
      subst hu'
      have hc' : (w.drewN m).cell? (ad.add k) = some (.int .u8 (l[k].toNat : Int)) := hc
      clear hc
      have hstep : (l.take (k + 1)).any (· != 0) = (l[k] != 0) := by
        rw [List.take_add_one, hpk, List.any_append, HA.out]
        simp
      have hsome : (l[k] != 0) = true → l.any (· != 0) = true := fun h => List.any_eq_true.2 ⟨_, List.getElem_mem hlt, h⟩
      generalize l[k] = b at *
      have HS := Lib.hid hstep
      have HO := Lib.hid hsome
      clear hstep hsome hpk
      cases hq : (b != 0) with
      | true =>
        have HQ := Lib.hid hq
        clear hq
        go_wp2_with (go_at_fn g; refine (hg b _).mono ?_; rintro e w' ⟨rfl, rfl⟩; rw [HQ.out])
        go_ret
        exact ⟨⟨k, rfl, fun _ => HO.out HQ.out, fun _ => by omega⟩, m, rfl⟩
      | false =>
        have HQ := Lib.hid hq
        clear hq
        go_wp2_with (go_at_fn g; refine (hg b _).mono ?_; rintro e w' ⟨rfl, rfl⟩; rw [HQ.out])
        go_roundw
        case rel => exact ⟨k + 1, by omega, by go_num, by rw [HS.out, HQ.out], m, rfl⟩
        case measure => simp [intOf]; omega
    · have hkk : k = l.length := by omega
      have HK := Lib.hid hkk
      have hps : l.length ≤ k := by omega
      clear hlt hk hkk
      go_wp2
      go_ret
      refine ⟨⟨-1, rfl, fun h => absurd h (by omega), fun h => ?_⟩, m, rfl⟩
      have h2 := HA.out
      rw [HK.out, List.take_length, h] at h2
      cases h2

set_option maxRecDepth 100000 in
theorem contains_nz (g : Nat) (eg : ∀ args w, (callFunc g args).run Tryz.prog w = .ok (.enter g args) w) (hg : IsNz g) (A : Option Addr) (c : Nat) (l : List UInt8) (w : World) (hr : Reads w w.heap.size 1 A l.length (bs l)) (hl : l.length ≤ 1099511627776) :
    Calls Tryz.prog 96 #[.slice A l.length c, .func (.func g) #[] #[]] w fun e w' => e = .returned (.bool (l.any (· != 0))) ∧ ∃ m, w' = w.drewN m := by
  cases hq : l.any (· != 0) with
  | true =>
    have HQ := Lib.hid hq
    clear hq
    go_enter Tryz.func96, Tryz.ntmps96
    go_wp2_with (go_at_call 120; refine (index_nz g eg hg A c l _ hr hl).mono ?_; rintro e w' ⟨⟨i, rfl, hi⟩, m, rfl⟩; have h0 : 0 ≤ i := hi.2 HQ.out; clear hi)
    go_ret
    refine ⟨?_, m, rfl⟩
    first
    | rfl
    | simp [h0]
  | false =>
    have HQ := Lib.hid hq
    clear hq
    go_enter Tryz.func96, Tryz.ntmps96
    go_wp2_with (go_at_call 120; refine (index_nz g eg hg A c l _ hr hl).mono ?_; rintro e w' ⟨⟨i, rfl, hi⟩, m, rfl⟩; have h0 : ¬ 0 ≤ i := (fun h => by have h2 := hi.1 h; rw [HQ.out] at h2; cases h2); clear hi)
    go_ret
    refine ⟨?_, m, rfl⟩
    first
    | rfl
    | simp [h0]
end Go.Proofs.YtkhebllmnagkmaaGreatDoor
/- Contracts of the package cipher (ChaCha20): at, words. Conditions: what each names. -/
namespace Go.Proofs.YtkhebllmnagkmaaGreatDoor
open Go.RowKit
set_option linter.unusedVariables false

theorem Blk.reads {w : World} {g : Nat} {t : TypeId} {l : List UInt8} (h : Blk w g t (bs l).toArray) : Reads w w.heap.size 1 (some ⟨g, 0, none⟩) l.length (bs l) := by
  refine ⟨by rw [bs_length]; omega, fun _ => ⟨_, rfl, h.lt, fun j u hu => ?_⟩⟩
  rw [add_head]
  exact (h.cell j).trans (by rw [List.getElem?_toArray]; exact hu)
theorem Blk.new_of {w : World} {g : Nat} {t : TypeId} {cs cs' : Array Value} (hg : w.heap.size = g) (hc : cs' = cs) : Blk (w.alloc (.cells cs' t)) g t cs := by
  subst hg hc
  exact Blk.new _ _ _
theorem chunk4_lt (l : List UInt8) (i : Nat) : getB (chunk4 l i) < 4294967296 := by
  have h := getB_lt (chunk4 l i)
  have h2 : (chunk4 l i).length ≤ 4 := by unfold chunk4; rw [List.length_take]; omega
  have h3 : 256 ^ (chunk4 l i).length ≤ 256 ^ 4 := Nat.pow_le_pow_right (by omega) h2
  have h4 : (256 : Nat) ^ 4 = 4294967296 := by decide
  omega
set_option maxRecDepth 100000 in
theorem at_any (A : Option Addr) (len c i : Nat) (l : List UInt8) (w : World) (hr : Reads w w.heap.size 1 A len (bs l)) (hc : len ≤ c) (hi : 4 * i + 4 ≤ len) (hl : len ≤ 140737488351232) :
    Calls Tryz.prog 126 #[.slice A len c, .int .i64 (i : Int)] w fun e w' => e = .returned (.int .u32 (getB (chunk4 l i) : Int)) ∧ w = w' := by
  have hlt := chunk4_lt l i
  have hx : (l.drop (4 * i)).take 4 = chunk4 l i := rfl
  have h4 : (4 : Int) * (i : Int) = ((4 * i : Nat) : Int) := by simp
  have hget := wget_ok A len c (4 * i) 4 l w hr hc (by omega) (by omega) (by omega) hl
  rw [hx, show ((4 : Nat) : Int) = 4 from rfl, show ((4 * i : Nat) : Int) = 4 * (i : Int) from by simp] at hget
  generalize getB (chunk4 l i) = x at *
  clear hx hr h4
  go_enter Tryz.func126, Tryz.ntmps126
  go_wp2_with (go_at_call 95; refine hget.mono ?_; rintro e w' ⟨rfl, rfl⟩)
  go_ret
  exact ⟨rfl, rfl⟩

/-! ### words -/
def cha4 : List Nat := [1634760805, 857760878, 2036477234, 1797285236]
def chaFirst (key : List UInt8) (counter : Nat) (nonce : List UInt8) (i : Nat) : Nat :=
  if i < 4 then cha4.getD i 0 else if i < 12 then getB (chunk4 key (i - 4)) else if i = 12 then counter else getB (chunk4 nonce (i - 13))
def upTo (f : Nat → Nat) (k i : Nat) : Nat := if i < k then f i else 0
theorem upTo_step (n : Nat) (f : Nat → Nat) (k : Nat) : (fw n (upTo f k)).setIfInBounds k (.int .u32 (f k : Int)) = fw n (upTo f (k + 1)) := by
  rw [fw_set]
  refine fw_congr fun i _ => ?_
  unfold upTo
  by_cases h : i = k
  · subst h; simp
  · rw [if_neg h]
    by_cases h2 : i < k
    · rw [if_pos h2, if_pos (by omega)]
    · rw [if_neg h2, if_neg (by omega)]
theorem upTo_all (n : Nat) (f : Nat → Nat) : fw n (upTo f n) = fw n f := fw_congr fun i h => by unfold upTo; rw [if_pos h]
theorem chaFirst_key (key : List UInt8) (counter : Nat) (nonce : List UInt8) (t : Nat) (h : t < 8) : chaFirst key counter nonce (4 + t) = getB (chunk4 key t) := by
  unfold chaFirst
  rw [if_neg (by omega), if_pos (by omega), Nat.add_sub_cancel_left]
theorem chaFirst_nonce (key : List UInt8) (counter : Nat) (nonce : List UInt8) (t : Nat) : chaFirst key counter nonce (13 + t) = getB (chunk4 nonce t) := by
  unfold chaFirst
  rw [if_neg (by omega), if_neg (by omega), if_neg (by omega), Nat.add_sub_cancel_left]
set_option maxRecDepth 100000 in
set_option maxHeartbeats 1000000 in
theorem cwords_any (key : List UInt8) (counter : Nat) (nonce : List UInt8) (w : World) (hk : key.length = 32) (hn : nonce.length = 12) (hc : counter < 4294967296) :
    Calls Tryz.prog 110 #[.agg (bs key).toArray, .int .u32 (counter : Int), .agg (bs nonce).toArray] w fun e w' => e = .returned (.agg (fw 16 (chaFirst key counter nonce))) ∧ Below w.heap.size w w' := by
  have z1 : (bs key).toArray.size = 32 := by simp [bs_length, hk]
  have z2 : (bs nonce).toArray.size = 12 := by simp [bs_length, hn]
  go_enter Tryz.func110, Tryz.ntmps110
  go_wp2
  go_loopw [11] (fun ix wr => ∃ t : Nat, t ≤ 8 ∧ ix = .int .i64 t ∧ Blk wr w.heap.size 23 (bs key).toArray ∧ Blk wr (w.heap.size + 1) 154 (bs nonce).toArray ∧ Blk wr (w.heap.size + 2) 197 (fw 16 (upTo (chaFirst key counter nonce) 0)) ∧ Blk wr (w.heap.size + 3) 197 (fw 16 (upTo (chaFirst key counter nonce) (4 + t))) ∧ Below w.heap.size w wr) (fun ix _ => 8 - (intOf ix).toNat)
  case atStart => exact ⟨0, by omega, rfl, (((Blk.new_of rfl rfl).alloc _).alloc _).alloc _, ((Blk.new_of (by simp) rfl).alloc _).alloc _, (Blk.new_of (by simp) (by rfl)).alloc _, Blk.new_of (by simp) (by rfl), ((((Below.refl _ w).alloc (Nat.le_refl _) _).alloc (by simp) _).alloc (by simp; omega) _).alloc (by simp; omega) _⟩
  case round =>
    obtain ⟨t, ht, rfl, b0, b1, b2, b3, hw⟩ := hrel
    have hS := b3.lt
    by_cases hlt : t < 8
    · have hr := b0.reads
      rw [hk] at hr
      have hx := chunk4_lt key t
      have hst := upTo_step 16 (chaFirst key counter nonce) (4 + t)
      rw [chaFirst_key key counter nonce t hlt] at hst
      have hat := fun W (h : Reads W W.heap.size 1 (some ⟨w.heap.size, 0, none⟩) 32 (bs key)) => at_any (some ⟨w.heap.size, 0, none⟩) 32 32 t key W h (by omega) (by omega) (by omega)
      generalize getB (chunk4 key t) = x at *
      have hc1 := (b3.cell (4 + t)).trans (fw_get 16 _ (4 + t) (by omega))
      have hf1 := b3.frozen (4 + t)
      have e4 : ((4 : Int) + (t : Int)).toNat = 4 + t := by omega
      have HST := Lib.hid hst
      have Hk := Lib.hid hk
      have Hn := Lib.hid hn
      have Z1 := Lib.hid z1
      have Z2 := Lib.hid z2
      generalize upTo (chaFirst key counter nonce) (4 + t) (4 + t) = y at *
      clear hst hk hn z1 z2
      go_wp2_with (go_at_call 126; refine (hat _ hr).mono ?_; rintro e w' ⟨rfl, rfl⟩)
      go_roundw
      case rel =>
        refine ⟨t + 1, by omega, by go_num, b0.far (p := ⟨w.heap.size + 3, 4 + t, none⟩) (by simp) _, b1.far (p := ⟨w.heap.size + 3, 4 + t, none⟩) (by simp) _, b2.far (p := ⟨w.heap.size + 3, 4 + t, none⟩) (by simp) _, ?_, hw.setCell (by simp; omega) _⟩
        have h := b3.set_ (4 + t) (.int .u32 (x : Int))
        rw [HST.out] at h
        exact h
      case measure => simp [intOf]; omega
    · have h8 : t = 8 := by omega
      rw [h8, show 4 + 8 = 12 from rfl] at b3
      clear h8
      have hst := upTo_step 16 (chaFirst key counter nonce) 12
      rw [show chaFirst key counter nonce 12 = counter from rfl, show 12 + 1 = 13 from rfl] at hst
      have hc1 := (b3.cell 12).trans (fw_get 16 _ 12 (by omega))
      have hf1 := b3.frozen 12
      have HST := Lib.hid hst
      have Hk := Lib.hid hk
      have Hn := Lib.hid hn
      have Z1 := Lib.hid z1
      have Z2 := Lib.hid z2
      have b4 := b3.set_ 12 (.int .u32 (counter : Int))
      rw [hst] at b4
      have hw4 : Below w.heap.size w (wr.setCell ⟨w.heap.size + 3, 12, none⟩ (.int .u32 (counter : Int))) := hw.setCell (by simp) _
      have c0 := b0.far (p := ⟨w.heap.size + 3, 12, none⟩) (by simp) (.int .u32 (counter : Int))
      have c1 := b1.far (p := ⟨w.heap.size + 3, 12, none⟩) (by simp) (.int .u32 (counter : Int))
      have c2 := b2.far (p := ⟨w.heap.size + 3, 12, none⟩) (by simp) (.int .u32 (counter : Int))
      generalize upTo (chaFirst key counter nonce) 12 12 = y at *
      clear hst hk hn z1 z2 b0 b1 b2 hw
      go_wp2
      clear b3 hc1 hf1
      go_loopw [23] (fun ix wr => ∃ t : Nat, t ≤ 3 ∧ ix = .int .i64 t ∧ Blk wr (w.heap.size + 1) 154 (bs nonce).toArray ∧ Blk wr (w.heap.size + 2) 197 (fw 16 (upTo (chaFirst key counter nonce) 0)) ∧ Blk wr (w.heap.size + 3) 197 (fw 16 (upTo (chaFirst key counter nonce) (13 + t))) ∧ Below w.heap.size w wr) (fun ix _ => 3 - (intOf ix).toNat)
      case atStart => exact ⟨0, by omega, rfl, c1, c2, b4, hw4⟩
      case round =>
        clear c0 c1 c2 b4 hw4 hS
        obtain ⟨t, ht, rfl, b1, b2, b3, hw⟩ := hrel
        have hS := b3.lt
        by_cases hlt : t < 3
        · have hr := b1.reads
          rw [Hn.out] at hr
          have hx := chunk4_lt nonce t
          have hst := upTo_step 16 (chaFirst key counter nonce) (13 + t)
          rw [chaFirst_nonce key counter nonce t] at hst
          have hat := fun W (h : Reads W W.heap.size 1 (some ⟨w.heap.size + 1, 0, none⟩) 12 (bs nonce)) => at_any (some ⟨w.heap.size + 1, 0, none⟩) 12 12 t nonce W h (by omega) (by omega) (by omega)
          generalize getB (chunk4 nonce t) = x at *
          have hc1 := (b3.cell (13 + t)).trans (fw_get 16 _ (13 + t) (by omega))
          have hf1 := b3.frozen (13 + t)
          have e4 : ((13 : Int) + (t : Int)).toNat = 13 + t := by omega
          have HST' := Lib.hid hst
          generalize upTo (chaFirst key counter nonce) (13 + t) (13 + t) = y at *
          clear hst
          go_wp2_with (go_at_call 126; refine (hat _ hr).mono ?_; rintro e w' ⟨rfl, rfl⟩)
          go_roundw
          case rel =>
            refine ⟨t + 1, by omega, by go_num, b1.far (p := ⟨w.heap.size + 3, 13 + t, none⟩) (by simp) _, b2.far (p := ⟨w.heap.size + 3, 13 + t, none⟩) (by simp) _, ?_, hw.setCell (by simp; omega) _⟩
            have h := b3.set_ (13 + t) (.int .u32 (x : Int))
            rw [HST'.out] at h
            exact h
          case measure => simp [intOf]; omega
        · have h3 : t = 3 := by omega
          rw [h3, show 13 + 3 = 16 from rfl, upTo_all] at b3
          clear h3
          have s1 := fw_size 16 (chaFirst key counter nonce)
          have s2 := fw_size 16 (upTo (chaFirst key counter nonce) 0)
          have s3 := fw_one 16 (chaFirst key counter nonce)
          generalize hcs : fw 16 (chaFirst key counter nonce) = cs at *
          have HCS := Lib.hid hcs
          clear hcs
          generalize fw 16 (upTo (chaFirst key counter nonce) 0) = cs0 at *
          have S1 := Lib.hid s1
          have S2 := Lib.hid s2
          have S3 := Lib.hid s3
          clear s1 s2 s3
          go_wp2_with (first | ((with_reducible refine wpList_load_blk (o := ⟨some 33, _, _, _, _, _⟩) rfl 197 _ rfl (w.heap.size + 3) rfl 197 _ _ b3 Tryz.underlying197 rfl (by rw [S1.out]; kernel_rfl) ?_)) | ((with_reducible refine wpList_store_blk rfl 197 (.tmp 6) (.tmp 33) rfl (w.heap.size + 2) _ rfl rfl 197 _ b2 (by rw [S1.out]; kernel_rfl) (by rw [S1.out, S2.out]) S3.out ?_); intro w2 h2 hg2 hs2))
          exact ret_cell 6 197 rfl rfl (w.heap.size + 2) 197 _ _ rfl h2 Tryz.underlying197 rfl (by rw [S1.out]; kernel_rfl) ⟨by rw [HCS.out], hw.trans (below_grown (B := w.heap.size) hg2 (by omega) hw.size)⟩
end Go.Proofs.YtkhebllmnagkmaaGreatDoor
/- Contracts of the package cipher (ChaCha20): the closure of Block, Block. Conditions: what each names. -/
namespace Go.Proofs.YtkhebllmnagkmaaGreatDoor
open Go.RowKit
set_option linter.unusedVariables false

def upd (f : Nat → Nat) (k x : Nat) (i : Nat) : Nat := if i = k then x else f i
def chaAdd (f : Nat → Nat) (a b d n : Nat) : Nat → Nat :=
  upd (upd f a ((f a + f b) % 4294967296)) d (rotl (f d ^^^ ((f a + f b) % 4294967296)) n)
theorem fw_upd (n : Nat) (f : Nat → Nat) (k x : Nat) : (fw n f).setIfInBounds k (.int .u32 (x : Int)) = fw n (upd f k x) := fw_set n f k x

set_option maxRecDepth 100000 in
set_option maxHeartbeats 1000000 in
theorem quarter_any (g a b d n : Nat) (f : Nat → Nat) (w : World) (hb : Blk w g 197 (fw 16 f)) (hf : ∀ i, f i < 4294967296) (ha : a < 16) (hb16 : b < 16) (hd : d < 16) (hab : a ≠ b) (had : a ≠ d) (hn1 : 1 ≤ n) (hn : n ≤ 31) :
    Calls Tryz.prog 111 #[.int .i64 (a : Int), .int .i64 (b : Int), .int .i64 (d : Int), .int .i64 (n : Int), .pointer (some ⟨g, 0, none⟩)] w fun e w' => e = .returned (.tuple #[]) ∧ Blk w' g 197 (fw 16 (chaAdd f a b d n)) ∧ w.grownBy w' (some g) ∧ w'.heap.size = w.heap.size := by
  have la := hf a
  have lb := hf b
  have ld := hf d
  obtain ⟨w1, hw1⟩ : ∃ w1 : World, w1 = w.drew := ⟨_, rfl⟩
  have hb1 : Blk w1 g 197 (fw 16 f) := by rw [hw1]; exact hb
  have hg1 : w.grownBy w1 (some g) := by rw [hw1]; exact only_drew (World.grownBy.refl w _)
  have hs1 : w1.heap.size = w.heap.size := by rw [hw1]; rfl
  have ca := (hb1.cell a).trans (fw_get 16 f a ha)
  have cb := (hb1.cell b).trans (fw_get 16 f b hb16)
  have fa := hb1.frozen a
  have hx : (f d ^^^ ((f a + f b) % 4294967296)) < 4294967296 := Nat.xor_lt_two_pow (n := 32) ld (Nat.mod_lt _ (by omega))
  have hbx : bits .xor .u32 (f d : Int) (((f a + f b) % 4294967296 : Nat) : Int) = ((f d ^^^ ((f a + f b) % 4294967296) : Nat) : Int) := u32_xor_nat _ _ ld (Nat.mod_lt _ (by omega))
  have HBX := Lib.hid hbx
  have HB1 := Lib.hid hb1
  have HG1 := Lib.hid hg1
  have HS1 := Lib.hid hs1
  have HF := Lib.hid hf
  clear hbx hb hb1 hg1 hs1 hf
  go_enter Tryz.func111, Tryz.ntmps111
  go_wp2
  have HW := Lib.hid hw1
  refine wp_region_still_tail 8 (by kernel_rfl) (by kernel_rfl) ?_
  simp only [List.take_succ_cons, List.take_zero, List.drop_succ_cons, List.drop_zero]
  change wpStill _ _ w.drew _ _ _
  rw [← hw1]
  clear hw1
  have ia : (a : Int) < 16 := by omega
  have ib : (b : Int) < 16 := by omega
  have ja : (0 : Int) ≤ (a : Int) := by omega
  have jb : (0 : Int) ≤ (b : Int) := by omega
  have ta : ((a : Int)).toNat = a := by omega
  have tb : ((b : Int)).toNat = b := by omega
  repeat still_step
  refine wpStill_nil ?_
  change wpList _ _ _ _ _ w.drew
  rw [← HW.out]
  go_wp2
  have ec : (((f a + f b) % 4294967296 : Nat) : Int) = ((f a : Int) + (f b : Int)) % 4294967296 := by simp
  obtain ⟨w2, hw2⟩ : ∃ w2 : World, w2 = (w1.setCell ⟨g, a, none⟩ (.int .u32 (((f a : Int) + (f b : Int)) % 4294967296))).drew := ⟨_, rfl⟩
  have hb2 : Blk w2 g 197 (fw 16 (upd f a ((f a + f b) % 4294967296))) := by
    rw [hw2, ← fw_upd, ec]
    exact HB1.out.set_ a _
  have hg2 : w.grownBy w2 (some g) := by rw [hw2]; exact only_drew (only_setCell HG1.out (.inl rfl) _)
  have hs2 : w2.heap.size = w.heap.size := by rw [hw2, ← HS1.out]; simp [World.setCell]
  have ca1 := (hb2.cell a).trans (fw_get 16 _ a ha)
  have cd1 := (hb2.cell d).trans (fw_get 16 _ d hd)
  have fd1 := hb2.frozen d
  rw [show upd f a ((f a + f b) % 4294967296) a = (f a + f b) % 4294967296 from by simp [upd]] at ca1
  rw [show upd f a ((f a + f b) % 4294967296) d = f d from by simp [upd, Ne.symm had]] at cd1
  have HB2 := Lib.hid hb2
  have HG2 := Lib.hid hg2
  have HS2 := Lib.hid hs2
  have HW2 := Lib.hid hw2
  have EC := Lib.hid ec
  have hm : (f a + f b) % 4294967296 < 4294967296 := Nat.mod_lt _ (by omega)
  have hbx := HBX.out
  clear hb2 hg2 hs2 ec ca cb fa
  refine wp_region_still_tail 11 (by kernel_rfl) (by kernel_rfl) ?_
  simp only [List.take_succ_cons, List.take_zero, List.drop_succ_cons, List.drop_zero]
  change wpStill _ _ (w1.setCell ⟨g, a, none⟩ (.int .u32 (((f a : Int) + (f b : Int)) % 4294967296))).drew _ _ _
  rw [← hw2]
  clear hw2
  have ix : (d : Int) < 16 := by omega
  have jd : (0 : Int) ≤ (d : Int) := by omega
  have td : ((d : Int)).toNat = d := by omega
  repeat still_step
  have hrot := rotate_any (f d ^^^ ((f a + f b) % 4294967296)) (n : Int) n w2 hx (by omega) (by omega) (by omega) hn1 hn
  rw [← hbx] at hrot
  still_call (hrot.mono fun _ _ h => ⟨h.1, h.2.symm⟩)
  repeat still_step
  refine wpStill_nil ?_
  change wpList _ _ _ _ _ (w1.setCell ⟨g, a, none⟩ (.int .u32 (((f a : Int) + (f b : Int)) % 4294967296))).drew
  rw [← HW2.out]
  go_wp2
  refine bodyPost_end (results_none rfl _ _ _) rfl ?_
  refine ⟨rfl, ?_, only_setCell HG2.out (.inl rfl) _, by rw [← HS2.out]; simp [World.setCell]⟩
  have h := HB2.out.set_ d (.int .u32 (rotl (f d ^^^ ((f a + f b) % 4294967296)) n : Int))
  rw [fw_upd] at h
  exact h
end Go.Proofs.YtkhebllmnagkmaaGreatDoor
