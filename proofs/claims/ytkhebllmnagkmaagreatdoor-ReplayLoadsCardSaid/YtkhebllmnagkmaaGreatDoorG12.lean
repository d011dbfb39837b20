/- Contracts and lemmas under the statements of this seat, one behind the other. Conditions: what each names. -/
import Derived.Test.YtkhebllmnagkmaaGreatDoorG11
import Derived.Test.YtkhebllmnagkmaaGreatDoorG8
import Derived.RangeFuncNested
/- Contract of the disk's Read, of a disk that is up, at a place that it has. Conditions: what each names. -/
namespace Go.Proofs.YtkhebllmnagkmaaGreatDoor
open Go.RowKit Go.Shelf
set_option linter.unusedVariables false
attribute [local go_sem] Oper.semAt_some

/-- What a disk reads: the last write under way to the place, or what stands there. -/
def readAt (D : Dk) (i : Nat) : List UInt8 := match D.way.reverse.find? (fun p => p.1 == i) with | some p => p.2 | none => D.places.getD i []

/-- Two blocks may be other ones. -/
structure Two (b1 b2 : Nat) (w w' : World) : Prop where
  os : w'.os = w.os
  tape : w'.tape = w.tape
  output : w'.output = w.output
  size : w.heap.size ≤ w'.heap.size
  block : ∀ k, k < w.heap.size → k ≠ b1 → k ≠ b2 → w'.heap[k]? = w.heap[k]?
section
variable {b1 b2 : Nat} {a w w' : World}
theorem Two.of_below (h : Below a.heap.size a w) : Two b1 b2 a w := ⟨h.os, h.tape, h.output, h.size, fun k hk _ _ => h.block k hk⟩
theorem Two.grown (h : Two b1 b2 a w) {row : Option Nat} (hg : w.grownBy w' row) (hr : ∀ k, row = some k → a.heap.size ≤ k) : Two b1 b2 a w' :=
  ⟨hg.os.trans h.os, hg.tape.trans h.tape, hg.output.trans h.output, Nat.le_trans h.size hg.size, fun k hk h1 h2 => (hg.block k (Nat.lt_of_lt_of_le hk h.size) (fun e => by have := hr k e.symm; omega)).trans (h.block k hk h1 h2)⟩
theorem Two.set1 (h : Two b1 b2 a w) (o : Nat) (u : Value) : Two b1 b2 a (w.setCell ⟨b1, o, none⟩ u) :=
  ⟨h.os, h.tape, h.output, by have := h.size; simpa [World.setCell] using this, fun k hk h1 h2 => (Below.heap_setCell w ⟨b1, o, none⟩ u k h1).trans (h.block k hk h1 h2)⟩
theorem Two.set2 (h : Two b1 b2 a w) (o : Nat) (u : Value) : Two b1 b2 a (w.setCell ⟨b2, o, none⟩ u) :=
  ⟨h.os, h.tape, h.output, by have := h.size; simpa [World.setCell] using this, fun k hk h1 h2 => (Below.heap_setCell w ⟨b2, o, none⟩ u k h2).trans (h.block k hk h1 h2)⟩
theorem Two.disk (hT : Two b1 b2 w w') {g : Nat} {F : Nat → Prop} {D : Dk} {vp vu vo : Value} {xp xu xo : List Value} (h : DiskAt w g F D vp vu vo xp xu xo) (h1 : ¬ F b1) (h2 : ¬ F b2) (k1 : ¬ Kind w b1 5) (k2 : ¬ Kind w b2 5) : DiskAt w' g F D vp vu vo xp xu xo :=
  h.keep hT.size fun k t hK hf => hT.block k hK.lt (fun e => by subst e; exact hf.elim h1 (fun e => k1 (e ▸ hK))) (fun e => by subst e; exact hf.elim h2 (fun e => k2 (e ▸ hK)))
theorem Two.only (hT : Two b1 b2 w w') {F : Nat → Prop} (O : Only F a w) (h1 : a.heap.size ≤ b1) (h2 : a.heap.size ≤ b2) : Only F a w' :=
  ⟨hT.os.trans O.os, hT.tape.trans O.tape, hT.output.trans O.output, Nat.le_trans O.size hT.size, fun k hk hf => (hT.block k (Nat.lt_of_lt_of_le hk O.size) (by omega) (by omega)).trans (O.block k hk hf)⟩
end
theorem results_cells2 {P : Program} {fn : Func} {p q : Tmp} {ty tz : TypeId} (h : fn.results = #[.cell p ty, .cell q tz]) (tmps : Array Value) (w : World) (a b : Addr) (v u : Value)
    (hp : tmps.getD p undef = .pointer (some a)) (hq : tmps.getD q undef = .pointer (some b)) (h1 : (loadVar ty a).run P w = .ok v w) (h2 : (loadVar tz b).run P w = .ok u w) :
    (results fn tmps).run P w = .ok (.tuple #[v, u]) w := by
  have hp' : tmps[p]?.getD undef = .pointer (some a) := by simpa using hp
  have hq' : tmps[q]?.getD undef = .pointer (some b) := by simpa using hq
  simp [results, h, hp', hq', asAddr, h1, h2]
theorem load34 {w : World} {g : Nat} {v : Value} (h : Blk w g 55 #[v]) : (loadVar 55 ⟨g, 0, none⟩).run Tryz.prog w = .ok v w := by
  have c : w.cell? ⟨g, 0, none⟩ = some v := h.cell 0
  simp [loadVar, go_sem, c]
theorem load41 {w : World} {g : Nat} {v : Value} (h : Blk w g 27 #[v]) : (loadVar 27 ⟨g, 0, none⟩).run Tryz.prog w = .ok v w := by
  have c : w.cell? ⟨g, 0, none⟩ = some v := h.cell 0
  simp [loadVar, go_sem, c]
theorem RowW.one {w : World} {xs : List Value} {l : List (Nat × List UInt8)} (h : RowW w xs l) (hl : xs.length = 2 * l.length) (j : Nat) : (xs.getD j (.bool false)).oneCell' = true := by
  rw [List.getD_eq_getElem?_getD]
  by_cases hj : j < xs.length
  · obtain ⟨h0, v, h1, A, c, hv, _⟩ := h (j / 2) _ (List.getElem?_eq_getElem (by omega))
    rcases Nat.mod_two_eq_zero_or_one j with hm | hm
    · rw [show 2 * (j / 2) = j by omega] at h0
      rw [h0]; rfl
    · rw [show 2 * (j / 2) + 1 = j by omega] at h1
      rw [h1, hv]; rfl
  · rw [List.getElem?_eq_none (by omega)]; rfl
/-- What is handed over, told of all numbers. -/
def backV (xs : List Value) (n x : Nat) : Array Value := #[.int .i64 (backAt n x : Int), .agg #[xs.getD (backAt n x * 2) (.bool false), xs.getD (backAt n x * 2 + 1) (.bool false)]]
theorem backV_eq {xs : List Value} {n : Nat} (x : Nat) (hl : xs.length = n * 2) (hn : 0 < n) : backV xs n x = backEnc xs n x := by
  have h : backAt n x < n := by unfold backAt; omega
  unfold backV backEnc
  rw [List.getD_eq_getElem?_getD, List.getD_eq_getElem?_getD, List.getD_eq_getElem?_getD, List.getD_eq_getElem?_getD, List.getElem?_eq_getElem (by omega), List.getElem?_eq_getElem (by omega)]
  rfl
theorem back_stopsV (F : Fence) (d : Nat) (hf : F.fn 74) (hro : F.round = none) (hd : 1 ≤ d) (c1 r : Nat) (A : Option Addr) (n cap : Nat) (xs : List Value) (hA : 0 < n → A = some ⟨r, 0, none⟩) (hxl : xs.length = n * 2) (hcap : n ≤ 140737488351232) (w : World)
    (hc1 : Blk w c1 82 #[.slice A n cap]) (hr : r < w.heap.size) (hrow : ∀ j u, xs[j]? = some u → w.cell? ⟨r, j, none⟩ = some u) :
    SeqStopsK F d Tryz.prog 74 #[.pointer (some ⟨c1, 0, none⟩)] (backV xs n) (KeepTwo c1 r) (fun ys => ys = List.range n) (fun pre => ∃ k, k ≤ n ∧ pre = List.range k) n w := fun l J Jx W hW hJ hJx hY hJ0 =>
  back_stops F d hf hro hd c1 r A n cap xs hA hxl hcap w hc1 hr hrow l J Jx W hW hJ hJx (fun pre x W h hlt => by rw [← backV_eq x hxl (by omega)]; exact hY pre x W h hlt) hJ0
/-- Number x from behind is no write to place i. -/
def NoHit (D : Dk) (i x : Nat) : Prop := ∀ p, D.way[backAt D.way.length x]? = some p → p.1 ≠ i
theorem readAt_none (D : Dk) (i : Nat) (h : ∀ x ∈ List.range D.way.length, NoHit D i x) : readAt D i = D.places.getD i [] := by
  have hn : D.way.reverse.find? (fun p => p.1 == i) = none := by
    rw [List.find?_eq_none]
    intro p hp he
    obtain ⟨k, hk, hkp⟩ := List.getElem_of_mem (List.mem_reverse.1 hp)
    refine h (D.way.length - 1 - k) (List.mem_range.2 (by omega)) p ?_ (by simpa using he)
    rw [show backAt D.way.length (D.way.length - 1 - k) = k by unfold backAt; omega, List.getElem?_eq_getElem hk, hkp]
  unfold readAt
  rw [hn]
theorem readAt_hit (D : Dk) (i x k : Nat) (pre : List Nat) (p : Nat × List UInt8) (he : pre ++ [x] = List.range k) (hk : k ≤ D.way.length) (h : ∀ y ∈ pre, NoHit D i y) (hp : D.way[backAt D.way.length x]? = some p) (hi : p.1 = i) : readAt D i = p.2 := by
  obtain ⟨m, rfl⟩ : ∃ m, k = m + 1 := ⟨k - 1, by have := congrArg List.length he; simp at this; omega⟩
  rw [List.range_succ] at he
  obtain ⟨ha, hb⟩ := List.append_inj' he rfl
  injection hb with hb
  subst hb ha
  have hf : D.way.reverse.find? (fun p => p.1 == i) = some p := by
    rw [List.find?_eq_some_iff_getElem]
    refine ⟨by simpa using hi, x, by simpa using (by omega : x < D.way.length), ?_, ?_⟩
    · rw [List.getElem_reverse]
      rw [show backAt D.way.length x = D.way.length - 1 - x by unfold backAt; omega] at hp
      rw [List.getElem?_eq_getElem (by omega)] at hp
      exact Option.some.inj hp
    · intro j hj
      have hn := h j (List.mem_range.2 hj) D.way[D.way.length - 1 - j] (by rw [show backAt D.way.length j = D.way.length - 1 - j by unfold backAt; omega]; exact List.getElem?_eq_getElem (by omega))
      rw [List.getElem_reverse]
      simpa using hn
  unfold readAt
  rw [hf]
/-- A piece of code that ends as it should, walked where nothing else is asked of it. -/
theorem wp_then_only {P : Program} {c : Code} {K : Act → World → Prop} {Q : Exit → Act → World → Prop} {a : Act} {w : World} (h : c.wp P (Exit.then K (fun _ _ _ => False)) a w) : c.wp P (Exit.then K Q) a w :=
  Code.wp_mono (fun e a w h => by cases e <;> first | exact h | exact h.elim) h
theorem zip_two (t : Array Value) (p q : Tmp) (x y : Value) : (#[p, q].zip #[x, y]).foldl (fun t z => t.setIfInBounds z.1 z.2) t = (t.setIfInBounds p x).setIfInBounds q y := by simp
/-- The temporaries of Read behind the note of the call. -/
def rdTmps (g i B s : Nat) (Ap : Option Addr) (np cp : Nat) (Ao : Option Addr) (no co : Nat) (A7 : Option Addr) (c7 : Nat) (t7 t39 t40 t41 t42 t43 t44 t45 : Value) : Array Value :=
  #[.pointer (some ⟨g, 0, none⟩), .int .i64 (i : Int), undef, .pointer (some ⟨B, 0, none⟩), .pointer (some ⟨B + 1, 0, none⟩), .pointer (some ⟨B + 1 + 1, 0, none⟩), undef, t7, .bool false, .pointer (some ⟨g, 0, none⟩), .bool false, .bool false, .pointer (some ⟨g, 0, none⟩), .pointer (some ⟨g, 0, none⟩), .pointer (some ⟨g, 3, none⟩),
    .bool false, .bool false, .int .i64 (i : Int), .bool false, .bool false, .int .i64 (i : Int), .pointer (some ⟨g, 0, none⟩), .pointer (some ⟨g, 0, none⟩), .pointer (some ⟨g, 0, none⟩), .slice Ap np cp, .int .i64 (np : Int), .bool false, .bool false, .pointer (some ⟨g, 0, none⟩), .pointer (some ⟨g, 0, none⟩), .pointer (some ⟨g, 0, none⟩), .pointer (some ⟨g, 4, none⟩),
    .slice Ao no co, .int .i64 (i : Int), .agg #[.int .i64 1, .int .i64 (i : Int)], .slice (some ⟨s, 0, none⟩) 1 1, .slice A7 (no + 1) c7, .pointer (some ⟨g, 0, none⟩), .pointer (some ⟨g, 4, none⟩), t39, t40, t41, t42, t43, t44, t45, undef, undef, undef, undef, undef, undef, undef, undef, undef, undef, undef, undef, undef, undef, undef]
/-- A disk whose bytes lie in blocks that stood in another world. -/
def DiskF (w w' : World) (g : Nat) (F : Nat → Prop) (D : Dk) : Prop := ∃ vp vu vo xp xu xo, DiskAt w' g F D vp vu vo xp xu xo ∧ RowB w xp D.places ∧ RowW w xu D.way
theorem DiskF.disk {w w' : World} {g : Nat} {F : Nat → Prop} {D : Dk} (h : DiskF w w' g F D) : Disk w' g F D := by
  obtain ⟨vp, vu, vo, xp, xu, xo, h, _⟩ := h
  exact ⟨_, _, _, _, _, _, h⟩
theorem DiskF.keep {w w' V : World} {g : Nat} {F F0 : Nat → Prop} {D : Dk} (h : DiskF w w' g F D) (hO : Only F0 w w') (hs : w'.heap.size ≤ V.heap.size) (hk : ∀ k t, Kind w' k t → (t ≠ 5 ∨ k < w.heap.size) → V.heap[k]? = w'.heap[k]?) : Disk V g F D := by
  obtain ⟨vp, vu, vo, xp, xu, xo, h, rp, ru⟩ := h
  have hu : ∀ k, Kind w k 5 → V.heap[k]? = w.heap[k]? := fun k hK => (hk k _ (hK.same (hO.kind hK (.inr dry_u8))) (.inr hK.lt)).trans (hO.kind hK (.inr dry_u8))
  have hz := Nat.le_trans hO.size hs
  exact ⟨vp, vu, vo, xp, xu, xo, (hk g _ h.blk.kind (.inl (by decide))).trans h.blk, h.fg, own_keep h.op (fun k e => hk k _ (own_kind h.op e) (.inl (by decide))), h.fp, rp.keep hz hu, own_keep h.ou (fun k e => hk k _ (own_kind h.ou e) (.inl (by decide))), h.fu, ru.keep hz hu, own_keep h.oo (fun k e => hk k _ (own_kind h.oo e) (.inl (by decide))), h.fo⟩
set_option maxRecDepth 100000 in
set_option maxHeartbeats 4000000 in
theorem dread_gen (g i : Nat) (F : Nat → Prop) (D : Dk) (w : World) (hD : Disk w g F D) (hdn : D.down = false) (hi : i < D.places.length) (h1 : ∀ b ∈ D.places, b.length = 192) (h2 : ∀ p ∈ D.way, p.2.length = 192)
    (hn1 : D.way.length ≤ 1048576) (hn2 : D.ops ≤ 1048576) :
    Calls Tryz.prog 15 #[.pointer (some ⟨g, 0, none⟩), .int .i64 (i : Int)] w fun e w' => ∃ v, e = .returned (.tuple #[v, .int .i64 0]) ∧ Owns w' w.heap.size v (readAt D i) ∧ DiskF w w' g (more F w.heap.size) { D with ops := D.ops + 1 } ∧ Only F w w' := by
  have hD0 := hD.bound
  obtain ⟨vp, vu, vo, xp, xu, xo, h⟩ := hD0
  have HRP := Lib.hid h.rp
  have HRU := Lib.hid h.ru
  obtain ⟨i1, ii1, hy0, hy1, hy2⟩ := info_parts info105
  obtain ⟨Ap, cp, hvp⟩ := own_shape h.op
  obtain ⟨Au, cu, hvu⟩ := own_shape h.ou
  obtain ⟨Ao, co, hvo⟩ := own_shape h.oo
  subst hvp hvu hvo
  have b0 : Below w.heap.size w (((w.alloc (.cells #[.int .i64 (i : Int)] 3)).alloc (.cells #[.slice none 0 0] 55)).alloc (.cells #[.int .i64 0] 27)) := (((Below.refl _ _).alloc (Nat.le_refl _) _).alloc (by simp) _).alloc (by simp; omega) _
  have h3 := h.under b0
  have kb : Blk (((w.alloc (.cells #[.int .i64 (i : Int)] 3)).alloc (.cells #[.slice none 0 0] 55)).alloc (.cells #[.int .i64 0] 27)) w.heap.size 3 #[.int .i64 (i : Int)] := ((Blk.new_of rfl rfl).alloc _).alloc _
  have k4 : Blk (((w.alloc (.cells #[.int .i64 (i : Int)] 3)).alloc (.cells #[.slice none 0 0] 55)).alloc (.cells #[.int .i64 0] 27)) (w.heap.size + 1) 55 #[.slice none 0 0] := (Blk.new_of (by simp) rfl).alloc _
  have k5 : Blk (((w.alloc (.cells #[.int .i64 (i : Int)] 3)).alloc (.cells #[.slice none 0 0] 55)).alloc (.cells #[.int .i64 0] 27)) (w.heap.size + 2) 27 #[.int .i64 0] := Blk.new_of (by simp) rfl
  obtain ⟨W0, hW0⟩ : ∃ W0 : World, W0 = (((w.alloc (.cells #[.int .i64 (i : Int)] 3)).alloc (.cells #[.slice none 0 0] 55)).alloc (.cells #[.int .i64 0] 27)) := ⟨_, rfl⟩
  have c3 : (((w.alloc (.cells #[.int .i64 (i : Int)] 3)).alloc (.cells #[.slice none 0 0] 55)).alloc (.cells #[.int .i64 0] 27)).cell? ⟨g, 3, none⟩ = some (.bool false) := by rw [← hdn]; exact h3.blk.cell 3
  rw [← hW0] at b0 h3 kb k4 k5
  have HW0 := Lib.hid hW0
  clear hW0
  refine (callsIn_wide (n := 3)).1 ?_
  refine callsIn_of_wp_marks Tryz.func15 rfl trivial ?_ rfl
  simp only [Tryz.ntmps15, List.size_toArray, List.length_cons, List.length_nil, Nat.reduceAdd, Nat.reduceSub, Array.replicate_succ, Array.replicate_zero, List.push_toArray, List.append_toArray, List.nil_append, List.cons_append]
  gi_wp2
  rw [← HW0.out]
  refine wpIn_wide.2 ?_
  have s0 : W0.drew.cell? ⟨g, 0, none⟩ = some (.slice Ap D.places.length cp) := h3.blk.cell 0
  have s1 : W0.drew.cell? ⟨w.heap.size, 0, none⟩ = some (.int .i64 (i : Int)) := kb.cell 0
  have n0 : ¬ (i : Int) < 0 := by omega
  have n1 : ¬ (D.places.length : Int) ≤ (i : Int) := by omega
  go_region_held3 (fun w' => w'.cell? ⟨g, 0, none⟩ = some (.slice Ap D.places.length cp) ∧ w'.cell? ⟨w.heap.size, 0, none⟩ = some (.int .i64 (i : Int))) (first | (exact ⟨s0, s1⟩)) (fail)
  clear c3 s0 s1
  gi_wp2
  rename_i K0 hK0
  have HC : ∀ (A7 : Option Addr) (cc7 : Nat) (W5 : World) (xo' : List Value) (FF : Nat → Prop), (∀ k, FF k → (F k ∧ k < w.heap.size) ∨ w.heap.size + 4 ≤ k) → DiskAt W5 g FF { D with ops := D.ops + 1 } (.slice Ap D.places.length cp) (.slice Au D.way.length cu) (.slice A7 (D.ops + 1) cc7) xp xu xo' →
      Only F w W5 → w.heap.size + 4 ≤ W5.heap.size → Blk W5 w.heap.size 3 #[.int .i64 (i : Int)] → Blk W5 (w.heap.size + 1) 55 #[.slice none 0 0] → Blk W5 (w.heap.size + 2) 27 #[.int .i64 0] →
      K0 ⟨rdTmps g i w.heap.size W0.heap.size Ap D.places.length cp Ao D.ops co A7 cc7 undef undef undef undef undef undef undef undef, []⟩ W5 := by
    intro A7 cc7 W5 xo' FF hFF H5 O5 s5 kb5 k45 k55
    have c1 : W5.cell? ⟨g, 1, none⟩ = some (.slice Au D.way.length cu) := H5.blk.cell 1
    refine hK0 _ _ ?_
    simp only [rdTmps]
    gi_wp2_with (first | (refine ⟨trivial, ?_⟩; gi_at_call 42; refine (back_any Fence.wide 2 trivial rfl Au D.way.length cu W5).mono ?_; rintro e W6 ⟨rfl, hc1, hs6, hb6⟩))
    have H6 := H5.under hb6
    have O6 := O5.under hb6
    have kb6 := kb5.below hb6 kb5.lt
    have k46 := k45.below hb6 k45.lt
    have k56 := k55.below hb6 k55.lt
    obtain ⟨r, hA, hr, hrow⟩ : ∃ r, (0 < D.way.length → Au = some ⟨r, 0, none⟩) ∧ r < W6.heap.size ∧ ∀ j u, xu[j]? = some u → W6.cell? ⟨r, j, none⟩ = some u := by
      rcases H6.ou.2 with ⟨hv, h0⟩ | ⟨r, cap', cur, hv, _, hh, _⟩
      · exact ⟨0, fun h => absurd h0 (by show ¬ D.way.length = 0; omega), by omega, fun j u hu => by
          have hl := H6.ou.1
          rw [h0] at hl
          rw [List.eq_nil_of_length_eq_zero (by omega : xu.length = 0)] at hu
          simp at hu⟩
      · injection hv with hv1
        subst hv1
        refine ⟨r, fun _ => rfl, (Array.getElem?_eq_some_iff.1 hh).1, fun j u hu => ?_⟩
        have h := World.ownsRow.cells H6.ou (g := r) rfl j u hu
        rwa [add_head] at h
    have hxl : xu.length = D.way.length * 2 := H6.ou.1
    have hone := fun j => RowW.one H6.ru (by rw [hxl]; show D.way.length * 2 = 2 * D.way.length; omega) j
    clear c1 hb6 H5 O5 kb5 k45 k55
    have fin : ∀ (tm : Array Value) (v : Value) (W : World) (D0 : Nat), tm.getD 4 undef = .pointer (some ⟨w.heap.size + 1, 0, none⟩) → tm.getD 5 undef = .pointer (some ⟨w.heap.size + 1 + 1, 0, none⟩) → W6.heap.size ≤ D0 → W.heap[D0]? = some (.deferred (some [])) →
        Blk W (w.heap.size + 1) 55 #[v] → Blk W (w.heap.size + 2) 27 #[.int .i64 0] → Owns W W6.heap.size v (readAt D i) → Two (w.heap.size + 1) (w.heap.size + 2) W6 W →
        bodyPostM Fence.wide 3 Tryz.prog Tryz.f15 (fun e w' => ∃ v, e = .returned (.tuple #[v, .int .i64 0]) ∧ Owns w' w.heap.size v (readAt D i) ∧ DiskF w w' g (more F w.heap.size) { D with ops := D.ops + 1 } ∧ Only F w w') .ret ⟨tm, [{ target := .collected D0, args := #[] }]⟩ W := by
      intro tm v W D0 ht4 ht5 hD0 hK i1 i2 i3 i4
      refine ⟨by simp, .inl ⟨_, _, rfl, run_takeDeferred hK, ?_⟩⟩
      have hg' := grownBy_putObj' W D0 (.deferred none)
      have j1 := i1.grown hg' (fun e => by injection e with e; omega)
      have j2 := i2.grown hg' (fun e => by injection e with e; omega)
      have j4 := i4.grown hg' (fun k e => by cases e; exact hD0)
      have j3 : Owns (W.putObj D0 (.deferred none)) W6.heap.size v (readAt D i) := own_keep i3 (fun k e => hg'.block k (own_kind i3 e).lt (fun e2 => by
        injection e2 with e2
        obtain ⟨cs, fr, hk⟩ := own_kind i3 e
        rw [e2, hK] at hk
        cases hk))
      refine ⟨_, results_cells2 rfl _ _ _ _ v (.int .i64 0) ht4 ht5 (load34 j1) (load41 j2), v, rfl, j3.lower (by omega), ?_, j4.only O6 (by omega) (by omega)⟩
      have hnF : ∀ b, w.heap.size + 1 ≤ b → b < w.heap.size + 3 → ¬ FF b := fun b h1 h2 hf => by rcases hFF b hf with ⟨_, h⟩ | h <;> omega
      have hd := j4.disk H6 (hnF _ (by omega) (by omega)) (hnF _ (by omega) (by omega)) (not_u8 k46.kind (by decide)) (not_u8 k56.kind (by decide))
      exact ⟨_, _, _, _, _, _, hd.mono fun k hk => (hFF k hk).elim (fun h => .inl h.1) (fun h => .inr (by omega)), HRP.out, HRU.out⟩
    refine' wpIn_rangeFunc_ownH rfl (by omega) (gf := 74) (lb := #[.pointer (some ⟨W5.heap.size, 0, none⟩)]) rfl trivial (enters_of Tryz.func74 (by kernel_rfl) rfl)
      (back_stopsV Fence.wide 2 trivial rfl (by omega) W5.heap.size r Au D.way.length cu xu hA hxl (by omega) W6 hc1 hr hrow) keepTwo_t ?hKb (Below.refl _ _) (fun _ => rfl)
      (fun pre W => (∀ x ∈ pre, NoHit D i x) ∧ Below W6.heap.size W6 W)
      (fun c pre W => c = .ret ∧ ∃ pre0 x p v, pre = pre0 ++ [x] ∧ (∀ y ∈ pre0, NoHit D i y) ∧ D.way[backAt D.way.length x]? = some p ∧ p.1 = i ∧ Blk W (w.heap.size + 1) 55 #[v] ∧ Blk W (w.heap.size + 2) 27 #[.int .i64 0] ∧ Owns W W6.heap.size v p.2 ∧ Two (w.heap.size + 1) (w.heap.size + 2) W6 W)
      ?hI ?hIx ⟨fun x hx => (List.not_mem_nil hx).elim, Below.refl _ _⟩
      (fun x a' W => ∃ gb, W6.heap.size ≤ gb ∧ a' = ⟨rdTmps g i w.heap.size W0.heap.size Ap D.places.length cp Ao D.ops co A7 cc7 (.pointer (some ⟨gb, 0, none⟩)) (.pointer (some ⟨g, 0, none⟩)) (.pointer (some ⟨g, 0, none⟩)) (.pointer (some ⟨g, 1, none⟩)) (.slice Au D.way.length cu) (.func (.func 74) #[] #[.pointer (some ⟨W5.heap.size, 0, none⟩)]) (.int .i64 (backAt D.way.length x : Int)) (.agg #[xu.getD (backAt D.way.length x * 2) (.bool false), xu.getD (backAt D.way.length x * 2 + 1) (.bool false)]), []⟩ ∧
        Blk W gb 116 #[xu.getD (backAt D.way.length x * 2) (.bool false), xu.getD (backAt D.way.length x * 2 + 1) (.bool false)])
      ?hAx ?assign ?body ?done ?stop
    case hKb => exact fun W q o o' hq _ _ _ => ⟨World.putObj_heap_other (by omega), World.putObj_heap_other (by omega)⟩
    case hI => exact fun pre W W' row ⟨h1, h2⟩ hg hr => ⟨h1, h2.grown hg h2.size (fun k e => (hr k e).1)⟩
    case hIx =>
      rintro c pre W W' row ⟨rfl, pre0, x, p, v, e1, e2, e3, e4, i1, i2, i3, i4⟩ hg hr
      have hcs : ∀ {b : Nat} {t : TypeId}, Kind W b t → some b ≠ row := fun ⟨cs, fr, hk⟩ e => by
        obtain ⟨_, o, ho, hc⟩ := hr _ e.symm
        rw [hk] at ho
        cases ho
        cases hc
      exact ⟨rfl, pre0, x, p, v, e1, e2, e3, e4, i1.grown hg (hcs i1.kind), i2.grown hg (hcs i2.kind), own_keep i3 (fun k e => hg.block k (own_kind i3 e).lt (hcs (own_kind i3 e))), i4.grown hg (fun k e => (hr k e).1)⟩
    case hAx =>
      rintro x a' _ W W' row ⟨gb, hgb, e1, i1⟩ hg hr
      refine ⟨gb, hgb, e1, i1.grown hg fun e => ?_⟩
      obtain ⟨_, o, ho, hc⟩ := hr _ e.symm
      rw [show W.heap[gb]? = _ from i1] at ho
      cases ho
      cases hc
    case assign =>
      rintro l pre x W K ⟨hno, hbel⟩ hK
      have hu1 := hone (backAt D.way.length x * 2)
      have hu2 := hone (backAt D.way.length x * 2 + 1)
      simp only [backV, rdTmps] at hK ⊢
      generalize xu.getD (backAt D.way.length x * 2) (.bool false) = u1 at *
      generalize xu.getD (backAt D.way.length x * 2 + 1) (.bool false) = u2 at *
      rw [zip_two]
      simp only [List.setIfInBounds_toArray, List.set_cons_succ, List.set_cons_zero]
      have HK := Lib.hid hK
      clear hK
      gi_wp2_with (first | ((refine wpListIn_store_blk (o := ⟨none, .store 116 (.tmp 7) (.tmp 45), _, _, _, _⟩) rfl 116 (.tmp 7) (.tmp 45) rfl W.heap.size _ rfl rfl 116 _ (Blk.new_of rfl rfl) (by kernel_rfl) rfl (by simp [hu1, hu2]) ?_); intro W3 hb3 hg3 hs3))
      have s3 : W.heap.size < W3.heap.size := by rw [hs3, size_alloc']; omega
      have b3 : Below W.heap.size W W3 := ((Below.refl _ W).alloc (Nat.le_refl _) (.cells #[.int .i64 0, .slice none 0 0] 116)).grown hg3 (by rw [size_alloc']; omega) (fun k e => by cases e; exact Nat.le_refl _)
      refine HK.out _ _ ⟨by omega, fun k o hk ho hc => (b3.block k (Array.getElem?_eq_some_iff.1 ho).1).trans ho⟩ ⟨b3.block _ (by have := hbel.size; omega), b3.block _ (by have := hbel.size; omega)⟩ ⟨hno, hbel.trans (b3.mono hbel.size)⟩ ⟨W.heap.size, hbel.size, rfl, hb3⟩
    case body =>
      rintro l pre x a' W hl hrec ⟨hno, hbel⟩ ⟨gb, hgb, rfl, hkb⟩ hlen
      have hbl : backAt D.way.length x < D.way.length := by unfold backAt; omega
      obtain ⟨p, hp⟩ : ∃ p, D.way[backAt D.way.length x]? = some p := ⟨_, List.getElem?_eq_getElem hbl⟩
      obtain ⟨q0, v, q1, q2⟩ := (H6.under hbel).ru _ p hp
      have e1 : xu.getD (backAt D.way.length x * 2) (.bool false) = .int .i64 (p.1 : Int) := by rw [List.getD_eq_getElem?_getD, Nat.mul_comm, q0]; rfl
      have e2 : xu.getD (backAt D.way.length x * 2 + 1) (.bool false) = v := by rw [List.getD_eq_getElem?_getD, Nat.mul_comm, q1]; rfl
      rw [e1, e2] at hkb ⊢
      simp only [rdTmps]
      have hpl := h2 p (List.mem_of_getElem? hp)
      obtain ⟨A', c', hv, hcap, hrd⟩ := q2.reads
      rw [hpl] at hv hrd
      subst hv
      have d0 : W.cell? ⟨gb, 0, none⟩ = some (.int .i64 (p.1 : Int)) := hkb.cell 0
      have d1 : W.cell? ⟨gb, 1, none⟩ = some (.slice A' 192 c') := hkb.cell 1
      have kbW := kb6.below hbel kb6.lt
      have k4W := k46.below hbel k46.lt
      have k5W := k56.below hbel k56.lt
      have d3 : W.cell? ⟨w.heap.size, 0, none⟩ = some (.int .i64 (i : Int)) := kbW.cell 0
      clear e1 e2 q0 q1 q2
      by_cases hpi : p.1 = i
      · have d0' : W.cell? ⟨gb, 0, none⟩ = some (.int .i64 (i : Int)) := by rw [← hpi]; exact d0
        have hclo := clone_any A' 192 c' p.2 W hrd (by omega)
        clear d0
        have hgbl := hkb.lt
        have hbs := hbel.size
        gi_wp2_with (first | (refine ⟨trivial, ?_⟩; gi_at_call 43; refine (CallsIn.inRound l (callsIn_wide.2 hclo)).mono ?_; rintro e Wc ⟨vc, rfl, hvc, hbc⟩; obtain ⟨Ac, cc, hvs⟩ := hvc.shape; rw [hpl] at hvs; subst hvs; have j4 := k4W.below hbc k4W.lt; have j5 := k5W.below hbc k5W.lt; have m4 : Wc.cell? ⟨w.heap.size + 1, 0, none⟩ = some (.slice none 0 0) := j4.cell 0; have m5 : Wc.cell? ⟨w.heap.size + 1 + 1, 0, none⟩ = some (.int .i64 0) := j5.cell 0; have z4 := j4.frozen 0; have z5 : Wc.frozen? ⟨w.heap.size + 1 + 1, 0, none⟩ = false := j5.frozen 0))
        have kF4 : Blk ((Wc.setCell ⟨w.heap.size + 1, 0, none⟩ (.slice Ac 192 cc)).setCell ⟨w.heap.size + 1 + 1, 0, none⟩ (.int .i64 0)) (w.heap.size + 1) 55 #[.slice Ac 192 cc] := (j4.set_ 0 _).far (p := ⟨w.heap.size + 1 + 1, 0, none⟩) (by show w.heap.size + 1 ≠ w.heap.size + 1 + 1; omega) _
        have kF5 : Blk ((Wc.setCell ⟨w.heap.size + 1, 0, none⟩ (.slice Ac 192 cc)).setCell ⟨w.heap.size + 1 + 1, 0, none⟩ (.int .i64 0)) (w.heap.size + 2) 27 #[.int .i64 0] := (j5.far (p := ⟨w.heap.size + 1, 0, none⟩) (by show w.heap.size + 2 ≠ w.heap.size + 1; omega) _).set_ 0 _
        have hT : Two (w.heap.size + 1) (w.heap.size + 2) W6 ((Wc.setCell ⟨w.heap.size + 1, 0, none⟩ (.slice Ac 192 cc)).setCell ⟨w.heap.size + 1 + 1, 0, none⟩ (.int .i64 0)) := ((Two.of_below (hbel.trans (hbc.mono hbel.size))).set1 0 _).set2 0 _
        have hOw : Owns ((Wc.setCell ⟨w.heap.size + 1, 0, none⟩ (.slice Ac 192 cc)).setCell ⟨w.heap.size + 1 + 1, 0, none⟩ (.int .i64 0)) W6.heap.size (.slice Ac 192 cc) p.2 := ((hvc.far (p := ⟨w.heap.size + 1, 0, none⟩) (by show w.heap.size + 1 < W.heap.size; omega) _).far (p := ⟨w.heap.size + 1 + 1, 0, none⟩) (by show w.heap.size + 1 + 1 < W.heap.size; omega) _).lower hbel.size
        refine ⟨⟨by have := hbc.size; simpa [World.setCell] using this, fun k o hk ho hc => ?_⟩, rfl, pre, x, p, .slice Ac 192 cc, rfl, hno, hp, hpi, kF4, kF5, hOw, hT⟩
        exact (Below.heap_setCell _ ⟨w.heap.size + 1 + 1, 0, none⟩ _ k (by show k ≠ w.heap.size + 1 + 1; omega)).trans ((Below.heap_setCell _ ⟨w.heap.size + 1, 0, none⟩ _ k (by show k ≠ w.heap.size + 1; omega)).trans ((hbc.block k (Array.getElem?_eq_some_iff.1 ho).1).trans ho))
      · have n2 : ((p.1 : Int) == (i : Int)) = false := by rw [beq_eq_false_iff_ne]; omega
        have n3 : ¬ (p.1 : Int) = (i : Int) := by omega
        gi_wp2
        refine ⟨KeepsFrom.refl _ _, ⟨rfl, rfl⟩, fun y hy => ?_, hbel⟩
        rcases List.mem_append.1 hy with hy | hy
        · exact hno y hy
        · rw [List.mem_singleton.1 hy]
          intro q hq
          rw [hp] at hq
          injection hq with hq
          exact hq ▸ hpi
    case done =>
      rintro D0 xs W hD0 rfl ⟨hno, hbel⟩ hK
      have hrd := readAt_none D i hno
      have hd := H6.under hbel
      have kbW := kb6.below hbel kb6.lt
      have k4W := k46.below hbel k46.lt
      have k5W := k56.below hbel k56.lt
      gi_wp2
      obtain ⟨vi, hvi⟩ : ∃ vi, D.places[i]? = some vi := ⟨_, List.getElem?_eq_getElem hi⟩
      have hbl := h1 vi (List.mem_of_getElem? hvi)
      have hrd2 : readAt D i = vi := by rw [hrd, List.getD_eq_getElem?_getD, hvi]; rfl
      obtain ⟨v, u1, hsl⟩ := hd.rp i vi hvi
      obtain ⟨gp, hgp⟩ : ∃ gp, Ap = some ⟨gp, 0, none⟩ := by
        rcases hd.op.2 with ⟨_, h0⟩ | ⟨g', cap', cur, hv, _⟩
        · have h0' : D.places.length = 0 := h0
          omega
        · injection hv with h1; exact ⟨g', h1⟩
      subst hgp
      have hcl := World.ownsRow.cells hd.op (g := gp) rfl
      obtain ⟨A', c', hv, hcap, hrdv⟩ := hsl.reads
      rw [hbl] at hv hrdv
      subst hv
      have hgpl := (own_kind hd.op (k := gp) rfl).lt
      have hclo := clone_any A' 192 c' vi W.drew hrdv (by omega)
      have hgl := hd.blk.lt
      have hbs := hbel.size
      have T0 : W.drew.cell? ⟨g, 0, none⟩ = some (.slice (some ⟨gp, 0, none⟩) D.places.length cp) ∧ W.drew.cell? ⟨w.heap.size, 0, none⟩ = some (.int .i64 (i : Int)) ∧ W.drew.cell? ⟨gp, i, none⟩ = some (.slice A' 192 c') := ⟨hd.blk.cell 0, kbW.cell 0, by have h := hcl _ _ u1; rwa [add_head] at h⟩
      have hgn1 : g ≠ w.heap.size + 1 := by have := h.blk.lt; omega
      have hgn2 : g ≠ w.heap.size + 1 + 1 := by have := h.blk.lt; omega
      have hpn1 : gp ≠ w.heap.size + 1 := fun e => by rcases hFF gp (hd.fp gp rfl) with ⟨_, h⟩ | h <;> omega
      have hpn2 : gp ≠ w.heap.size + 1 + 1 := fun e => by rcases hFF gp (hd.fp gp rfl) with ⟨_, h⟩ | h <;> omega
      have hbn1 : w.heap.size ≠ w.heap.size + 1 := by omega
      have hbn2 : w.heap.size ≠ w.heap.size + 1 + 1 := by omega
      have kst : ∀ {X : World} {o : Nat} {u : Value}, (X.cell? ⟨g, 0, none⟩ = some (.slice (some ⟨gp, 0, none⟩) D.places.length cp) ∧ X.cell? ⟨w.heap.size, 0, none⟩ = some (.int .i64 (i : Int)) ∧ X.cell? ⟨gp, i, none⟩ = some (.slice A' 192 c')) → g ≠ o → gp ≠ o → w.heap.size ≠ o →
        ((X.setCell ⟨o, 0, none⟩ u).cell? ⟨g, 0, none⟩ = some (.slice (some ⟨gp, 0, none⟩) D.places.length cp) ∧ (X.setCell ⟨o, 0, none⟩ u).cell? ⟨w.heap.size, 0, none⟩ = some (.int .i64 (i : Int)) ∧ (X.setCell ⟨o, 0, none⟩ u).cell? ⟨gp, i, none⟩ = some (.slice A' 192 c')) := fun hX n1 n2 n3 =>
        ⟨(World.cell?_of_block (Below.heap_setCell _ _ _ _ n1)).trans hX.1, (World.cell?_of_block (Below.heap_setCell _ _ _ _ n3)).trans hX.2.1, (World.cell?_of_block (Below.heap_setCell _ _ _ _ n2)).trans hX.2.2⟩
      have ip : (i : Int) < (D.places.length : Int) := by omega
      have jp : (0 : Int) ≤ (i : Int) := by omega
      refine wpIn_wide.2 (wp_then_only ?_)
      clear u1 hcl hrdv hsl
      go_region_held3 (fun w' => w'.cell? ⟨g, 0, none⟩ = some (.slice (some ⟨gp, 0, none⟩) D.places.length cp) ∧ w'.cell? ⟨w.heap.size, 0, none⟩ = some (.int .i64 (i : Int)) ∧ w'.cell? ⟨gp, i, none⟩ = some (.slice A' 192 c')) (first | (exact T0) | (exact T2) | (exact T3) | (exact T4) | (exact T5)) (first | (go_at_call 43; refine hclo.mono ?_; rintro e Wc ⟨vc, rfl, hvc, hbc⟩; obtain ⟨Ac, cc, hvs⟩ := hvc.shape; rw [hbl] at hvs; subst hvs; have T2 : Wc.cell? ⟨g, 0, none⟩ = some (.slice (some ⟨gp, 0, none⟩) D.places.length cp) ∧ Wc.cell? ⟨w.heap.size, 0, none⟩ = some (.int .i64 (i : Int)) ∧ Wc.cell? ⟨gp, i, none⟩ = some (.slice A' 192 c') := ⟨(hbc.cell (p := ⟨g, 0, none⟩) hgl).trans T0.1, (hbc.cell (p := ⟨w.heap.size, 0, none⟩) kbW.lt).trans T0.2.1, (hbc.cell (p := ⟨gp, i, none⟩) hgpl).trans T0.2.2⟩; have j4 := k4W.drew.below hbc k4W.lt; have j5 := k5W.drew.below hbc k5W.lt; have m4 : Wc.cell? ⟨w.heap.size + 1, 0, none⟩ = some (.slice none 0 0) := j4.cell 0; have m5 : Wc.cell? ⟨w.heap.size + 1 + 1, 0, none⟩ = some (.int .i64 0) := j5.cell 0; have z4 := j4.frozen 0; have z5 : Wc.frozen? ⟨w.heap.size + 1 + 1, 0, none⟩ = false := j5.frozen 0; have T3 := kst (u := .slice Ac 192 cc) T2 hgn1 hpn1 hbn1; have T4 := kst (u := .int .i64 0) T2 hgn2 hpn2 hbn2; have T5 := kst (u := .int .i64 0) T3 hgn2 hpn2 hbn2))
      have kF4 : Blk ((Wc.setCell ⟨w.heap.size + 1, 0, none⟩ (.slice Ac 192 cc)).setCell ⟨w.heap.size + 1 + 1, 0, none⟩ (.int .i64 0)) (w.heap.size + 1) 55 #[.slice Ac 192 cc] := (j4.set_ 0 _).far (p := ⟨w.heap.size + 1 + 1, 0, none⟩) (by show w.heap.size + 1 ≠ w.heap.size + 1 + 1; omega) _
      have kF5 : Blk ((Wc.setCell ⟨w.heap.size + 1, 0, none⟩ (.slice Ac 192 cc)).setCell ⟨w.heap.size + 1 + 1, 0, none⟩ (.int .i64 0)) (w.heap.size + 2) 27 #[.int .i64 0] := (j5.far (p := ⟨w.heap.size + 1, 0, none⟩) (by show w.heap.size + 2 ≠ w.heap.size + 1; omega) _).set_ 0 _
      have hT : Two (w.heap.size + 1) (w.heap.size + 2) W6 ((Wc.setCell ⟨w.heap.size + 1, 0, none⟩ (.slice Ac 192 cc)).setCell ⟨w.heap.size + 1 + 1, 0, none⟩ (.int .i64 0)) := ((Two.of_below (hbel.drew.trans (hbc.mono hbel.size))).set1 0 _).set2 0 _
      have hOw : Owns ((Wc.setCell ⟨w.heap.size + 1, 0, none⟩ (.slice Ac 192 cc)).setCell ⟨w.heap.size + 1 + 1, 0, none⟩ (.int .i64 0)) W6.heap.size (.slice Ac 192 cc) (readAt D i) := by
        rw [hrd2]
        exact ((hvc.far (p := ⟨w.heap.size + 1, 0, none⟩) (by show w.heap.size + 1 < W.heap.size; omega) _).far (p := ⟨w.heap.size + 1 + 1, 0, none⟩) (by show w.heap.size + 1 + 1 < W.heap.size; omega) _).lower hbel.size
      have hKF : ((Wc.setCell ⟨w.heap.size + 1, 0, none⟩ (.slice Ac 192 cc)).setCell ⟨w.heap.size + 1 + 1, 0, none⟩ (.int .i64 0)).heap[D0]? = some (.deferred (some [])) :=
        (Below.heap_setCell _ ⟨w.heap.size + 1 + 1, 0, none⟩ _ D0 (by show D0 ≠ w.heap.size + 1 + 1; omega)).trans ((Below.heap_setCell _ ⟨w.heap.size + 1, 0, none⟩ _ D0 (by show D0 ≠ w.heap.size + 1; omega)).trans ((hbc.block D0 (Array.getElem?_eq_some_iff.1 hK).1).trans hK))
      have hfin := Lib.hid fin
      clear fin T0 T2 T3 T4 T5 hclo hbc
      gi_wp2
      exact hfin.out _ _ _ _ rfl rfl hD0 hKF kF4 kF5 hOw hT
    case stop =>
      rintro D0 c pre W hD0 ⟨k, hk, hpre⟩ ⟨rfl, pre0, x, p, v, rfl, hno, hp, hpi, i1, i2, i3, i4⟩ hK
      have hrd := readAt_hit D i x k pre0 p hpre hk hno hp hpi
      rw [← hrd] at i3
      have hfin := Lib.hid fin
      clear fin
      gi_wp2
      exact hfin.out _ _ _ _ rfl rfl hD0 hK i1 i2 i3 i4
  refine wpIn_wide.2 (wp_then_only ?_)
  have c4 : W0.drew.drew.cell? ⟨g, 4, none⟩ = some (.slice Ao D.ops co) := h3.blk.cell 4
  have cb : W0.drew.drew.cell? ⟨w.heap.size, 0, none⟩ = some (.int .i64 (i : Int)) := kb.cell 0
  have H1 := (h3.alloc (.cells #[.int .i64 1, .int .i64 (i : Int)] 111)).drew.drew
  have c4' : (W0.alloc (.cells #[.int .i64 1, .int .i64 (i : Int)] 111)).cell? ⟨g, 4, none⟩ = some (.slice Ao D.ops co) := H1.blk.cell 4
  have cb' : (W0.alloc (.cells #[.int .i64 1, .int .i64 (i : Int)] 111)).cell? ⟨w.heap.size, 0, none⟩ = some (.int .i64 (i : Int)) := (kb.alloc _).cell 0
  have nb : Kind (W0.alloc (.cells #[.int .i64 1, .int .i64 (i : Int)] 111)).drew.drew w.heap.size 111 → False := fun hk => absurd (hk.uniq (kb.alloc (.cells #[.int .i64 1, .int .i64 (i : Int)] 111)).kind) (by decide)
  have hgB : g ≠ w.heap.size := fun e => by have := h.blk.lt; omega
  have hone2 : ∀ u ∈ [Value.int .i64 1, .int .i64 (i : Int)], u.oneCell' = true := by intro u hu; simp only [List.mem_cons, List.not_mem_nil, or_false] at hu; rcases hu with rfl | rfl <;> rfl
  have hnews := Blk.rows (xs := [.int .i64 1, .int .i64 (i : Int)]) 1 2 (Blk.new W0 111 #[.int .i64 1, .int .i64 (i : Int)]).drew.drew rfl
  have hm3 : D.ops + 1 ≤ maxLen := by unfold maxLen; omega
  have hm4 : (D.ops + 1) * 16 ≤ 140737488355328 := by omega
  have h02 : 0 < 2 := by omega
  go_region_law (first | ((refine step_append_any _ (by rfl) (.tmp 32) (.tmp 35) 83 (by rfl) 0 111 i1 _ 2 16 Tryz.underlying83 ii1 hy0 hy1 hy2 (by rfl) h02 (.slice Ao D.ops co) D.ops xo (by rfl) H1.oo _ (some ⟨W0.heap.size, 0, none⟩) 1 1 [_, _] (by rfl) hnews hone2 hm3 hm4 (Nat.zero_le _) ?_; intro v7 w7 hown7 hg7 hat7; obtain ⟨A7, cc7, rfl⟩ := own_shape hown7; have kb7 := H1.blk.grown hg7 (fun e => own_blk_ne H1.oo H1.blk (by decide) e.symm); have c7 : w7.cell? ⟨g, 4, none⟩ = some (.slice Ao D.ops co) := kb7.cell 4; have f7 := kb7.frozen 4)))
  all_goals
    have O1 : Only F w (W0.alloc (.cells #[.int .i64 1, .int .i64 (i : Int)] 111)).drew.drew := (((Only.refl F w).under b0).alloc _).drew.drew
    have hs0 : W0.heap.size = w.heap.size + 3 := by rw [HW0.out]; simp
    have hs1 : (W0.alloc (.cells #[.int .i64 1, .int .i64 (i : Int)] 111)).drew.drew.heap.size = w.heap.size + 4 := by show (W0.alloc _).heap.size = _; rw [size_alloc']; omega
    have hne : ∀ {b : Nat} {t : TypeId} {cs : Array Value}, Blk W0 b t cs → b ≠ g → t ≠ 111 → Blk (w7.setCell ⟨g, 4, none⟩ (.slice A7 (D.ops + 1) cc7)) b t cs := fun hk hn ht => (((hk.alloc _).drew.drew).grown hg7 (kind_ne (hk.alloc _).kind (fun j e => own_kind H1.oo e) ht)).far (p := ⟨g, 4, none⟩) hn _
    have hgl := h.blk.lt
    refine HC A7 cc7 _ _ _ (fun k hk => ?_) (H1.addOp hown7 hg7 hat7) (H1.addOp_only hg7 O1 (fun k hk => .inl hk.1)) ?_ (hne kb (by omega) (by decide)) (hne k4 (by omega) (by decide)) (hne k5 (by omega) (by decide))
    · rcases hk with hk | hk
      · exact .inl hk
      · exact .inr (by omega)
    · have := hg7.size
      have h5 : (w7.setCell ⟨g, 4, none⟩ (.slice A7 (D.ops + 1) cc7)).heap.size = w7.heap.size := by simp [World.setCell]
      omega
theorem dread_any (g i : Nat) (F : Nat → Prop) (D : Dk) (w : World) (hD : Disk w g F D) (hdn : D.down = false) (hi : i < D.places.length) (h1 : ∀ b ∈ D.places, b.length = 192) (h2 : ∀ p ∈ D.way, p.2.length = 192)
    (hn1 : D.way.length ≤ 1048576) (hn2 : D.ops ≤ 1048576) :
    Calls Tryz.prog 15 #[.pointer (some ⟨g, 0, none⟩), .int .i64 (i : Int)] w fun e w' => ∃ v, e = .returned (.tuple #[v, .int .i64 0]) ∧ Owns w' w.heap.size v (readAt D i) ∧ Disk w' g (more F w.heap.size) { D with ops := D.ops + 1 } ∧ Only F w w' :=
  (dread_gen g i F D w hD hdn hi h1 h2 hn1 hn2).mono fun e w' h => by
    obtain ⟨v, a, b, c, d⟩ := h
    exact ⟨v, a, b, c.disk, d⟩
end Go.Proofs.YtkhebllmnagkmaaGreatDoor
