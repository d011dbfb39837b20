/- Contracts and lemmas under the statements of this seat, one behind the other. Conditions: what each names. -/
import Derived.Test.YtkhebllmnagkmaaGreatDoorG13
/- Contract of record.Changes, of records that end with a last one. Conditions: what each names. -/
namespace Go.Proofs.YtkhebllmnagkmaaGreatDoor
open Go.RowKit
set_option linter.unusedVariables false

theorem own_cap {w : World} {base : Nat} {e : TypeId} {size n cap g : Nat} {xs : List Value} (h : w.ownsRow base e size (.slice (some ⟨g, 0, none⟩) n cap) n xs) : n ≤ cap := by
  rcases h.2 with ⟨h1, _⟩ | ⟨g', cap', cur, hv, _, hh, hc, _⟩
  · cases h1
  · cases hv
    exact hc
theorem RowCA.keep {w w' : World} {xs : List Value} {ll : List (List Img)} {row : Option Nat} {N : Nat} (h : RowCA w xs ll row N) (hs : w.heap.size ≤ w'.heap.size) (h8 : ∀ k, Kind w k 5 → w'.heap[k]? = w.heap[k]?) (hk : ∀ k, Kind w k 79 → w'.heap[k]? = w.heap[k]?) : RowCA w' xs ll row N := fun i l hl => by
  obtain ⟨v, h1, ga, off, c, xs, i1, i2, i3, i4, i5, i6, i7⟩ := h i l hl
  exact ⟨v, h1, ga, off, c, xs, i1, i2, i3.same (hk ga i3), i4, fun j u hu => (World.cell?_of_block (a := ⟨ga, off + j, none⟩) (hk ga i3)).trans (i5 j u hu), i6.keep hs h8, i7⟩
theorem chg_len (l : List Rec) : (chg l).out.length ≤ l.length := by
  have h : ∀ (l : List Rec) (s : Chg), (l.foldl chgStep s).out.length ≤ s.out.length + l.length := by
    intro l
    induction l with
    | nil => intro s; simp
    | cons r l ih =>
      intro s
      have h1 := ih (chgStep s r)
      have h2 : (chgStep s r).out.length ≤ s.out.length + 1 := by
        unfold chgStep
        split
        · simp
        · simp
      rw [List.foldl_cons, List.length_cons]
      omega
  have := h l ⟨[], 0, []⟩
  simpa [chg] using this
theorem info36 : (Tryz.prog.info? 79).map (fun i => (i.zero, i.size, i.bytes)) = some (some (.agg #[.int .u64 0, .slice none 0 0]), 2, 32) := by kernel_rfl
theorem info24 : (Tryz.prog.info? 24).map (fun i => (i.zero, i.size, i.bytes)) = some (some (.slice none 0 0), 1, 24) := by kernel_rfl
theorem changes_nil (c : Nat) (w : World) :
    Calls Tryz.prog 48 #[.slice none 0 c] w fun e w' => e = .returned (.tuple #[.slice none 0 0, .int .i64 0]) ∧ w = w' := by
  go_enter Tryz.func48, Tryz.ntmps48
  go_wp2
  go_loopw [5, 24] (fun vo ix wr => vo = .slice none 0 0 ∧ ix = .int .i64 0 ∧ wr = w) (fun _ ix _ => 0)
  case atStart => exact ⟨rfl, rfl, rfl⟩
  case round =>
    obtain ⟨rfl, rfl, rfl⟩ := hrel
    go_wp2
    go_ret2
    exact ⟨rfl, rfl⟩
set_option maxRecDepth 100000 in
set_option maxHeartbeats 4000000 in
theorem changes_some (g o n c : Nat) (xs : List Value) (l : List Rec) (w : World) (hr : Reads w w.heap.size 3 (some ⟨g, o, none⟩) n xs) (hl : l.length = n) (hi : RowG w xs l) (h160 : ∀ r ∈ l, r.1.2.length = 160) (h1 : 1 ≤ n) (hn : n ≤ 1048576) (hla : ∀ r, l[n - 1]? = some r → r.2 = true) :
    Calls Tryz.prog 48 #[.slice (some ⟨g, o, none⟩) n c] w fun e w' => ∃ v ys, e = .returned (.tuple #[v, .int .i64 0]) ∧ w'.ownsRow w.heap.size 24 1 v (chg l).out.length ys ∧ RowC w' ys (chg l).out ∧ Below w.heap.size w w' := by
  obtain ⟨i0, ii0, hz0, hz1, hz2⟩ := info_parts info36
  obtain ⟨i1, ii1, hy0, hy1, hy2⟩ := info_parts info24
  obtain ⟨ad, e, hb, hc⟩ := hr.2 (by omega)
  injection e with e
  subst e
  have hlast : w.cell? ⟨g, o + (n - 1) * 3 + 2, none⟩ = some (.bool true) := by
    have hp : l[n - 1]? = some (l[n - 1]'(by omega)) := List.getElem?_eq_getElem (by omega)
    have h := hc _ _ (hi _ _ hp).2.2
    rw [Addr.add_mid, hla _ hp] at h
    rw [Nat.add_assoc, Nat.mul_comm]
    exact h
  have e1 : ((n : Int) - 1).toNat = n - 1 := by omega
  have e2 : (n : Int) - 1 < n := by omega
  have e3 : (0 : Int) ≤ (n : Int) - 1 := by omega
  have e4 : (0 : Int) < n := by omega
  have e5 : wrap64 ((n : Int) - 1) = (n : Int) - 1 := by unfold wrap64; omega
  have e6 : 0 < n := by omega
  go_enter Tryz.func48, Tryz.ntmps48
  go_wp2
  clear hlast e1 e2 e3 e4 e5 e6 hla
  go_loopw [4, 5, 6, 24] (fun va vo vf ix wr => ∃ (k : Nat) (Aa : Option Addr) (ca : Nat) (xa : List Value) (Ao : Option Addr) (co : Nat) (xo : List Value), k ≤ n ∧ ix = .int .i64 k ∧ va = .slice Aa k ca ∧ wr.ownsRow w.heap.size 79 2 (.slice Aa k ca) k xa ∧ RowI wr xa ((l.take k).map (·.1)) ∧
      vo = .slice Ao (chg (l.take k)).out.length co ∧ wr.ownsRow w.heap.size 24 1 (.slice Ao (chg (l.take k)).out.length co) (chg (l.take k)).out.length xo ∧ RowCA wr xo (chg (l.take k)).out (Value.slice Aa k ca).ownBlock (k * 2) ∧
      vf = .int .i64 ((chg (l.take k)).from' : Int) ∧ Below w.heap.size w wr) (fun _ _ _ ix _ => n - (intOf ix).toNat)
  case atStart => exact ⟨0, none, 0, [], none, 0, [], by omega, rfl, rfl, World.ownsRow_nil _ _ _ _, fun i p hp => by simp at hp, rfl, World.ownsRow_nil _ _ _ _, fun i p hp => by simp [chg] at hp, rfl, Below.refl _ _⟩
  case round =>
    obtain ⟨k, Aa, ca, xa, Ao, co, xo, hk, rfl, rfl, hoa, hRa, rfl, hoo, hRo, rfl, hw⟩ := hrel
    by_cases hlt : k < n
    · have hpk : l[k]? = some (l[k]'(by omega)) := List.getElem?_eq_getElem (by omega)
      obtain ⟨u0, ⟨v, u1, hsl⟩, u2⟩ := (hi.under hw) k _ hpk
      have hbl := h160 _ (List.getElem_mem (h := (by omega : k < l.length)))
      obtain ⟨A', c', hv, hcap, hrd⟩ := hsl.reads
      subst hv
      have d0 := hc _ _ u0
      have d1 := hc _ _ u1
      have d2 := hc _ _ u2
      rw [Addr.add_mid] at d0 d1 d2
      have hst := chg_snoc l k _ hpk
      have hfr := chg_from (l.take k)
      have hsl2 := chg_len (l.take k)
      have hal := chg_all (l.take k)
      have htk : (l.take (k + 1)).map (·.1) = (l.take k).map (·.1) ++ [(l[k]'(by omega)).1] := by rw [List.take_succ_eq_append_getElem (by omega), List.map_append]; rfl
      have q0 : wr.cell? ⟨g, o + k * 3, none⟩ = some (.int .u64 ((l[k]'(by omega)).1.1 : Int)) := by rw [Nat.mul_comm k 3]; exact (hw.cell (p := ⟨g, o + 3 * k, none⟩) hb).trans d0
      have q1 : wr.cell? ⟨g, o + k * 3 + 1, none⟩ = some (.slice A' (l[k]'(by omega)).1.2.length c') := by rw [Nat.mul_comm k 3]; exact (hw.cell (p := ⟨g, o + (3 * k + 1), none⟩) hb).trans d1
      have q2 : wr.cell? ⟨g, o + k * 3 + 2, none⟩ = some (.bool (l[k]'(by omega)).2) := by rw [Nat.mul_comm k 3]; exact (hw.cell (p := ⟨g, o + (3 * k + 2), none⟩) hb).trans d2
      have hlt2 : (l.take k).length = k := by rw [List.length_take]; omega
      rw [hlt2] at hfr hsl2
      generalize hp : l[k]'(by omega) = p at *
      obtain ⟨⟨x, b⟩, last⟩ := p
      simp only at hbl q0 q1 q2 hrd htk hcap
      rw [hbl] at q1 hrd
      clear d0 d1 d2 hpk u0 u1 u2 hsl
      obtain ⟨Wa, hWa⟩ : ∃ Wa : World, Wa = wr.alloc (.cells #[.int .u64 (x : Int), .slice A' 160 c', .bool last] 95) := ⟨_, rfl⟩
      have ya : Below wr.heap.size wr Wa := by rw [hWa]; exact (Below.refl _ _).alloc (Nat.le_refl _) _
      have sa : Wa.heap.size = wr.heap.size + 1 := by rw [hWa, size_alloc']
      have ka : Blk Wa wr.heap.size 95 #[.int .u64 (x : Int), .slice A' 160 c', .bool last] := by rw [hWa]; exact Blk.new_of rfl rfl
      have hclo := clone_any A' 160 c' b Wa ((hrd.below ya).more ya.size) (by omega)
      have hbndA : ∀ b, (Value.slice Aa k ca).ownBlock = some b → w.heap.size ≤ b ∧ b < wr.heap.size := World.ownsRow.lt hoa
      have hbndO : ∀ b, (Value.slice Ao (chg (l.take k)).out.length co).ownBlock = some b → w.heap.size ≤ b ∧ b < wr.heap.size := World.ownsRow.lt hoo
      have HWa := Lib.hid hWa
      have HTK := Lib.hid htk
      have HL2 := Lib.hid hlt2
      have HST := Lib.hid hst
      have HAL := Lib.hid hal
      have HBL := Lib.hid hbl
      generalize hcs : chg (l.take k) = S at *
      have hm1 : k + 1 ≤ maxLen := by unfold maxLen; omega
      have hm2 : (k + 1) * 32 ≤ 140737488355328 := by omega
      have hone : ∀ (a : Int) (A : Option Addr) (m c : Nat), ∀ u ∈ [Value.int .u64 a, .slice A m c], u.oneCell' = true := by intro a A m c u hu; simp only [List.mem_cons, List.not_mem_nil, or_false] at hu; rcases hu with rfl | rfl <;> rfl
      have hone2 : ∀ (A : Option Addr) (m c : Nat), ∀ u ∈ [Value.slice A m c], u.oneCell' = true := by intro A m c u hu; simp only [List.mem_cons, List.not_mem_nil, or_false] at hu; rcases hu with rfl; rfl
      have hn1 : S.out.length + 1 ≤ maxLen := by unfold maxLen; omega
      have hn2 : (S.out.length + 1) * 24 ≤ 140737488355328 := by omega
      have hneO : ∀ b, (Value.slice Ao S.out.length co).ownBlock = some b → some b ≠ (Value.slice Aa k ca).ownBlock := fun b e e2 => absurd ((own_kind hoo e).uniq (own_kind hoa e2.symm)) (by decide)
      have eF1 : (S.from' : Int) ≤ (k : Int) + 1 := by omega
      have eF2 : S.from' ≤ k + 1 := by omega
      clear hWa htk hlt2 hbl hrd hi h160 hst hal hp hcs
      go_wp2_with (first | (go_at_call 43; rw [← HWa.out]; refine hclo.mono ?_; rintro e w2 ⟨v2, rfl, hv2, b2⟩; obtain ⟨A2, cc2, hvs⟩ := hv2.shape; rw [HBL.out] at hvs; subst hvs; have k2 := ka.below b2 ka.lt; have x0 : w2.cell? ⟨wr.heap.size, 0, none⟩ = some (.int .u64 (x : Int)) := k2.cell 0; have x1 : w2.cell? ⟨wr.heap.size, 1, none⟩ = some (.slice A' 160 c') := k2.cell 1; have x2 : w2.cell? ⟨wr.heap.size, 2, none⟩ = some (.bool last) := k2.cell 2; have fx1 := k2.frozen 1; have hoa2 : w2.ownsRow w.heap.size 79 2 (.slice Aa k ca) k xa := (own_keep hoa (fun b e => (b2.block b (by have := (hbndA b e).2; omega)).trans (ya.block b (hbndA b e).2))); have hoa4 := ownsRow_setCell_other hoa2 (a := ⟨wr.heap.size, 1, none⟩) (fun e => by have := (hbndA _ e).2; exact absurd this (Nat.lt_irrefl _)) (.slice A2 160 cc2); have kn : Blk ((w2.setCell ⟨wr.heap.size, 1, none⟩ (.slice A2 160 cc2)).alloc (.cells #[.int .u64 (x : Int), .slice A2 160 cc2] 79)) w2.heap.size 79 [Value.int .u64 (x : Int), .slice A2 160 cc2].toArray := Blk.new_of (by simp [World.setCell]) rfl; have h6f : ∀ w6, World.grownBy ((w2.setCell ⟨wr.heap.size, 1, none⟩ (.slice A2 160 cc2)).alloc (.cells #[.int .u64 (x : Int), .slice A2 160 cc2] 79)) w6 (Value.slice Aa k ca).ownBlock → ∀ b, b < wr.heap.size → some b ≠ (Value.slice Aa k ca).ownBlock → w6.heap[b]? = wr.heap[b]? := (fun w6 hg6 b hb hn => (hg6.block b (by rw [size_alloc']; have := b2.size; simp [World.setCell]; omega) hn).trans ((Below.heap_alloc _ _ b (by have := b2.size; simp [World.setCell]; omega)).trans ((Below.heap_setCell _ _ _ _ (by show b ≠ wr.heap.size; omega)).trans ((b2.block b (by omega)).trans (ya.block b hb))))); have hbase6 : ∀ (g6 : Nat) w6, World.grownBy ((w2.setCell ⟨wr.heap.size, 1, none⟩ (.slice A2 160 cc2)).alloc (.cells #[.int .u64 (x : Int), .slice A2 160 cc2] 79)) w6 (Value.slice Aa k ca).ownBlock → w.heap.size ≤ (w6.alloc (.cells #[.slice (some ⟨g6, S.from' * 2, none⟩) (k + 1 - S.from') (k + 1 - S.from')] 24)).heap.size := (fun g6 w6 hg6 => by have h := hg6.size; rw [size_alloc'] at h; rw [size_alloc']; have h1 := hw.size; have h2 := b2.size; simp [World.setCell] at h; omega); have hx26 : ∀ w6, World.grownBy ((w2.setCell ⟨wr.heap.size, 1, none⟩ (.slice A2 160 cc2)).alloc (.cells #[.int .u64 (x : Int), .slice A2 160 cc2] 79)) w6 (Value.slice Aa k ca).ownBlock → w6.cell? ⟨wr.heap.size, 2, none⟩ = some (.bool last) := (fun w6 hg6 => (World.cell?_of_block (a := ⟨wr.heap.size, 2, none⟩) (hg6.block wr.heap.size (by rw [size_alloc']; have := b2.size; simp [World.setCell]; omega) (fun e => absurd (hbndA _ e.symm).2 (Nat.lt_irrefl _)))).trans (((k2.set_ 1 (.slice A2 160 cc2)).alloc _).cell 2)); have hbase : w.heap.size ≤ ((w2.setCell ⟨wr.heap.size, 1, none⟩ (.slice A2 160 cc2)).alloc (.cells #[.int .u64 (x : Int), .slice A2 160 cc2] 79)).heap.size := (by have h1 := hw.size; have h2 := b2.size; rw [size_alloc']; simp [World.setCell]; omega)) | (at_builtin; refine wpList_append_old _ rfl (.tmp 35) (.tmp 38) 24 rfl w.heap.size 79 i0 _ 2 32 Tryz.underlying24 ii0 hz0 hz1 hz2 rfl (by omega) (.slice Aa k ca) k xa rfl (World.ownsRow.alloc hoa4 _) ⟨w2.heap.size, 0, none⟩ 1 1 [.int .u64 (x : Int), .slice A2 160 cc2] rfl rfl (World.news_of_block kn) (hone _ _ _ _) hm1 hm2 hbase ?_; intro v6 w6 hown6 hg6 hat6 hold6; obtain ⟨g6, cc6, hv6, hb6, hl6⟩ := hown6.form (Nat.succ_pos k); subst hv6; have x26 : w6.cell? ⟨wr.heap.size, 2, none⟩ = some (.bool last) := hx26 w6 hg6; have hcap6 : k + 1 ≤ cc6 := own_cap hown6; have h6 := h6f w6 hg6; have hoo6 : w6.ownsRow w.heap.size 24 1 (.slice Ao S.out.length co) S.out.length xo := own_keep hoo (fun b e => h6 b (hbndO b e).2 (hneO b e)); have hnews2 := Blk.rows (xs := [Value.slice (some ⟨g6, S.from' * 2, none⟩) (k + 1 - S.from') (k + 1 - S.from')]) 1 1 (Blk.new w6 24 #[Value.slice (some ⟨g6, S.from' * 2, none⟩) (k + 1 - S.from') (k + 1 - S.from')]) rfl) | (at_builtin; refine wpList_append_any _ rfl (.tmp 42) (.tmp 50) 60 rfl w.heap.size 24 i1 _ 1 24 Tryz.underlying60 ii1 hy0 hy1 hy2 rfl (by omega) (.slice Ao S.out.length co) S.out.length xo rfl (World.ownsRow.alloc hoo6 _) _ (some ⟨w6.heap.size, 0, none⟩) 1 1 [_] rfl hnews2 (hone2 _ _ _) hn1 hn2 (hbase6 g6 w6 hg6) ?_; intro v9 w9 hown9 hg9 hat9; obtain ⟨A9, cc9, rfl⟩ := own_shape hown9))
      all_goals
        rename_i hlast
        have hst := HST.out
        have hal := HAL.out
        have hS4 : ((w2.setCell ⟨wr.heap.size, 1, none⟩ (.slice A2 160 cc2)).alloc (.cells #[.int .u64 (x : Int), .slice A2 160 cc2] 79)).heap.size = w2.heap.size + 1 := by rw [size_alloc']; simp [World.setCell]
        have hs2 := b2.size
        have hs6' := hg6.size
        have hs6 : wr.heap.size ≤ w6.heap.size := by omega
        have h86 : ∀ b, Kind wr b 5 → w6.heap[b]? = wr.heap[b]? := fun b hK => h6 b hK.lt (fun e => absurd (hK.uniq (own_kind hoa e.symm)) (by decide))
        have hv6s : IsSl w6 (.slice A2 160 cc2) b := by
          refine (hv2.isSl).keep (by omega) fun b hK => ?_
          have hb1 := hK.lt
          refine (hg6.block b (by omega) (fun e => ?_)).trans ((Below.heap_alloc _ _ b (by simp [World.setCell]; omega)).trans (Below.heap_setCell _ _ _ _ ?_))
          · exact absurd (hK.uniq (own_kind hoa2 e.symm)) (by decide)
          · show b ≠ wr.heap.size
            rintro rfl
            exact absurd (hK.uniq k2.kind) (by decide)
        have hxal : xa.length = k * 2 := hoa.1
        have hRa6 : RowI w6 (xa ++ [.int .u64 (x : Int), .slice A2 160 cc2]) ((l.take (k + 1)).map (·.1)) := by
          rw [HTK.out]
          exact (hRa.keep hs6 h86).snoc (by rw [List.length_map, HL2.out]; omega) hv6s
        have hat6' : (Value.slice Aa k ca).ownBlock = some g6 ∨ wr.heap.size ≤ g6 := by
          rcases hat6 with h | h
          · exact .inl h.symm
          · refine .inr ?_
            have h' := Option.some.inj (show some g6 = some _ from h)
            omega
        have hRo6 : RowCA w6 xo S.out (some g6) ((k + 1) * 2) := by
          refine hRo.step hs6 h86 (fun b hK hn => h6 b hK.lt hn) (fun b e => ?_) (fun b j u e hj hu => ?_) (fun b e => ?_)
          · exact (hold6 b e).1
          · have hxu : xa[j]? = some u := by
              have h := (World.ownsRow.cells hoa (g := b) e) j _ (List.getElem?_eq_getElem (by omega))
              rw [add_head, hu] at h
              rw [List.getElem?_eq_getElem (by omega)]
              exact h.symm
            exact (hold6 b e).2 j u hxu
          · injection e with e
            subst e
            exact hat6'.elim (fun h => .inl ⟨h, by omega⟩) .inr
        have hw6 : Below w.heap.size w w6 := by
          have y1 := (hw.trans (ya.mono hw.size)).trans (b2.mono (by have := hw.size; omega))
          exact ((y1.setCell (p := ⟨wr.heap.size, 1, none⟩) hw.size _).alloc (by have := hw.size; simp [World.setCell]; omega) _).grown hg6 hbase (fun b e => (hbndA b e).1)
        clear hclo hRo hoo hoa2 hoa4 hv2 kn hnews2 hold6 h86
        first
        | (have eS : chg (l.take (k + 1)) = ⟨S.out, S.from', S.all ++ [(x, b)]⟩ := by
             rw [hst, hlast]
             rfl
           refine ⟨⟨k + 1, some ⟨g6, 0, none⟩, cc6, _, Ao, co, xo, by omega, by go_num, rfl, hown6, hRa6, by rw [eS], by rw [eS]; exact hoo6, by rw [eS]; exact hRo6, by rw [eS], hw6⟩, by simp [intOf]; omega⟩)
        | (have eL : S.all.length = k := by rw [hal, List.length_map, HL2.out]
           have eA : S.all ++ [(x, b)] = (l.take (k + 1)).map (·.1) := by rw [HTK.out, hal]
           have eAl : ((l.take (k + 1)).map (·.1)).length = k + 1 := by rw [← eA, List.length_append, eL]; rfl
           have eS : chg (l.take (k + 1)) = ⟨S.out ++ [((l.take (k + 1)).map (·.1)).drop S.from'], k + 1, S.all ++ [(x, b)]⟩ := by
             rw [hst, hlast, ← eA]
             show (⟨_, _, _⟩ : Chg) = _
             rw [List.length_append, eL]
             rfl
           have eD : (((l.take (k + 1)).map (·.1)).drop S.from').length = k + 1 - S.from' := by rw [List.length_drop, eAl]
           have hxl6 : (xa ++ [Value.int .u64 (x : Int), .slice A2 160 cc2]).length = (k + 1) * 2 := hown6.1
           have hIm : ImAt w6 (.slice (some ⟨g6, S.from' * 2, none⟩) (k + 1 - S.from') (k + 1 - S.from')) (((l.take (k + 1)).map (·.1)).drop S.from') (some g6) ((k + 1) * 2) := by
             refine ⟨g6, S.from' * 2, k + 1 - S.from', (xa ++ [Value.int .u64 (x : Int), .slice A2 160 cc2]).drop (2 * S.from'), by rw [eD], by rw [eD]; exact Nat.le_refl _, own_kind hown6 rfl, ?_, fun j u hu => ?_, hRa6.drop _, fun _ => by rw [eD]; omega⟩
             · rw [List.length_drop, eD]
               omega
             · rw [List.getElem?_drop, Nat.mul_comm] at hu
               have h := World.ownsRow.cells hown6 (g := g6) rfl _ u hu
               rwa [add_head] at h
           have hRo7 := hRo6.snoc (by have := hoo6.1; omega) hIm
           have h79 : ∀ (b : Nat) (t : TypeId), Kind w6 b t → t ≠ 24 → w9.heap[b]? = w6.heap[b]? := fun b t hK hne => (hg9.block b (by rw [size_alloc']; have := hK.lt; omega) (fun e => hne (hK.uniq (own_kind hoo6 e.symm)))).trans (Below.heap_alloc _ _ b hK.lt)
           have hs9 : w6.heap.size ≤ w9.heap.size := by have h := hg9.size; rw [size_alloc'] at h; omega
           refine ⟨⟨k + 1, some ⟨g6, 0, none⟩, cc6, _, A9, cc9, _, by omega, by go_num, rfl, own_keep hown6 (fun b e => h79 b _ (own_kind hown6 e) (by decide)), hRa6.keep hs9 (fun b hK => h79 b _ hK (by decide)), by rw [eS]; simp, by rw [eS]; simpa using hown9, ?_, by rw [eS]; go_num, ?_⟩, by simp [intOf]; omega⟩
           · rw [eS]
             exact hRo7.keep hs9 (fun b hK => h79 b _ hK (by decide)) (fun b hK => h79 b _ hK (by decide))
           · exact (hw6.alloc hw6.size _).grown hg9 (by have := hw6.size; rw [size_alloc']; omega) (fun b e => (hbndO b e).1))
    · have hkk : k = n := by omega
      have hps : n ≤ k := by omega
      have HK := Lib.hid hkk
      have HLN := Lib.hid hl
      clear hkk hlt hk
      go_wp2
      go_ret2
      have hlt : l.take k = l := List.take_of_length_le (by rw [HK.out, HLN.out]; exact Nat.le_refl _)
      rw [hlt] at hoo hRo
      refine ⟨.slice Ao (chg l).out.length co, xo, ?_, hoo, hRo.rowC, hw⟩
      rw [hlt]
      rfl
end Go.Proofs.YtkhebllmnagkmaaGreatDoor
