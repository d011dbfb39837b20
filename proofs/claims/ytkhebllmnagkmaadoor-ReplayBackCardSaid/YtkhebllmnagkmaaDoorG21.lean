/- Contracts and lemmas under the statements of this seat, one behind the other. Conditions: what each names. -/
import Derived.Test.YtkhebllmnagkmaaDoorG20
import Derived.Test.YtkhebllmnagkmaaDoorG19
import Derived.WalkKit
import Derived.ProofKit
/- The law ReplayBack, walked: it returns true. Conditions: the arguments read as a key, a byte and changes, the tables lie in memory. -/
namespace Go.Proofs.YtkhebllmnagkmaaDoor
open Go.RowKit
set_option linter.unusedVariables false
attribute [local irreducible] sealB linkB recB

set_option maxRecDepth 100000 in
set_option maxHeartbeats 8000000 in
theorem replayBack_any (key : List UInt8) (s : UInt8) (A : Option Addr) (n c : Nat) (xs : List Value) (ll : List (List Img)) (w : World) (hk : key.length = 32) (hr : Reads w w.heap.size 1 A n xs) (hl : ll.length = n) (hi : RowAA w xs ll) (h64 : ∀ l ∈ ll, ∀ p ∈ l, p.1 < 18446744073709551616) (hn : n ≤ 9223372036854775807) (hT : Tabs w) :
    Calls Tryd.prog 4 #[.agg (bs key).toArray, .int .u8 (s.toNat : Int), .slice A n c] w fun e w' => e = .returned (.bool true) ∧ Below w.heap.size w w' := by
  obtain ⟨W0, hW0⟩ : ∃ W0 : World, W0 = w.alloc (.cells (bs key).toArray 39) := ⟨_, rfl⟩
  have y0 : Below w.heap.size w W0 := by rw [hW0]; exact (Below.refl _ _).alloc (Nat.le_refl _) _
  have kk0 : Blk W0 w.heap.size 39 (bs key).toArray := by rw [hW0]; exact Blk.new_of rfl rfl
  have haw := awake_any W0 (hT.under y0)
  have hTs := hT.size
  rw [hW0] at haw
  have z1 : (bs key).toArray.size = 32 := by simp [bs_length, hk]
  have Z1 := Lib.hid z1
  have HW0 := Lib.hid hW0
  clear hW0 z1
  by_cases h4 : 4 < n
  · have d1 : (4 : Int) < (n : Int) := by omega
    go_enter Tryd.func4, Tryd.ntmps4
    go_wp2_with (first | (go_at_call 7; refine haw.mono ?_; rintro e w1 ⟨rfl, b1⟩; rw [← HW0.out] at b1))
    go_ret
    exact ⟨rfl, y0.trans (b1.mono y0.size)⟩
  · have d1 : ¬ (4 : Int) < (n : Int) := by omega
    have d2 : n ≤ 4 := by omega
    obtain ⟨i1, ii1, hy0, hy1, hy2⟩ := info_parts info26
    have hst : s.toNat % 16 < 16 := Nat.mod_lt _ (by omega)
    have hjn := fun gd F W h => jnew_any gd F (dkB (s.toNat % 16) key []) (jrB (s.toNat % 16) key []) W h hk (tagB_len _ _ _) (by show 1 ≤ 16; omega) (by show 3 + 16 ≤ (List.replicate 20 zeros192).length; rw [List.length_replicate]; omega) (by show (List.replicate 20 zeros192).length ≤ 1048576; rw [List.length_replicate]; omega) hst (by show 0 ≤ 16; omega) (by show 1 ≤ 1 + 0; omega) (by show 1099511627776 ≤ 9223372036854775807; omega)
    clear h4
    go_enter Tryd.func4, Tryd.ntmps4
    go_wp2_with (first | (go_at_call 7; refine haw.mono ?_; rintro e w1 ⟨rfl, b1⟩; rw [← HW0.out] at b1; have y1 := y0.trans (b1.mono y0.size); have k1 := kk0.below b1 kk0.lt; have hd := dnew_any 20 w1 (by omega) (by omega); clear haw) | (go_at_call 14; refine hd.mono ?_; rintro e w2 ⟨rfl, D2', b2⟩; have y2 := y1.trans (b2.mono y1.size); have k2 := k1.below b2 k1.lt; clear hd) | ((with_reducible refine wpList_load_blk (o := ⟨some 33, _, _, _, _, _⟩) rfl 39 _ rfl w.heap.size rfl 39 _ _ k2 Tryd.underlying39 rfl (by rw [Z1.out]; kernel_rfl) ?_)) | (go_at_call 15; refine (hjn w1.heap.size _ _ D2').mono ?_; rintro e w3 ⟨gj, rfl, hgj, J3, b3⟩; have y3 := y2.trans (b3.mono y2.size); have k3 := k2.below b3 k2.lt; have hgl := J3.blk.lt; have hs1 := y1.size; have hs2 := b2.size; have D3 : Disk w3 w1.heap.size (fun k => w.heap.size ≤ k ∧ k ≠ gj) (dkB (s.toNat % 16) key []) := (D2'.bound.under b3).mono (fun k hk hf => ⟨by omega, by omega⟩); clear hjn D2' k1 k2))
    generalize w1.heap.size = gd at *
    generalize hsd : s.toNat % 16 = sd at *
    have HSD := Lib.hid hsd
    clear hsd
    go_loopw [12, 13] (fun vo ix wr => ∃ (k : Nat) (A' : Option Addr) (c' : Nat) (ys : List Value), k ≤ n ∧ ix = .int .i64 k ∧ vo = .slice A' k c' ∧ wr.ownsRow w.heap.size 26 1 (.slice A' k c') k ys ∧ RowMs wr w.heap.size ys (padAll (ll.take k)) ∧ (∀ l ∈ ll.take k, l ≠ [] ∧ l.length ≤ 4) ∧ JAt wr gj gd (jrB sd key (recsOf (padAll (ll.take k)))) ∧ Disk wr gd (fun k => w.heap.size ≤ k ∧ k ≠ gj) (dkB sd key (recsOf (padAll (ll.take k)))) ∧ Blk wr w.heap.size 39 (bs key).toArray ∧ Below w.heap.size w wr) (fun _ ix _ => n - (intOf ix).toNat)
    case atStart => exact ⟨0, none, 0, [], by omega, rfl, rfl, World.ownsRow_nil _ _ _ _, fun i p hp => by simp [padAll] at hp, fun l hl => by simp at hl, J3, D3, k3, y3⟩
    case round =>
      clear J3 D3 k3 y3
      obtain ⟨k, A', c', ys, hkn, rfl, rfl, hor, hR, h4, Jr, Dr, kr, hw⟩ := hrel
      by_cases hlt : k < n
      · have hpk : ll[k]? = some (ll[k]'(by omega)) := List.getElem?_eq_getElem (by omega)
        obtain ⟨A1, c1, xs1, u0, hr1, hR1⟩ := hi k _ hpk
        have hsp := hr.spot (by omega) (by omega)
        obtain ⟨ad, rfl, hadb, hcell⟩ := hr.2 (by omega)
        obtain ⟨g, o, sp⟩ := ad
        have hsp := hsp _ rfl
        simp only at hsp hadb
        subst hsp
        have d0 := hcell _ _ u0
        rw [Addr.add_mid] at d0
        have htk := take_snoc ll k _ hpk
        have q0 : wr.cell? ⟨g, o + k, none⟩ = some (.slice A1 (ll[k]'(by omega)).length c1) := (hw.cell (p := ⟨g, o + k, none⟩) hadb).trans d0
        have hl64 := h64 _ (List.getElem_mem (h := (by omega : k < ll.length)))
        generalize ll[k]'(by omega) = l at *
        have HTK := Lib.hid htk
        have hwr := hw.size
        have hrl16 : (recsOf (padAll (ll.take k))).length ≤ k * 4 := by
          rw [recsOf_length]
          have h := flatten_le (padAll (ll.take k)) 4 (fun x hx => by
            obtain ⟨x0, hx0, rfl⟩ := List.mem_map.1 hx
            rw [List.length_map]
            exact (h4 x0 hx0).2)
          have e : (padAll (ll.take k)).length = k := by unfold padAll; rw [List.length_map, List.length_take]; omega
          rw [e] at h
          exact h
        clear hcell u0 hpk htk d0
        by_cases hl4 : 4 < l.length
        · have e1 : (4 : Int) < (l.length : Int) := by omega
          go_wp2
          go_ret
          exact ⟨rfl, hw⟩
        · have e1 : ¬ (4 : Int) < (l.length : Int) := by omega
          have hl4' : l.length ≤ 4 := by omega
          have hRw : RowA wr xs1 l := fun i p hp => by
            obtain ⟨h0, A2, c2, h1, h2, h3⟩ := hR1 i p hp
            exact ⟨h0, A2, c2, h1, h2, (h3.below hw).more hwr⟩
          have him := images_any A1 l.length c1 xs1 l wr ((hr1.below hw).more hwr) rfl hRw (by omega)
          have hbnd : ∀ bk, (Value.slice A' k c').ownBlock = some bk → w.heap.size ≤ bk ∧ bk < wr.heap.size := World.ownsRow.lt hor
          have hgjr := Jr.blk.lt
          have hTr := hT.under hw
          clear hl4 hr1 hR1 hRw
          by_cases hl0 : l.length = 0
          · rw [hl0] at him q0 e1
            go_wp2_with (first | (go_at_call 8; refine him.mono ?_; rintro e w4 ⟨A4, c4, ys4, rfl, ho4, hR4, b4⟩; have hs4 := b4.size) | (go_at_call 16; refine (append_none gj A4 c4 _).mono ?_; rintro e w5 ⟨rfl, b5⟩) | ((with_reducible refine wpList_store_blk (o := ⟨none, .store 48 (.tmp 15) (.tmp 64), _, _, _, _⟩) rfl 48 (.tmp 15) (.tmp 64) rfl w5.heap.size st0.toArray rfl rfl 48 st0.toArray (Blk.new_of rfl rfl) (by kernel_rfl) rfl (by kernel_rfl) ?_); intro w6 k6 g6 s6; have S6 := Lib.hid s6; clear s6))
            go_ret
            exact ⟨rfl, (((hw.trans (b4.mono hwr)).trans (b5.mono (Nat.le_trans hwr hs4))).alloc (by have := b5.size; omega) _).grown g6 (by rw [size_alloc']; have := b5.size; omega) (fun k e => by injection e with e; have := b5.size; omega)⟩
          · have hlp : (l.map imgPad).length = l.length := List.length_map _
            have hpp : ∀ p ∈ l.map imgPad, p.2.length = 160 ∧ p.1 < 18446744073709551616 := fun p hp => by
              obtain ⟨q, hq, rfl⟩ := List.mem_map.1 hp
              exact ⟨padB_length _ _, hl64 q hq⟩
            have htk2 : padAll (ll.take (k + 1)) = padAll (ll.take k) ++ [l.map imgPad] := by rw [HTK.out]; unfold padAll; simp
            have hrs : recsOf (padAll (ll.take (k + 1))) = recsOf (padAll (ll.take k)) ++ recL (l.map imgPad) := by rw [htk2, recsOf_snoc]
            have H4 := Lib.hid h4
            have HTP := Lib.hid htk2
            have HRS := Lib.hid hrs
            clear h4 htk2 hrs hi h64
            generalize recsOf (padAll (ll.take k)) = RL at *
            generalize l.map imgPad = lp at *
            go_wp2_with (first | (go_at_call 8; refine him.mono ?_; rintro e w4 ⟨A4, c4, ys4, rfl, ho4, hR4, b4⟩; have hs4 := b4.size; clear him))
            obtain ⟨g4, c4', hv4, _, hg4l⟩ := ho4.form (by omega)
            injection hv4 with hA4 _ hc4
            subst hA4
            have hap := back_append gj gd sd key RL _ g4 0 c4 ys4 lp w4 (Jr.under b4) (Dr.under b4) (fun h => h.2 rfl) (by rw [hlp]; exact Reads.of_own ho4) hR4.rowI (fun p hp => (hpp p hp).1) (fun p hp => (hpp p hp).2) (by omega) (by omega) hst (hTr.under b4) (by omega) (fun k hk => by omega)
            rw [hlp] at hap
            have had := fun W h => back_adopt gj gd sd key RL lp W h (by omega) hst
            rw [hlp] at had
            have hsl := stCells_length sd (RL ++ recL lp).length (tagOf z32 (ring 3 16 sd key (RL ++ recL lp)))
            rw [tagB_len] at hsl
            have hso := stCells_one sd (RL ++ recL lp).length (tagOf z32 (ring 3 16 sd key (RL ++ recL lp)))
            generalize stCells sd (RL ++ recL lp).length (tagOf z32 (ring 3 16 sd key (RL ++ recL lp))) = stN at *
            have HSL := Lib.hid hsl
            have HSO := Lib.hid hso
            clear hsl hso
            have zi : (Tryd.prog.info? 48).map (·.size) = some stN.toArray.size := by rw [List.size_toArray, HSL.out]; kernel_rfl
            have zs : st0.toArray.size = stN.toArray.size := by rw [List.size_toArray, List.size_toArray, HSL.out]; rfl
            have ZI := Lib.hid zi
            have ZS := Lib.hid zs
            clear zi zs Jr Dr hc4
            go_wp2_with (first | (go_at_call 16; refine hap.mono ?_; rintro e w5 ⟨rfl, J5, D5, O5⟩; clear hap) | ((with_reducible refine wpList_store_blk (o := ⟨none, .store 48 (.tmp 15) (.tmp 64), _, _, _, _⟩) rfl 48 (.tmp 15) (.tmp 64) rfl w5.heap.size stN.toArray rfl rfl 48 st0.toArray (Blk.new_of rfl rfl) ZI.out ZS.out HSO.out ?_); intro w6 k6 g6 s6; have S6 := Lib.hid s6; clear s6) | ((with_reducible refine wpList_load_blk (o := ⟨some 74, _, _, _, _, _⟩) rfl 48 _ rfl w5.heap.size rfl 48 _ _ k6 Tryd.underlying48 rfl ZI.out ?_)) | (go_at_call 17; have b56 : Below w5.heap.size w5 w6 := ((Below.refl _ w5).alloc (Nat.le_refl _) (.cells st0.toArray 48)).grown g6 (by rw [size_alloc']; omega) (fun k e => by injection e with e; omega); have J6 := J5.under b56; have D6 := D5.under b56; refine (had w6 J6).mono ?_; rintro e w7 ⟨rfl, J7, g7⟩; clear had))
            have O45 : Only (fun k => w.heap.size ≤ k) w4 w5 := O5.mono (fun i _ h => h.elim (fun h => h.1) (fun e => by omega))
            have O67 : Only (fun k => k = gj) w6 w7 := Only.of_grown g7 (fun k e => by injection e with e; exact e.symm) (fun k e _ => by injection e with e; subst e; exact ⟨_, J6.blk.kind, by decide⟩)
            have O47 : Only (fun k => w.heap.size ≤ k) w4 w7 := (O45.trans (Only.of_below (F := fun k => w.heap.size ≤ k) b56) (fun _ _ h => h)).trans O67 (fun i _ e => by omega)
            have Or7 : Only (fun k => w.heap.size ≤ k) wr w7 := (Only.of_below b4).trans O47 (fun _ _ h => h)
            have hs5 := O45.size
            have hs6 := b56.size
            have hs7 := O47.size
            have D7 : Disk w7 gd (fun k => w.heap.size ≤ k ∧ k ≠ gj) (dkB sd key (RL ++ recL lp)) := Disk.apart (F' := fun k => k = gj) (D6.mono (fun k _ hf => hf.elim id (fun h => ⟨by omega, by omega⟩))) O67 (fun k hf => hf.2)
            have hR7 := hR4.keep (fun bk hK => O47.kind hK (.inr dry_u8))
            have ho7 := O47.own ho4 (.inr (by decide))
            have hor7 := Or7.own hor (.inr (by decide))
            have hRM7 := hR.keep (fun bk hK => Or7.kind hK (.inr (by decide)))
            have kr7 := Or7.blk kr (.inr (by decide))
            have y7 : Below w.heap.size w w7 := hw.trans (Or7.below hwr (fun k h => h))
            have hmo := modelOf_any (some ⟨g4, 0, none⟩) l.length c4 ys4 lp w7 (Reads.of_own ho7) (own_spot ho7) hlp hR7.rowI (by omega)
            have hbnd7 : ∀ bk, (Value.slice A' k c').ownBlock = some bk → w.heap.size ≤ bk ∧ bk < w7.heap.size := World.ownsRow.lt hor7
            have hone : ∀ (A : Option Addr) (m c : Nat), ∀ u ∈ [Value.slice A m c], u.oneCell' = true := by intro A m c u hu; simp only [List.mem_cons, List.not_mem_nil, or_false] at hu; rcases hu with rfl; rfl
            have hm1 : k + 1 ≤ maxLen := by unfold maxLen; omega
            have hm2 : (k + 1) * 24 ≤ 140737488355328 := by omega
            clear O45 O5 O67 O47 Or7 hR4 ho4 D5 D6 J5 J6 g6 g7 k6 b56 hbnd hor hR kr
            go_wp2_with (first | (go_at_call 13; refine hmo.mono ?_; rintro e w8 ⟨A8, c8, rfl, ho8, b8⟩; have hs8 := b8.size; have hor8 : w8.ownsRow w.heap.size 26 1 (.slice A' k c') k ys := (own_keep hor7 (fun bk e => b8.block bk (hbnd7 bk e).2)); have hnews := Blk.rows (xs := [Value.slice A8 l.length c8]) 1 1 (Blk.new w8 26 #[Value.slice A8 l.length c8]) rfl; have hbase : w.heap.size ≤ (w8.alloc (.cells #[Value.slice A8 l.length c8] 26)).heap.size := (by rw [size_alloc']; omega); clear hmo) | (at_builtin; refine wpList_append_any _ rfl (.tmp 76) (.tmp 79) 28 rfl w.heap.size 26 i1 _ 1 24 Tryd.underlying28 ii1 hy0 hy1 hy2 rfl (by omega) (.slice A' k c') k ys rfl (World.ownsRow.alloc hor8 _) _ (some ⟨w8.heap.size, 0, none⟩) 1 1 [_] rfl hnews (hone _ _ _) hm1 hm2 hbase ?_; intro v9 w9 hown9 hg9 hat9; obtain ⟨A9, cc9, rfl⟩ := own_shape hown9))
            go_roundw
            case rel =>
              have k9 : ∀ (bk : Nat) (t : TypeId), Kind w8 bk t → t ≠ 26 → w9.heap[bk]? = w8.heap[bk]? := fun bk t hK hne => (hg9.block bk (by rw [size_alloc']; have := hK.lt; omega) (fun e => hne (hK.uniq (own_kind hor8 e.symm)))).trans (Below.heap_alloc _ _ bk hK.lt)
              have J8 := J7.under b8
              have D9 : Disk w9 gd (fun k => w.heap.size ≤ k ∧ k ≠ gj) (dkB sd key (RL ++ recL lp)) := ((D7.under b8).alloc _).beside hg9 (fun bk e => ⟨_, own_kind (World.ownsRow.alloc hor8 _) e, by decide, by decide⟩)
              have kr8 := kr7.below b8 kr7.lt
              have h := ((hRM7.keep (fun bk hK => b8.block bk hK.lt)).keep (w' := w9) (fun bk hK => k9 bk _ hK (by decide))).snoc (l := lp) (A := A8) (c := c8) (by rw [hor7.1, padAll, List.length_map, List.length_take]; omega)
                (by rw [hlp]; exact ownsRow_lower (own_keep ho8 fun bk e => k9 bk _ (own_kind ho8 e) (by decide)) (Nat.le_trans hwr (Nat.le_trans hs4 hs7)))
              rw [hlp] at h
              refine ⟨k + 1, A9, cc9, _, by omega, by go_num, rfl, hown9, by rw [HTP.out]; exact h, fun l' hl' => ?_, by rw [HRS.out]; exact J8.keep (k9 gj _ J8.blk.kind (by decide)), by rw [HRS.out]; exact D9, (k9 _ _ kr8.kind (by decide)).trans kr8, ((y7.trans (b8.mono y7.size)).alloc (by omega) _).grown hg9 hbase (fun bk e => (hbnd7 bk e).1)⟩
              rw [HTK.out] at hl'
              rcases List.mem_append.1 hl' with hl' | hl'
              · exact H4.out l' hl'
              · simp only [List.mem_singleton] at hl'
                subst hl'
                exact ⟨fun e => hl0 (by rw [e]; rfl), hl4'⟩
            case measure => simp [intOf]; omega
      · have hkk : k = n := by omega
        rw [List.take_of_length_le (by omega)] at hR h4 Jr Dr
        clear hlt hkn
        subst hkk
        have hLL : (padAll ll).length = k := by unfold padAll; rw [List.length_map]; exact hl
        have hlen4 : ∀ l ∈ padAll ll, l ≠ [] ∧ l.length ≤ 4 := fun l hl' => by
          obtain ⟨l0, hl0, rfl⟩ := List.mem_map.1 hl'
          rw [List.length_map]
          exact ⟨fun e => (h4 l0 hl0).1 (List.map_eq_nil_iff.1 e), (h4 l0 hl0).2⟩
        have hpp : ∀ l ∈ padAll ll, ∀ p ∈ l, p.2.length = 160 ∧ p.1 < 18446744073709551616 := fun l hl' p hp => by
          obtain ⟨l0, hl0, rfl⟩ := List.mem_map.1 hl'
          obtain ⟨q, hq, rfl⟩ := List.mem_map.1 hp
          exact ⟨padB_length _ _, h64 l0 hl0 q hq⟩
        have hrl16 : (recsOf (padAll ll)).length ≤ 16 := by
          rw [recsOf_length]
          have h := flatten_le (padAll ll) 4 (fun x hx => (hlen4 x hx).2)
          rw [hLL] at h
          omega
        have hTr := hT.under hw
        have hwr := hw.size
        have hgjr := Jr.blk.lt
        have hjs := jstate_any gj gd _ wr Jr
        have hbl := fun W D T => back_load gd sd key (padAll ll) (fun k => w.heap.size ≤ k ∧ k ≠ gj) W D hk hrl16 hst T (fun k hk => by omega) (fun l hl' => (hlen4 l hl').1) hpp
        clear hi hr h4 h64 hrl16
        generalize padAll ll = LL at *
        have hsl := stCells_length sd (recsOf LL).length (tagOf z32 (ring 3 16 sd key (recsOf LL)))
        rw [tagB_len] at hsl
        have hso := stCells_one sd (recsOf LL).length (tagOf z32 (ring 3 16 sd key (recsOf LL)))
        have hjs' : Calls Tryd.prog 18 #[.pointer (some ⟨gj, 0, none⟩)] wr fun e w' => e = .returned (.tuple #[.agg (stCells sd (recsOf LL).length (tagOf z32 (ring 3 16 sd key (recsOf LL)))).toArray, .int .u64 ((1 + (recsOf LL).length : Nat) : Int)]) ∧ Below wr.heap.size wr w' := hjs
        clear hjs
        generalize stCells sd (recsOf LL).length (tagOf z32 (ring 3 16 sd key (recsOf LL))) = stN at *
        have HSL := Lib.hid hsl
        have HSO := Lib.hid hso
        have zi : (Tryd.prog.info? 48).map (·.size) = some stN.toArray.size := by rw [List.size_toArray, HSL.out]; kernel_rfl
        have zs : st0.toArray.size = stN.toArray.size := by rw [List.size_toArray, List.size_toArray, HSL.out]; rfl
        have ZI := Lib.hid zi
        have ZS := Lib.hid zs
        have HLL := Lib.hid hLL
        clear zi zs hsl hso hLL
        go_wp2_with (first | (go_at_call 18; refine hjs'.mono ?_; rintro e w4 ⟨rfl, b4⟩; have kr4 := kr.below b4 kr.lt; clear hjs') | ((with_reducible refine wpList_store_blk (o := ⟨none, .store 48 (.tmp 17) (.tmp 84), _, _, _, _⟩) rfl 48 (.tmp 17) (.tmp 84) rfl w4.heap.size stN.toArray rfl rfl 48 st0.toArray (Blk.new_of rfl rfl) ZI.out ZS.out HSO.out ?_); intro w5 k5 g5 s5; have S5 := Lib.hid s5; clear s5; have b45 : Below w4.heap.size w4 w5 := ((Below.refl _ w4).alloc (Nat.le_refl _) (.cells st0.toArray 48)).grown g5 (by rw [size_alloc']; omega) (fun k e => by injection e with e; omega); have kr5 := kr4.below b45 kr4.lt) | ((with_reducible refine wpList_load_blk (o := ⟨some 88, _, _, _, _, _⟩) rfl 39 _ rfl w.heap.size rfl 39 _ _ kr5 Tryd.underlying39 rfl (by rw [Z1.out]; kernel_rfl) ?_)) | ((with_reducible refine wpList_load_blk (o := ⟨some 89, _, _, _, _, _⟩) rfl 48 _ rfl w4.heap.size rfl 48 _ _ k5 Tryd.underlying48 rfl ZI.out ?_)))
        have b5 : Below wr.heap.size wr w5 := b4.trans (b45.mono b4.size)
        have hs5 := b5.size
        have hor5 := own_keep hor (fun bk e => b5.block bk (World.ownsRow.lt hor bk e).2)
        have hR5 := hR.keep (fun bk hK => b5.block bk hK.lt)
        have hbl5 := hbl w5 (Dr.under b5) (hTr.under b5)
        have y5 : Below w.heap.size w w5 := hw.trans (b5.mono hwr)
        clear hbl hor hR kr kr4 kr5 k5 g5 Dr Jr
        rw [HLL.out] at hbl5
        go_wp2_with (first | (go_at_call 19; refine hbl5.mono ?_; rintro e w6 ⟨⟨v6, ys6, rfl, ho6, hC6⟩, O6⟩; obtain ⟨A6, c6, rfl⟩ := own_shape ho6; have hs6 := O6.size; have hor6 := O6.own hor5 (.inr (by decide)); have hR6 := hR5.keep (fun bk hK => O6.kind hK (.inr (by decide))); have y6 : Below w.heap.size w w6 := y5.trans (O6.below y5.size (fun k h => h.1)); have hal := allOf_any A6 k c6 ys6 LL w6 (Reads.of_own ho6) (own_spot ho6) HLL.out hC6 (by omega) (fun l hl' => Nat.le_trans (hlen4 l hl').2 (by omega)); clear hbl5 hor5 hR5) | (go_at_call 10; refine hal.mono ?_; rintro e w7 ⟨A7, c7, ys7, rfl, ho7, hM7, b7⟩; have hs7 := b7.size; have hor7 := own_keep hor6 (fun bk e => b7.block bk (World.ownsRow.lt hor6 bk e).2); have hR7 := hR6.keep (fun bk hK => b7.block bk hK.lt); have hsm := sameAll_yes A7 A' k c7 c' _ _ _ _ ys7 ys LL w7 HLL.out ho7 hM7 hor7 hR7 (by omega) (fun l hl' => Nat.le_trans (hlen4 l hl').2 (by omega)); clear hal) | (go_at_call 20; refine hsm.mono ?_; rintro e w8 ⟨rfl, q8, rfl⟩; clear hsm))
        go_ret
        exact ⟨rfl, y6.trans ((below_drewN b7 q8).mono y6.size)⟩
end Go.Proofs.YtkhebllmnagkmaaDoor
/- What the laws of the Door seat share: the program's switches, the door's own heap, arrays that come in. No condition beyond what each names. -/
namespace Go.Proofs.YtkhebllmnagkmaaDoor
open Go.ChangeShapes Go.WideShapes Go.ChangeAt Go.RowKit
set_option linter.unusedVariables false
theorem okWide_array {P : Program} {w : World} {r : Reach} {base : Nat} {t : TypeId} {v : Value} {n : Nat} {e : TypeId} (ht : P.underlying t = some (.array n e)) (h : Value.okWide P w r base t v) : ∃ cs, v = .agg cs ∧ cs.size = P.cellsOf t := by
  simp only [Value.okWide, ht] at h
  obtain ⟨cs, h1, h2, _⟩ := h
  exact ⟨cs, h1, h2⟩
section
variable {H : Type} {enc : TypeId × Value → H} {W : World}
/-- A key that comes in: thirty-two bytes. -/
theorem open_key {fuel : Nat} {cs : List Value} {x : DataW H × List MemPlace} (h : DataW.trod enc Tryd.prog W 0 (fun _ => true) true fuel 39 cs = some x) : ∃ key : List UInt8, key.length = 32 ∧ cs = bs key := by
  obtain ⟨zs, hz, _, hc, hw⟩ := open_arr_ints Tryd.underlying39 Tryd.underlying5 (by kernel_rfl) (by kernel_rfl) h
  refine ⟨zs.map fun z => UInt8.ofNat z.toNat, by rw [List.length_map]; exact hz, ?_⟩
  rw [hc]
  refine List.ext_getElem? fun i => ?_
  rw [bs_get, List.getElem?_map, List.getElem?_map]
  cases hi : zs[i]? with
  | none => rfl
  | some z =>
    have hb := bounds_u8 (hw z (List.mem_of_getElem? hi))
    simp only [Option.map_some, Option.some.injEq]
    congr 1
    rw [UInt8.toNat_ofNat']
    omega
end
theorem ownD : ownKnob Tryd.prog.godebug = none := by kernel_rfl
theorem laidOutD : laidOutB Tryd.prog = true := by kernel_rfl
/-- The door's own heap meets the condition: closed facts. -/
theorem doorMet (os : Os) (args : Array Value) : laidMetH Tryd.prog laid2 ((World.doorLaid Tryd.prog 400 os).forCall (fun _ _ => 0) ⟨#[], args, []⟩).memory :=
  laidMetH_of_parts3 (fuel := 8) (laidMet_of_run' 8 (by kernel_rfl) (by kernel_rfl)) (by kernel_rfl) (by kernel_rfl)
end Go.Proofs.YtkhebllmnagkmaaDoor
