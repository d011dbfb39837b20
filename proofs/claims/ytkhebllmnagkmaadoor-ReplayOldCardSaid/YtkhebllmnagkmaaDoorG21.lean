/- Contracts and lemmas under the statements of this seat, one behind the other. Conditions: what each names. -/
import Derived.Test.YtkhebllmnagkmaaDoorG20
import Derived.Test.YtkhebllmnagkmaaDoorG19
/- The law ReplayOld, walked: it returns true. Conditions: the arguments read as a key and changes, the tables lie in memory. -/
namespace Go.Proofs.YtkhebllmnagkmaaDoor
open Go.RowKit
set_option linter.unusedVariables false
attribute [local irreducible] sealB linkB recB

set_option maxRecDepth 100000 in
set_option maxHeartbeats 8000000 in
theorem replayOld_any (key : List UInt8) (A : Option Addr) (n c : Nat) (xs : List Value) (ll : List (List Img)) (w : World) (hk : key.length = 32) (hr : Reads w w.heap.size 1 A n xs) (hl : ll.length = n) (hi : RowAA w xs ll) (h64 : ∀ l ∈ ll, ∀ p ∈ l, p.1 < 18446744073709551616) (hn : n ≤ 9223372036854775807) (hT : Tabs w) :
    Calls Tryd.prog 5 #[.agg (bs key).toArray, .slice A n c] w fun e w' => e = .returned (.bool true) ∧ Below w.heap.size w w' := by
  obtain ⟨W0, hW0⟩ : ∃ W0 : World, W0 = w.alloc (.cells (bs key).toArray 39) := ⟨_, rfl⟩
  have y0 : Below w.heap.size w W0 := by rw [hW0]; exact (Below.refl _ _).alloc (Nat.le_refl _) _
  have kk0 : Blk W0 w.heap.size 39 (bs key).toArray := by rw [hW0]; exact Blk.new_of rfl rfl
  have haw := awake_any W0 (hT.under y0)
  have hTs := hT.size
  rw [hW0] at haw
  have z1 : (bs key).toArray.size = 32 := by simp [bs_length, hk]
  have Z1 := Lib.hid z1
  have HW0 := Lib.hid hW0
  clear hW0 z1
  by_cases h4 : 4 < n
  · have d1 : (4 : Int) < (n : Int) := by omega
    go_enter Tryd.func5, Tryd.ntmps5
    go_wp2_with (first | (go_at_call 7; refine haw.mono ?_; rintro e w1 ⟨rfl, b1⟩; rw [← HW0.out] at b1))
    go_ret
    exact ⟨rfl, y0.trans (b1.mono y0.size)⟩
  · have d1 : ¬ (4 : Int) < (n : Int) := by omega
    have d2 : n ≤ 4 := by omega
    have hjn := fun gd F W h => jnew_any gd F (dkG 0 20 0 key []) (jrG 0 20 0 key []) W h hk (tagG_len _ _ _ _ _) (by show 1 ≤ 20; omega) (by show 0 + 20 ≤ (List.replicate 20 zeros192).length; rw [List.length_replicate]; omega) (by show (List.replicate 20 zeros192).length ≤ 1048576; rw [List.length_replicate]; omega) (by show 0 < 20; omega) (by show 0 ≤ 20; omega) (by show 1 ≤ 1 + 0; omega) (by show 1099511627776 ≤ 9223372036854775807; omega)
    clear h4
    go_enter Tryd.func5, Tryd.ntmps5
    go_wp2_with (first | (go_at_call 7; refine haw.mono ?_; rintro e w1 ⟨rfl, b1⟩; rw [← HW0.out] at b1; have y1 := y0.trans (b1.mono y0.size); have k1 := kk0.below b1 kk0.lt; have hd := dnew_any 20 w1 (by omega) (by omega); clear haw) | (go_at_call 14; refine hd.mono ?_; rintro e w2 ⟨rfl, D2', b2⟩; have y2 := y1.trans (b2.mono y1.size); have k2 := k1.below b2 k1.lt; clear hd) | ((with_reducible refine wpList_load_blk (o := ⟨some 34, _, _, _, _, _⟩) rfl 39 _ rfl w.heap.size rfl 39 _ _ k2 Tryd.underlying39 rfl (by rw [Z1.out]; kernel_rfl) ?_)) | (go_at_call 15; refine (hjn w1.heap.size _ _ D2').mono ?_; rintro e w3 ⟨gj, rfl, hgj, J3, b3⟩; have y3 := y2.trans (b3.mono y2.size); have k3 := k2.below b3 k2.lt; have hgl := J3.blk.lt; have hs1 := y1.size; have hs2 := b2.size; have D3 : Disk w3 w1.heap.size (fun k => w.heap.size ≤ k ∧ k ≠ gj) (dkG 0 20 0 key []) := (D2'.bound.under b3).mono (fun k hk hf => ⟨by omega, by omega⟩); clear hjn D2' k1 k2))
    generalize w1.heap.size = gd at *
    go_loopw [10, 11] (fun vo ix wr => ∃ (k : Nat) (A' : Option Addr) (c' : Nat), k ≤ n ∧ ix = .int .i64 k ∧ vo = .slice A' (latest (padAll (ll.take k)).flatten).length c' ∧ wr.ownsRow w.heap.size 60 2 (.slice A' (latest (padAll (ll.take k)).flatten).length c') (latest (padAll (ll.take k)).flatten).length (encM (latest (padAll (ll.take k)).flatten)) ∧ (∀ l ∈ ll.take k, l ≠ [] ∧ l.length ≤ 5) ∧ JAt wr gj gd (jrG 0 20 0 key (recsOf (padAll (ll.take k)))) ∧ Disk wr gd (fun k => w.heap.size ≤ k ∧ k ≠ gj) (dkG 0 20 0 key (recsOf (padAll (ll.take k)))) ∧ Blk wr w.heap.size 39 (bs key).toArray ∧ Below w.heap.size w wr) (fun _ ix _ => n - (intOf ix).toNat)
    case atStart => exact ⟨0, none, 0, by omega, rfl, rfl, World.ownsRow_nil _ _ _ _, fun l hl => by simp at hl, J3, D3, k3, y3⟩
    case round =>
      clear J3 D3 k3 y3
      obtain ⟨k, A', c', hkn, rfl, rfl, hor, h4, Jr, Dr, kr, hw⟩ := hrel
      obtain ⟨wo, rfl⟩ : ∃ wo : World, wo = wr := ⟨_, rfl⟩
      by_cases hlt : k < n
      · have hpk : ll[k]? = some (ll[k]'(by omega)) := List.getElem?_eq_getElem (by omega)
        obtain ⟨A1, c1, xs1, u0, hr1, hR1⟩ := hi k _ hpk
        have hsp := hr.spot (by omega) (by omega)
        obtain ⟨ad, rfl, hadb, hcell⟩ := hr.2 (by omega)
        obtain ⟨g, o, sp⟩ := ad
        have hsp := hsp _ rfl
        simp only at hsp hadb
        subst hsp
        have d0 := hcell _ _ u0
        rw [Addr.add_mid] at d0
        have htk := take_snoc ll k _ hpk
        have q0 : wo.cell? ⟨g, o + k, none⟩ = some (.slice A1 (ll[k]'(by omega)).length c1) := (hw.cell (p := ⟨g, o + k, none⟩) hadb).trans d0
        have hl64 := h64 _ (List.getElem_mem (h := (by omega : k < ll.length)))
        generalize ll[k]'(by omega) = l at *
        have HTK := Lib.hid htk
        have hwr := hw.size
        have hfle : (padAll (ll.take k)).flatten.length ≤ k * 5 := by
          have h := flatten_le (padAll (ll.take k)) 5 (fun x hx => by
            obtain ⟨x0, hx0, rfl⟩ := List.mem_map.1 hx
            rw [List.length_map]
            exact (h4 x0 hx0).2)
          have e : (padAll (ll.take k)).length = k := by unfold padAll; rw [List.length_map, List.length_take]; omega
          rw [e] at h
          exact h
        have hrl16 : (recsOf (padAll (ll.take k))).length ≤ k * 5 := by rw [recsOf_length]; exact hfle
        clear hcell u0 hpk htk d0
        by_cases hl0 : l.length = 0
        · rw [hl0] at q0
          go_wp2
          go_ret
          exact ⟨rfl, hw⟩
        by_cases hl4 : 5 < l.length
        · have e1 : (5 : Int) < (l.length : Int) := by omega
          have e2 : ¬ (l.length : Int) = 0 := by omega
          have e3 : ((l.length : Int) == 0) = false := by rw [beq_eq_false_iff_ne]; omega
          go_wp2
          go_ret
          exact ⟨rfl, hw⟩
        · have e1 : ¬ (5 : Int) < (l.length : Int) := by omega
          have e2 : ¬ (l.length : Int) = 0 := by omega
          have e3 : ((l.length : Int) == 0) = false := by rw [beq_eq_false_iff_ne]; omega
          have hl4' : l.length ≤ 5 := by omega
          have hRw : RowA wo xs1 l := fun i p hp => by
            obtain ⟨h0, A2, c2, h1, h2, h3⟩ := hR1 i p hp
            exact ⟨h0, A2, c2, h1, h2, (h3.below hw).more hwr⟩
          have him := images_any A1 l.length c1 xs1 l wo ((hr1.below hw).more hwr) rfl hRw (by omega)
          have hgjr := Jr.blk.lt
          have hTr := hT.under hw
          clear hl4 hr1 hR1 hRw
          have hlp : (l.map imgPad).length = l.length := List.length_map _
          have hpp : ∀ p ∈ l.map imgPad, p.2.length = 160 ∧ p.1 < 18446744073709551616 := fun p hp => by
            obtain ⟨q, hq, rfl⟩ := List.mem_map.1 hp
            exact ⟨padB_length _ _, hl64 q hq⟩
          have htk2 : padAll (ll.take (k + 1)) = padAll (ll.take k) ++ [l.map imgPad] := by rw [HTK.out]; unfold padAll; simp
          have hrs : recsOf (padAll (ll.take (k + 1))) = recsOf (padAll (ll.take k)) ++ recL (l.map imgPad) := by rw [htk2, recsOf_snoc]
          have hfs : (padAll (ll.take (k + 1))).flatten = (padAll (ll.take k)).flatten ++ l.map imgPad := by rw [htk2, List.flatten_append, List.flatten_singleton]
          have H4 := Lib.hid h4
          have HRS := Lib.hid hrs
          have HFS := Lib.hid hfs
          clear h4 htk2 hrs hfs hi h64
          generalize recsOf (padAll (ll.take k)) = RL at *
          generalize (padAll (ll.take k)).flatten = fl at *
          generalize l.map imgPad = lp at *
          go_wp2_with (first | (go_at_call 8; refine him.mono ?_; rintro e w4 ⟨A4, c4, ys4, rfl, ho4, hR4, b4⟩; have hs4 := b4.size; clear him))
          obtain ⟨g4, c4', hv4, _, hg4l⟩ := ho4.form (by omega)
          injection hv4 with hA4 _ hc4
          subst hA4
          have hap := fill_append 0 20 gj gd 0 key RL _ g4 0 c4 ys4 lp w4 (Jr.under b4) (Dr.under b4) (fun h => h.2 rfl) (by rw [hlp]; exact Reads.of_own ho4) hR4.rowI (fun p hp => (hpp p hp).1) (fun p hp => (hpp p hp).2) (by omega) (by omega) (by omega) (by omega) (hTr.under b4) (by omega) (fun k hk => by omega)
          rw [hlp] at hap
          have had := fun W h => fill_adopt 0 20 gj gd 0 key RL lp W h (by omega) (by omega) (by omega)
          rw [hlp] at had
          have hsl := stCells_length 0 (RL ++ recL lp).length (tagOf z32 (ring 0 20 0 key (RL ++ recL lp)))
          rw [tagG_len] at hsl
          have hso := stCells_one 0 (RL ++ recL lp).length (tagOf z32 (ring 0 20 0 key (RL ++ recL lp)))
          generalize stCells 0 (RL ++ recL lp).length (tagOf z32 (ring 0 20 0 key (RL ++ recL lp))) = stN at *
          have HSL := Lib.hid hsl
          have HSO := Lib.hid hso
          clear hsl hso
          have zi : (Tryd.prog.info? 48).map (·.size) = some stN.toArray.size := by rw [List.size_toArray, HSL.out]; kernel_rfl
          have zs : st0.toArray.size = stN.toArray.size := by rw [List.size_toArray, List.size_toArray, HSL.out]; rfl
          have ZI := Lib.hid zi
          have ZS := Lib.hid zs
          clear zi zs Jr Dr hc4
          go_wp2_with (first | (go_at_call 16; refine hap.mono ?_; rintro e w5 ⟨rfl, J5, D5, O5⟩; clear hap) | ((with_reducible refine wpList_store_blk (o := ⟨none, .store 48 (.tmp 13) (.tmp 68), _, _, _, _⟩) rfl 48 (.tmp 13) (.tmp 68) rfl w5.heap.size stN.toArray rfl rfl 48 st0.toArray (Blk.new_of rfl rfl) ZI.out ZS.out HSO.out ?_); intro w6 k6 g6 s6; have S6 := Lib.hid s6; clear s6) | ((with_reducible refine wpList_load_blk (o := ⟨some 73, _, _, _, _, _⟩) rfl 48 _ rfl w5.heap.size rfl 48 _ _ k6 Tryd.underlying48 rfl ZI.out ?_)) | (go_at_call 17; have b56 : Below w5.heap.size w5 w6 := ((Below.refl _ w5).alloc (Nat.le_refl _) (.cells st0.toArray 48)).grown g6 (by rw [size_alloc']; omega) (fun k e => by injection e with e; omega); have J6 := J5.under b56; have D6 := D5.under b56; refine (had w6 J6).mono ?_; rintro e w7 ⟨rfl, J7, g7⟩; clear had))
          have O45 : Only (fun k => w.heap.size ≤ k) w4 w5 := O5.mono (fun i _ h => h.elim (fun h => h.1) (fun e => by omega))
          have O67 : Only (fun k => k = gj) w6 w7 := Only.of_grown g7 (fun k e => by injection e with e; exact e.symm) (fun k e _ => by injection e with e; subst e; exact ⟨_, J6.blk.kind, by decide⟩)
          have O47 : Only (fun k => w.heap.size ≤ k) w4 w7 := (O45.trans (Only.of_below (F := fun k => w.heap.size ≤ k) b56) (fun _ _ h => h)).trans O67 (fun i _ e => by omega)
          have Or7 : Only (fun k => w.heap.size ≤ k) wo w7 := (Only.of_below b4).trans O47 (fun _ _ h => h)
          have hs5 := O45.size
          have hs6 := b56.size
          have hs7 := O47.size
          have D7 : Disk w7 gd (fun k => w.heap.size ≤ k ∧ k ≠ gj) (dkG 0 20 0 key (RL ++ recL lp)) := Disk.apart (F' := fun k => k = gj) (D6.mono (fun k _ hf => hf.elim id (fun h => ⟨by omega, by omega⟩))) O67 (fun k hf => hf.2)
          have hR7 := hR4.keep (fun bk hK => O47.kind hK (.inr dry_u8))
          have ho7 := O47.own ho4 (.inr (by decide))
          have hor7 := Or7.own hor (.inr (by decide))
          have kr7 := Or7.blk kr (.inr (by decide))
          have y7 : Below w.heap.size w w7 := hw.trans (Or7.below hwr (fun k h => h))
          have hy7 := y7.size
          clear O45 O5 O67 O47 Or7 hR4 ho4 D5 D6 J5 J6 g6 g7 k6 b56 hor kr
          go_loopw [10, 15] (fun vo ix wr => ∃ (j : Nat) (A' : Option Addr) (c' : Nat), j ≤ l.length ∧ ix = .int .i64 j ∧ vo = .slice A' (latest (fl ++ lp.take j)).length c' ∧ wr.ownsRow w.heap.size 60 2 (.slice A' (latest (fl ++ lp.take j)).length c') (latest (fl ++ lp.take j)).length (encM (latest (fl ++ lp.take j))) ∧ Below w7.heap.size w7 wr) (fun _ ix _ => l.length - (intOf ix).toNat)
          case atStart => exact ⟨0, A', c', by omega, rfl, by rw [List.take_zero, List.append_nil], by rw [List.take_zero, List.append_nil]; exact hor7, Below.refl _ _⟩
          case round =>
            clear hor7
            obtain ⟨j, A', c', hj, rfl, rfl, hor, hwr7⟩ := hrel
            by_cases hlj : j < l.length
            · have hpj : lp[j]? = some (lp[j]'(by omega)) := List.getElem?_eq_getElem (by omega)
              obtain ⟨e0, v, e1', hsl⟩ := hR7.rowI j _ hpj
              obtain ⟨A2, c2, hv, _, hrd⟩ := (hsl.under hwr7).reads
              subst hv
              have hoj := own_keep ho7 (fun bk e => hwr7.block bk (World.ownsRow.lt ho7 bk e).2)
              have q0 := World.ownsRow.cells hoj (g := g4) rfl _ _ e0
              have q1 := World.ownsRow.cells hoj (g := g4) rfl _ _ e1'
              rw [add_head, Nat.mul_comm 2 j] at q0 q1
              have htj := take_snoc lp j _ hpj
              have hll := latest_len (fl ++ lp.take j)
              have hb : (fl ++ lp.take j).length ≤ 1048575 := by rw [List.length_append, List.length_take]; omega
              generalize lp[j]'(by omega) = p at *
              obtain ⟨x, b⟩ := p
              simp only at q0 q1 hrd
              have hst : latest (fl ++ lp.take (j + 1)) = putI (latest (fl ++ lp.take j)) (x, b) := by rw [htj, ← List.append_assoc, latest_snoc]
              have hput := refPut_any A' (latest (fl ++ lp.take j)).length c' w.heap.size (latest (fl ++ lp.take j)) x b wr.drew (own_keep hor (fun _ _ => rfl)) (by omega)
              have hws := hwr7.size
              have hgl4 : g4 < wr.heap.size := (World.ownsRow.lt hoj g4 rfl).2
              have hS : ∀ W, Below wr.heap.size wr W → W.cell? ⟨g4, j * 2, none⟩ = some (.int .u64 (x : Int)) ∧ W.cell? ⟨g4, j * 2 + 1, none⟩ = some (.slice A2 b.length c2) ∧ (convert 34 9 (.slice A2 b.length c2)).run Tryd.prog W = .ok (strB b) W := fun W h => ⟨(h.cell (p := ⟨g4, j * 2, none⟩) hgl4).trans q0, (h.cell (p := ⟨g4, j * 2 + 1, none⟩) hgl4).trans q1, run_string W A2 c2 b ((hrd.below h).more h.size)⟩
              have hS0 := hS wr.drew (Below.refl _ _).drew
              have i1 : (0 : Int) ≤ (j : Int) := by omega
              have i2 : (j : Int) < (l.length : Int) := by omega
              have HS := Lib.hid hS
              have HST := Lib.hid hst
              have HTJ := Lib.hid htj
              clear hS hst htj hpj hor hll hb hsl hoj e0 e1' q0 q1 hrd
              generalize latest (fl ++ lp.take j) = L at *
              obtain ⟨q0, q1, q2⟩ := hS0
              go_wp2
              go_region_held3 (fun w' => w'.cell? ⟨g4, j * 2, none⟩ = some (.int .u64 (x : Int)) ∧ w'.cell? ⟨g4, j * 2 + 1, none⟩ = some (.slice A2 b.length c2) ∧ (convert 34 9 (.slice A2 b.length c2)).run Tryd.prog w' = .ok (strB b) w') (first | (exact ⟨q0, q1, q2⟩) | (exact hS3)) (first | (go_at_call 21; refine hput.mono ?_; rintro e w3 ⟨A3, c3, rfl, ho3, b3⟩; have hS3 := HS.out w3 ((Below.refl _ wr).drew.trans b3)))
              go_wp2
              go_roundw
              case rel => exact ⟨j + 1, A3, c3, by omega, by go_num, by rw [HST.out], by rw [HST.out]; exact ownsRow_lower ho3 (Nat.le_trans hy7 hws), hwr7.trans (((Below.refl _ wr).drew.trans b3).mono hws)⟩
              case measure => simp [intOf]; omega
            · have hps : l.length ≤ j := by omega
              have hfin : fl ++ lp.take j = (padAll (ll.take (k + 1))).flatten := by rw [List.take_of_length_le (by omega), HFS.out]
              rw [hfin] at hor
              have HF := Lib.hid hfin
              clear hfin
              go_wp2
              go_roundw
              case rel =>
                refine ⟨k + 1, A', c', by omega, by go_num, by rw [HF.out], hor, fun l' hl' => ?_, by rw [HRS.out]; exact J7.under hwr7, by rw [HRS.out]; exact D7.under hwr7, kr7.below hwr7 kr7.lt, y7.trans (hwr7.mono hy7)⟩
                rw [HTK.out] at hl'
                rcases List.mem_append.1 hl' with hl' | hl'
                · exact H4.out l' hl'
                · simp only [List.mem_singleton] at hl'
                  subst hl'
                  exact ⟨fun e => hl0 (by rw [e]; rfl), hl4'⟩
              case measure => simp [intOf]; omega
      · have hkk : k = n := by omega
        have htake : ll.take k = ll := List.take_of_length_le (by omega)
        rw [htake] at hor h4 Jr Dr ⊢
        clear htake
        clear hlt hkn
        subst hkk
        have hLL : (padAll ll).length = k := by unfold padAll; rw [List.length_map]; exact hl
        have hlen4 : ∀ l ∈ padAll ll, l ≠ [] ∧ l.length ≤ 5 := fun l hl' => by
          obtain ⟨l0, hl0, rfl⟩ := List.mem_map.1 hl'
          rw [List.length_map]
          exact ⟨fun e => (h4 l0 hl0).1 (List.map_eq_nil_iff.1 e), (h4 l0 hl0).2⟩
        have hpp : ∀ l ∈ padAll ll, ∀ p ∈ l, p.2.length = 160 ∧ p.1 < 18446744073709551616 := fun l hl' p hp => by
          obtain ⟨l0, hl0, rfl⟩ := List.mem_map.1 hl'
          obtain ⟨q, hq, rfl⟩ := List.mem_map.1 hp
          exact ⟨padB_length _ _, h64 l0 hl0 q hq⟩
        have hfl20 : (padAll ll).flatten.length ≤ 20 := by
          have h := flatten_le (padAll ll) 5 (fun x hx => (hlen4 x hx).2)
          rw [hLL] at h
          omega
        have hrl16 : (recsOf (padAll ll)).length ≤ 20 := by rw [recsOf_length]; exact hfl20
        have hp2 : ∀ p ∈ (padAll ll).flatten, p.1 < 18446744073709551616 ∧ p.2.length ≤ 1048576 := fun p hp' => by
          obtain ⟨l, hl', hpl⟩ := List.mem_flatten.1 hp'
          exact ⟨(hpp l hl' p hpl).2, by rw [(hpp l hl' p hpl).1]; omega⟩
        have hTr := hT.under hw
        have hwr := hw.size
        have hgjr := Jr.blk.lt
        have hjs := jstate_any gj gd _ wo Jr
        have hbl := fun W D T => fill_load 0 20 gd 0 key (padAll ll) (fun k => w.heap.size ≤ k ∧ k ≠ gj) W D hk hrl16 (by omega) (by omega) T (fun k hk => by omega) (fun l hl' => (hlen4 l hl').1) hpp
        clear hi hr h4 h64 hrl16
        have hrises := latest_rises (padAll ll).flatten
        have hLlen := latest_len (padAll ll).flatten
        generalize hFL : (padAll ll).flatten = fl at *
        generalize hLAT : latest fl = L at *
        have HFL := Lib.hid hFL
        have HLAT := Lib.hid hLAT
        clear hFL hLAT
        generalize padAll ll = LL at *
        have hsl := stCells_length 0 (recsOf LL).length (tagOf z32 (ring 0 20 0 key (recsOf LL)))
        rw [tagG_len] at hsl
        have hso := stCells_one 0 (recsOf LL).length (tagOf z32 (ring 0 20 0 key (recsOf LL)))
        have hjs' : Calls Tryd.prog 18 #[.pointer (some ⟨gj, 0, none⟩)] wo fun e w' => e = .returned (.tuple #[.agg (stCells 0 (recsOf LL).length (tagOf z32 (ring 0 20 0 key (recsOf LL)))).toArray, .int .u64 ((1 + (recsOf LL).length : Nat) : Int)]) ∧ Below wo.heap.size wo w' := hjs
        clear hjs
        generalize stCells 0 (recsOf LL).length (tagOf z32 (ring 0 20 0 key (recsOf LL))) = stN at *
        have HSL := Lib.hid hsl
        have HSO := Lib.hid hso
        have zi : (Tryd.prog.info? 48).map (·.size) = some stN.toArray.size := by rw [List.size_toArray, HSL.out]; kernel_rfl
        have zs : st0.toArray.size = stN.toArray.size := by rw [List.size_toArray, List.size_toArray, HSL.out]; rfl
        have ZI := Lib.hid zi
        have ZS := Lib.hid zs
        have HLL := Lib.hid hLL
        clear zi zs hsl hso hLL
        go_wp2_with (first | (go_at_call 18; refine hjs'.mono ?_; rintro e w4 ⟨rfl, b4⟩; have kr4 := kr.below b4 kr.lt; clear hjs') | ((with_reducible refine wpList_store_blk (o := ⟨none, .store 48 (.tmp 16) (.tmp 98), _, _, _, _⟩) rfl 48 (.tmp 16) (.tmp 98) rfl w4.heap.size stN.toArray rfl rfl 48 st0.toArray (Blk.new_of rfl rfl) ZI.out ZS.out HSO.out ?_); intro w5 k5 g5 s5; have S5 := Lib.hid s5; clear s5; have b45 : Below w4.heap.size w4 w5 := ((Below.refl _ w4).alloc (Nat.le_refl _) (.cells st0.toArray 48)).grown g5 (by rw [size_alloc']; omega) (fun k e => by injection e with e; omega); have kr5 := kr4.below b45 kr4.lt) | ((with_reducible refine wpList_load_blk (o := ⟨some 102, _, _, _, _, _⟩) rfl 39 _ rfl w.heap.size rfl 39 _ _ kr5 Tryd.underlying39 rfl (by rw [Z1.out]; kernel_rfl) ?_)) | ((with_reducible refine wpList_load_blk (o := ⟨some 103, _, _, _, _, _⟩) rfl 48 _ rfl w4.heap.size rfl 48 _ _ k5 Tryd.underlying48 rfl ZI.out ?_)))
        have b5 : Below wo.heap.size wo w5 := b4.trans (b45.mono b4.size)
        have hs5 := b5.size
        have hor5 := own_keep hor (fun bk e => b5.block bk (World.ownsRow.lt hor bk e).2)
        have hbl5 := hbl w5 (Dr.under b5) (hTr.under b5)
        have y5 : Below w.heap.size w w5 := hw.trans (b5.mono hwr)
        clear hbl hor kr kr4 kr5 k5 g5 Dr Jr
        rw [HLL.out] at hbl5
        go_wp2_with (first | (go_at_call 19; refine hbl5.mono ?_; rintro e w6 ⟨⟨v6, ys6, rfl, ho6, hC6⟩, O6⟩; obtain ⟨A6, c6, rfl⟩ := own_shape ho6; have hs6 := O6.size; have hor6 := O6.own hor5 (.inr (by decide)); have y6 : Below w.heap.size w w6 := y5.trans (O6.below y5.size (fun k h => h.1)); have hlt6 := latest_any A6 k c6 ys6 LL w6 (Reads.of_own ho6) (own_spot ho6) HLL.out hC6 (by omega) (by rw [HFL.out]; omega) (by rw [HFL.out]; exact hp2); rw [HFL.out, HLAT.out] at hlt6; clear hbl5 hor5) | (go_at_call 11; refine hlt6.mono ?_; rintro e w7 ⟨A7, c7, ys7, rfl, ho7, hR7, b7⟩; have hs7 := b7.size; have hor7 := own_keep hor6 (fun bk e => b7.block bk (World.ownsRow.lt hor6 bk e).2); have y7 : Below w.heap.size w w7 := y6.trans (b7.mono y6.size); clear hlt6))
        clear O6 ho6 hC6 hp2 hpp hlen4 b5 b45 b4
        go_loopw [21] (fun ix wr => ∃ (i j m : Nat), j = i + 1 ∧ i ≤ L.length ∧ ix = .int .i64 (j : Int) ∧ wr = w7.drewN m) (fun ix _ => L.length + 1 - (intOf ix).toNat)
        case atStart => exact ⟨0, 1, 0, rfl, by omega, rfl, rfl⟩
        case round =>
          obtain ⟨i, j, m, hji, hiL, rfl, rfl⟩ := hrel
          by_cases hlj : j < L.length
          · have hpi : L[i]? = some (L[i]'(by omega)) := List.getElem?_eq_getElem (by omega)
            have hpj : L[j]? = some (L[j]'(by omega)) := List.getElem?_eq_getElem (by omega)
            have hrj := List.pairwise_iff_getElem.1 hrises i j (by omega) (by omega) (by omega)
            obtain ⟨g7, c7', hv7, _, hg7l⟩ := ho7.form (by omega)
            injection hv7 with hA7 _ hc7
            subst hA7
            have e0 := (hR7.rowI i _ hpi).1
            have e1 := (hR7.rowI j _ hpj).1
            have q0 := World.ownsRow.cells ho7 (g := g7) rfl _ _ e0
            have q1 := World.ownsRow.cells ho7 (g := g7) rfl _ _ e1
            rw [add_head, Nat.mul_comm 2] at q0 q1
            generalize (L[i]'(by omega)).1 = x at *
            generalize (L[j]'(by omega)).1 = y at *
            have q0 : (w7.drewN (m + 1)).cell? ⟨g7, i * 2, none⟩ = some (.int .u64 (x : Int)) := q0
            have q1 : (w7.drewN (m + 1)).cell? ⟨g7, j * 2, none⟩ = some (.int .u64 (y : Int)) := q1
            have hsb : (j : Int) - 1 = (i : Int) := by omega
            have hsw : IntKind.i64.wrap (i : Int) = (i : Int) := by rw [IntKind.wrap_i64]; omega
            have i1 : (0 : Int) ≤ (i : Int) := by omega
            have i2 : (i : Int) < (L.length : Int) := by omega
            have i3 : (0 : Int) ≤ (j : Int) := by omega
            have i4 : (j : Int) < (L.length : Int) := by omega
            have dge : ¬ (y : Int) ≤ (x : Int) := by omega
            have dge2 : ¬ y ≤ x := by omega
            have dge3 : decide ((y : Int) ≤ (x : Int)) = false := decide_eq_false dge
            have HJI := Lib.hid hji
            clear e0 e1 hpi hpj hji hc7
            go_wp2
            go_region_held3 (fun w' => w'.cell? ⟨g7, i * 2, none⟩ = some (.int .u64 (x : Int)) ∧ w'.cell? ⟨g7, j * 2, none⟩ = some (.int .u64 (y : Int))) (exact ⟨q0, q1⟩) (fail)
            go_wp2
            go_roundw
            case rel => exact ⟨j, j + 1, m + 1, rfl, by omega, by go_num, rfl⟩
            case measure => have := HJI.out; simp [intOf]; omega
          · have hps : L.length ≤ j := by omega
            have yr : Below w.heap.size w (w7.drewN m) := below_drewN y7 m
            have hor8 : (w7.drewN m).ownsRow w.heap.size 60 2 (.slice A' L.length c') L.length (encM L) := own_keep hor7 (fun _ _ => rfl)
            have ho8 : (w7.drewN m).ownsRow w6.heap.size 36 2 (.slice A7 L.length c7) L.length ys7 := own_keep ho7 (fun _ _ => rfl)
            have hR8 : RowI (w7.drewN m) ys7 L := hR7.rowI.under (below_drewN (Below.refl _ _) m)
            have hmo := modelOf_any A7 L.length c7 ys7 L (w7.drewN m) (Reads.of_own ho8) (own_spot ho8) rfl hR8 (by omega)
            have hyr := yr.size
            have HJI := Lib.hid hji
            generalize w7.drewN m = w8 at *
            clear hji ho7 hR7 hor7 ho8 hR8
            go_wp2_with (first | (go_at_call 13; refine hmo.mono ?_; rintro e w9 ⟨A9, c9, rfl, ho9, b9⟩; have hor9 := own_keep hor8 (fun bk e => b9.block bk (World.ownsRow.lt hor8 bk e).2); have hsm := same_yes A9 A' L.length c9 c' _ _ L w9 ho9 hor9 (by omega); clear hmo) | (go_at_call 12; refine hsm.mono ?_; rintro e w10 ⟨rfl, q10, rfl⟩; clear hsm))
            go_ret
            exact ⟨rfl, yr.trans ((below_drewN b9 q10).mono hyr)⟩
end Go.Proofs.YtkhebllmnagkmaaDoor
