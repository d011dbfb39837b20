/- Contracts and lemmas under the statements of this seat, one behind the other. Conditions: what each names. -/
import Derived.Test.YtkhebllmnagkmaaDoorG22
import Derived.Test.YtkhebllmnagkmaaDoorG19
/- The law ReplayRolls, walked: it returns true. Conditions: the arguments read as a key and two images, the tables lie in memory. -/
namespace Go.Proofs.YtkhebllmnagkmaaDoor
open Go.RowKit
set_option linter.unusedVariables false
attribute [local irreducible] sealB linkB recB slotR

theorem own_some {w : World} {base : Nat} {e : TypeId} {size n c : Nat} {A : Option Addr} {xs : List Value} (h : w.ownsRow base e size (.slice A n c) n xs) (hn : 0 < n) : ∃ g, A = some ⟨g, 0, none⟩ ∧ base ≤ g ∧ g < w.heap.size ∧ n ≤ c := by
  rcases h.2 with ⟨_, h0⟩ | ⟨g, cap, cur, hv, hg, hh, hc, _⟩
  · omega
  · injection hv with hA _ hc'
    exact ⟨g, hA, hg, (Array.getElem?_eq_some_iff.1 hh).1, by omega⟩
theorem Reads.head {w : World} {B size n : Nat} {A : Option Addr} {xs : List Value} (h : Reads w B size A n xs) {k : Nat} (hk : k ≤ n) : Reads w B size A k (xs.take (k * size)) := by
  have hm : k * size ≤ n * size := Nat.mul_le_mul_right _ hk
  refine ⟨by rw [List.length_take, h.1]; omega, fun hn => ?_⟩
  obtain ⟨ad, e, hb, hc⟩ := h.2 (by omega)
  refine ⟨ad, e, hb, fun j u hu => hc j u ?_⟩
  rw [List.getElem?_take] at hu
  split at hu
  · exact hu
  · cases hu
theorem RowI.head {w : World} {xs : List Value} {p q : Img} (h : RowI w xs [p, q]) : RowI w (xs.take (1 * 2)) [p] := by
  intro i r hr
  have hi : i = 0 := by have := (List.getElem?_eq_some_iff.1 hr).1; simpa using this
  subst hi
  obtain ⟨h0, v, h1, h2⟩ := h 0 r (by simpa using hr)
  exact ⟨by rw [List.getElem?_take, if_pos (by omega)]; exact h0, v, by rw [List.getElem?_take, if_pos (by omega)]; exact h1, h2⟩
theorem RowI.rest {w : World} {xs : List Value} {p q : Img} (h : RowI w xs [p, q]) : RowI w (xs.drop (1 * 2)) [q] := by
  intro i r hr
  have hi : i = 0 := by have := (List.getElem?_eq_some_iff.1 hr).1; simpa using this
  subst hi
  obtain ⟨h0, v, h1, h2⟩ := h 1 r (by simpa using hr)
  exact ⟨by rw [List.getElem?_drop]; exact h0, v, by rw [List.getElem?_drop]; exact h1, h2⟩
set_option maxRecDepth 100000 in
set_option maxHeartbeats 8000000 in
theorem replayRolls_any (key : List UInt8) (a b : Img) (A1 A2 : Option Addr) (c1 c2 : Nat) (w : World) (hk : key.length = 32) (hr1 : Reads w w.heap.size 1 A1 a.2.length (bs a.2)) (hc1 : a.2.length ≤ c1) (h641 : a.1 < 18446744073709551616) (hr2 : Reads w w.heap.size 1 A2 b.2.length (bs b.2)) (hc2 : b.2.length ≤ c2) (h642 : b.1 < 18446744073709551616) (hT : Tabs w) :
    Calls Tryd.prog 6 #[.agg (bs key).toArray, .agg #[.int .u64 (a.1 : Int), .slice A1 a.2.length c1], .agg #[.int .u64 (b.1 : Int), .slice A2 b.2.length c2]] w fun e w' => e = .returned (.bool true) ∧ Below w.heap.size w w' := by
  obtain ⟨W0, hW0⟩ : ∃ W0 : World, W0 = ((w.alloc (.cells (bs key).toArray 39)).alloc (.cells #[.int .u64 (a.1 : Int), .slice A1 a.2.length c1] 36)).alloc (.cells #[.int .u64 (b.1 : Int), .slice A2 b.2.length c2] 36) := ⟨_, rfl⟩
  have y0 : Below w.heap.size w W0 := by rw [hW0]; exact (((Below.refl _ _).alloc (Nat.le_refl _) _).alloc (by simp) _).alloc (by simp; omega) _
  have kk0 : Blk W0 w.heap.size 39 (bs key).toArray := by rw [hW0]; exact ((Blk.new_of rfl rfl).alloc _).alloc _
  have ka0 : Blk W0 (w.heap.size + 1) 36 #[.int .u64 (a.1 : Int), .slice A1 a.2.length c1] := by rw [hW0]; exact (Blk.new_of (by simp) rfl).alloc _
  have kb0 : Blk W0 (w.heap.size + 2) 36 #[.int .u64 (b.1 : Int), .slice A2 b.2.length c2] := by rw [hW0]; exact Blk.new_of (by simp) rfl
  have haw := awake_any W0 (hT.under y0)
  have hTs := hT.size
  rw [hW0] at haw
  have z1 : (bs key).toArray.size = 32 := by simp [bs_length, hk]
  have Z1 := Lib.hid z1
  have HW0 := Lib.hid hW0
  have hjn := fun gd F W h => jnew_any gd F (dkR (List.replicate 3 zeros192) [] 0) (jrR key 1) W h hk z32_length (by show 1 ≤ 3; omega) (by show 0 + 3 ≤ 3; omega) (by show 3 ≤ 1048576; omega) (by show 0 < 3; omega) (by show 0 ≤ 3; omega) (by show 1 ≤ 1; omega) (by show 100 ≤ 9223372036854775807; omega)
  clear hW0 z1
  go_enter Tryd.func6, Tryd.ntmps6
  go_wp2_with (first | (go_at_call 7; refine haw.mono ?_; rintro e w1 ⟨rfl, b1⟩; rw [← HW0.out] at b1; have y1 := y0.trans (b1.mono y0.size); have k1 := kk0.below b1 kk0.lt; have ka1 := ka0.below b1 ka0.lt; have kb1 := kb0.below b1 kb0.lt; have hd := dnew_any 3 w1 (by omega) (by omega); clear haw) | (go_at_call 14; refine hd.mono ?_; rintro e w2 ⟨rfl, D2', b2⟩; have y2 := y1.trans (b2.mono y1.size); have k2 := k1.below b2 k1.lt; have ka2 := ka1.below b2 ka1.lt; have kb2 := kb1.below b2 kb1.lt; clear hd) | ((with_reducible refine wpList_load_blk (o := ⟨some 32, _, _, _, _, _⟩) rfl 39 _ rfl w.heap.size rfl 39 _ _ k2 Tryd.underlying39 rfl (by rw [Z1.out]; kernel_rfl) ?_)) | (go_at_call 15; refine (hjn w1.heap.size _ _ D2').mono ?_; rintro e w3 ⟨gj, rfl, hgj, J3, b3⟩; have y3 := y2.trans (b3.mono y2.size); have k3 := k2.below b3 k2.lt; have ka3 := ka2.below b3 ka2.lt; have kb3 := kb2.below b3 kb2.lt; have hgl := J3.blk.lt; have hs1 := y1.size; have hs2 := b2.size; have D3 : Disk w3 w1.heap.size (fun k => w.heap.size ≤ k ∧ k ≠ gj) (dkR (List.replicate 3 zeros192) [] 0) := (D2'.bound.under b3).mono (fun k hk hf => ⟨by omega, by omega⟩); clear hjn D2' k1 k2 ka1 ka2 kb1 kb2) | ((with_reducible refine wpList_load_blk (o := ⟨some 39, _, _, _, _, _⟩) rfl 36 _ rfl (w.heap.size + 1) rfl 36 _ _ ka3 Tryd.underlying36 rfl (by kernel_rfl) ?_)) | ((with_reducible refine wpList_load_blk (o := ⟨some 40, _, _, _, _, _⟩) rfl 36 _ rfl (w.heap.size + 2) rfl 36 _ _ kb3 Tryd.underlying36 rfl (by kernel_rfl) ?_)))
  generalize w1.heap.size = gd at *
  obtain ⟨Wx, hWx⟩ : ∃ Wx : World, Wx = w3.alloc (.cells #[.int .u64 (a.1 : Int), .slice A1 a.2.length c1, .int .u64 (b.1 : Int), .slice A2 b.2.length c2] 36) := ⟨_, rfl⟩
  have hsx : Wx.heap.size = w3.heap.size + 1 := by rw [hWx, size_alloc']
  have bx : Below w3.heap.size w3 Wx := by rw [hWx]; exact (Below.refl _ _).alloc (Nat.le_refl _) _
  have yx : Below w.heap.size w Wx := y3.trans (bx.mono y3.size)
  have kx : Blk Wx w3.heap.size 36 ([.int .u64 (a.1 : Int), .slice A1 a.2.length c1, .int .u64 (b.1 : Int), .slice A2 b.2.length c2] : List Value).toArray := by rw [hWx]; exact Blk.new_of rfl rfl
  have him := images_any (some ⟨w3.heap.size, 0, none⟩) 2 2 [.int .u64 (a.1 : Int), .slice A1 a.2.length c1, .int .u64 (b.1 : Int), .slice A2 b.2.length c2] [a, b] Wx (Blk.rows 2 2 kx rfl) rfl (by
    intro i p hp
    match i, hp with
    | 0, hp =>
      simp only [List.getElem?_cons_zero, Option.some.injEq] at hp
      subst hp
      exact ⟨rfl, A1, c1, rfl, hc1, (hr1.below yx).more yx.size⟩
    | 1, hp =>
      simp only [List.getElem?_cons_succ, List.getElem?_cons_zero, Option.some.injEq] at hp
      subst hp
      exact ⟨rfl, A2, c2, rfl, hc2, (hr2.below yx).more yx.size⟩
    | n + 2, hp => simp at hp) (by omega)
  rw [hWx] at him
  have k3' := k3.below bx k3.lt
  have Jx := J3.under bx
  have Dx := D3.under bx
  have HWX := Lib.hid hWx
  have hx1 := hgl
  have pa : (imgPad a).2.length = 160 := padB_length _ _
  have pb : (imgPad b).2.length = 160 := padB_length _ _
  have pa64 : (imgPad a).1 < 18446744073709551616 := h641
  have pb64 : (imgPad b).1 < 18446744073709551616 := h642
  have hsne := slotR_ne key (imgPad a) (imgPad b) pa pb
  have sl1 := slotR_length key 1 (imgPad a)
  have sl2 := slotR_length key 2 (imgPad b)
  have hfirst : ([a, b].map imgPad) = [imgPad a, imgPad b] := rfl
  have HFI := Lib.hid hfirst
  clear hWx J3 D3 k3 ka3 kb3 kx hfirst hr1 hr2 hc1 hc2 h641 h642 kk0 ka0 kb0 hgl
  generalize imgPad a = ia at *
  generalize imgPad b = ib at *
  have hap := fun gx c xs W F hJ hD hF hr hi hT hF2 => rolls_append gj gd 1 0 key (List.replicate 3 zeros192) F gx 0 c xs ia W hJ hD hF rfl hr hi pa pa64 (by omega) (by omega) (by omega) hT (by omega) hF2
  have hap2 := fun gx c xs W F hJ hD hF hr hi hT hF2 => rolls_append gj gd 2 2 key (oneR (slotR key 1 ia)) F gx 2 c xs ib W hJ hD hF rfl hr hi pb pb64 (by omega) (by omega) (by omega) hT (by omega) hF2
  have hlo1 := fun W F stag hD ht hT hF2 => rolls_load gd 1 4 key stag ia F W hD hk ht pa pa64 (by omega) (by omega) (by omega) hT hF2
  have hlo2 := fun W F stag hD ht hT hF2 => rolls_load gd 1 5 key stag ia F W hD hk ht pa pa64 (by omega) (by omega) (by omega) hT hF2
  generalize slotR key 1 ia = s1 at *
  generalize slotR key 2 ib = s2 at *
  have hst1l : (stCells 0 1 (linkB z32 0 s1)).toArray.size = 34 := by rw [List.size_toArray, stCells_length, linkB_length]
  have hst2l : (stCells 0 1 (linkB z32 0 s2)).toArray.size = 34 := by rw [List.size_toArray, stCells_length, linkB_length]
  have hst1o := stCells_one 0 1 (linkB z32 0 s1)
  have hst2o := stCells_one 0 1 (linkB z32 0 s2)
  have hz0 : st0.toArray.size = 34 := rfl
  have l1 := linkB_length z32 0 s1
  have l2 := linkB_length z32 0 s2
  generalize hL1 : linkB z32 0 s1 = lk1 at *
  generalize hL2 : linkB z32 0 s2 = lk2 at *
  have zi1 : (Tryd.prog.info? 48).map (·.size) = some (stCells 0 1 lk1).toArray.size := by rw [hst1l]; kernel_rfl
  have zi2 : (Tryd.prog.info? 48).map (·.size) = some (stCells 0 1 lk2).toArray.size := by rw [hst2l]; kernel_rfl
  have zs1 : st0.toArray.size = (stCells 0 1 lk1).toArray.size := by rw [hst1l, hz0]
  have zs2 : st0.toArray.size = (stCells 0 1 lk2).toArray.size := by rw [hst2l, hz0]
  have ZI1 := Lib.hid zi1
  have ZI2 := Lib.hid zi2
  have ZS1 := Lib.hid zs1
  have ZS2 := Lib.hid zs2
  clear zi1 zi2 zs1 zs2 hst1l hst2l hz0
  have HL1 := Lib.hid hL1
  have HL2 := Lib.hid hL2
  clear hL1 hL2
  go_wp2_with (first | (go_at_call 8; refine him.mono ?_; rintro e w4 ⟨A4, c4, ys4, rfl, ho4, hR4, b4⟩; rw [← HWX.out] at b4 ho4 hR4; rw [HFI.out] at hR4; obtain ⟨gx, rfl, hgx, hgxl, hc4⟩ := own_some ho4 (by omega); have hcc : (1 : Int) ≤ (c4 : Int) := (by omega); clear him; have rx := Reads.of_own ho4; have Rx := hR4.rowI; have J4 := Jx.under b4; have D4 := Dx.under b4; have y4 := yx.trans (b4.mono yx.size); have k4 := k3'.below b4 k3'.lt; have hap' := hap gx c4 _ w4 _ J4 D4 (fun h => h.2 rfl) (rx.head (by omega)) Rx.head (hT.under y4) (fun k hk => by omega)) | (go_at_call 16; refine hap'.mono ?_; rintro e w5 ⟨rfl, J5, D5, O5⟩; clear hap') | ((with_reducible refine wpList_store_blk (o := ⟨none, .store 48 (.tmp 13) (.tmp 48), _, _, _, _⟩) rfl 48 (.tmp 13) (.tmp 48) rfl w5.heap.size (stCells 0 1 lk1).toArray rfl rfl 48 st0.toArray (Blk.new_of rfl rfl) ZI1.out ZS1.out hst1o ?_); intro w6 k6 g6 s6; have S6 := Lib.hid s6; clear s6))
  have b56 : Below w5.heap.size w5 w6 := ((Below.refl _ w5).alloc (Nat.le_refl _) (.cells st0.toArray 48)).grown g6 (by rw [size_alloc']; omega) (fun k e => by injection e with e; omega)
  have hw4 := y4.size
  have O46 : Only (fun k => w.heap.size ≤ k) w4 w6 := (O5.mono (fun i _ h => h.elim (fun h => h.1) (fun e => by omega))).trans (Only.of_below (F := fun k => w.heap.size ≤ k) b56) (fun _ _ h => h)
  have y6 : Below w.heap.size w w6 := y4.trans (O46.below hw4 (fun k h => h))
  have J6 : JAt w6 gj gd (jrR key 2) := J5.under b56
  have D6 : Disk w6 gd (fun k => w.heap.size ≤ k ∧ k ≠ gj) (dkR (List.replicate 3 zeros192) [(0, s1)] 1) := (D5.under b56).mono (fun k _ hf => hf.elim id (fun h => ⟨by omega, by omega⟩))
  have k6k := O46.blk k4 (.inr (by decide))
  have o6x := O46.own ho4 (.inr (by decide))
  have R6 : RowI w6 ys4 [ia, ib] := Rx.keep O46.size (fun k hK => O46.kind hK (.inr dry_u8))
  obtain ⟨gs, hgs⟩ : ∃ gs, gs = w5.heap.size := ⟨_, rfl⟩
  have hgsl : w4.heap.size ≤ gs := by rw [hgs]; exact O5.size
  rw [← hgs] at k6
  rw [← hgs]
  have s46 := O46.size
  clear b56 O46 O5 D5 J5 g6 k4 ho4 hR4 Rx rx J4 D4 S6 b4 Jx Dx k3' hap hgs
  have hfl := dflush_any gd _ _ w6 D6 rfl (fun p hp => by simp only [dkR, List.mem_singleton] at hp; rw [hp]; show 0 < 3; omega) (by show 1 ≤ 1048576; omega) (by show 1 ≤ 1048576; omega) (by show 3 ≤ 1048576; omega)
  go_wp2_with (first | (go_at_call 22; refine hfl.mono ?_; rintro e w7 ⟨rfl, D7', O7⟩; clear hfl))
  have D7 : Disk w7 gd (fun k => w.heap.size ≤ k ∧ k ≠ gj) (dkR (oneR s1) [] 2) := D7'.mono (fun k _ hf => hf.elim id (fun h => ⟨by omega, by omega⟩))
  have s67 := O7.size
  have y7 : Below w.heap.size w w7 := y6.trans (O7.below y6.size (fun k h => h.1))
  have J7 := J6.only O7 (fun h => h.2 rfl)
  have k7k := O7.blk k6k (.inr (by decide))
  have k7 := O7.blk k6 (.inr (by decide))
  have o7x := O7.own o6x (.inr (by decide))
  have R7 : RowI w7 ys4 [ia, ib] := R6.keep O7.size (fun k hK => O7.kind hK (.inr dry_u8))
  have him2 := dimage_any gd _ _ w7 D7 (oneR_192 s1 sl1) (by show 3 ≤ 1048576; omega)
  have hlen3 : (dkR (oneR s1) [] 2).places.length = 3 := rfl
  rw [hlen3] at him2
  clear D7' O7 D6 J6 k6k k6 o6x R6 hlen3
  go_wp2_with (first | (go_at_call 23; refine him2.mono ?_; rintro e w8 ⟨v8, ys8, rfl, ho8, hB8, b8⟩; obtain ⟨A8, c8, rfl⟩ := own_shape ho8; obtain ⟨go, rfl, hgo, hgol, hc8⟩ := own_some ho8 (by omega); clear him2; have D8 : Disk w8 gd (fun k => w.heap.size ≤ k ∧ k ≠ gj ∧ k ≠ go) (dkR (oneR s1) [] 2) := (D7.bound.under b8).mono (fun k _ hf => ⟨hf.1.1, hf.1.2, by omega⟩); have hrn := drestore_nil gd _ _ w8 D8 (by show 0 < 3; omega)) | (go_at_call 24; refine hrn.mono ?_; rintro e w8' ⟨rfl, rfl⟩; clear hrn; have s78 := b8.size; have y8 := y7.trans (b8.mono y7.size); have J8 := J7.under b8; have k8k := k7k.below b8 k7k.lt; have k8 := k7.below b8 k7.lt; have o8x := own_keep o7x (fun k e => b8.block k (World.ownsRow.lt o7x k e).2); have R8 := R7.under b8; clear D7 J7 k7k k7 o7x R7 b8; have r8 : Reads w8 w8.heap.size 2 (some ⟨gx, 2, none⟩) 1 (ys4.drop (1 * 2)) := (by have h := (Reads.of_own o8x).cut (k := 1) (cap := c4) (by omega) hc4; rw [if_neg (by omega)] at h; simpa [Addr.add] using h); have hap' := hap2 gx (c4 - 1) _ w8 _ J8 D8 (fun h => h.2.1 rfl) r8 R8.rest (hT.under y8) (fun k hk => by omega); clear hap2))
  go_wp2_with (first | (go_at_call 16; refine hap'.mono ?_; rintro e w9 ⟨rfl, J9, D9, O9⟩; clear hap') | ((with_reducible refine wpList_store_blk (o := ⟨none, .store 48 (.tmp 16) (.tmp 61), _, _, _, _⟩) rfl 48 (.tmp 16) (.tmp 61) rfl w9.heap.size (stCells 0 1 lk2).toArray rfl rfl 48 st0.toArray (Blk.new_of rfl rfl) ZI2.out ZS2.out hst2o ?_); intro w10 k10 g10 s10; have S10 := Lib.hid s10; clear s10))
  have b910 : Below w9.heap.size w9 w10 := ((Below.refl _ w9).alloc (Nat.le_refl _) (.cells st0.toArray 48)).grown g10 (by rw [size_alloc']; omega) (fun k e => by injection e with e; omega)
  have hw8 := y8.size
  have O810 : Only (fun k => w.heap.size ≤ k ∧ k ≠ go) w8 w10 := (O9.mono (fun i _ h => h.elim (fun h => ⟨h.1, h.2.2⟩) (fun e => ⟨by omega, by omega⟩))).trans (Only.of_below (F := fun k => w.heap.size ≤ k ∧ k ≠ go) b910) (fun _ _ h => h)
  have y10 : Below w.heap.size w w10 := y8.trans (O810.below hw8 (fun k h => h.1))
  have D10 : Disk w10 gd (fun k => w.heap.size ≤ k ∧ k ≠ gj ∧ k ≠ go) (dkR (oneR s1) [(0, s2)] 3) := (D9.under b910).mono (fun k _ hf => hf.elim id (fun h => ⟨by omega, by omega, by omega⟩))
  have k10k := O810.blk k8k (.inr (by decide))
  have k10s := O810.blk k8 (.inr (by decide))
  have o10 := O810.own ho8 (.inl (fun k e h => by injection e with e; exact h.2 e.symm))
  have B10 : RowB w10 ys8 (oneR s1) := RowB.keep hB8 O810.size (fun k hK => O810.kind hK (.inr dry_u8))
  have s810 := O810.size
  obtain ⟨gt, hgt⟩ : ∃ gt, gt = w9.heap.size := ⟨_, rfl⟩
  rw [← hgt] at k10
  rw [← hgt]
  clear b910 O810 O9 D9 J9 g10 k8k k8 ho8 hB8 o8x R8 r8 S10 D8 J8 hgt
  have hfl := dflush_any gd _ _ w10 D10 rfl (fun p hp => by simp only [dkR, List.mem_singleton] at hp; rw [hp]; show 0 < 3; omega) (by show 1 ≤ 1048576; omega) (by show 3 ≤ 1048576; omega) (by show 3 ≤ 1048576; omega)
  go_wp2_with (first | (go_at_call 22; refine hfl.mono ?_; rintro e w11 ⟨rfl, D11', O11⟩; clear hfl))
  have D11 : Disk w11 gd (fun k => w.heap.size ≤ k ∧ k ≠ gj ∧ k ≠ go) (dkR (oneR s2) [] 4) := D11'.mono (fun k _ hf => hf.elim id (fun h => ⟨by have := y10.size; omega, by omega, by omega⟩))
  have s1011 := O11.size
  have y11 : Below w.heap.size w w11 := y10.trans (O11.below y10.size (fun k h => h.1))
  have k11k := O11.blk k10k (.inr (by decide))
  have k11s := O11.blk k10s (.inr (by decide))
  have k11t := O11.blk k10 (.inr (by decide))
  have o11 := O11.own o10 (.inl (fun k e h => by injection e with e; exact h.2.2 e.symm))
  have B11 : RowB w11 ys8 (oneR s1) := B10.keep O11.size (fun k hK => O11.kind hK (.inr dry_u8))
  have him3 := dimage_any gd _ _ w11 D11 (oneR_192 s2 sl2) (by show 3 ≤ 1048576; omega)
  have hlen3 : (dkR (oneR s2) [] 4).places.length = 3 := rfl
  rw [hlen3] at him3
  clear D11' O11 D10 k10k k10s k10 o10 B10 hlen3
  go_wp2_with (first | (go_at_call 23; refine him3.mono ?_; rintro e w12 ⟨v12, ys12, rfl, ho12, hB12, b12⟩; obtain ⟨A12, c12, rfl⟩ := own_shape ho12; obtain ⟨gn, rfl, hgn, hgnl, hc12⟩ := own_some ho12 (by omega); clear him3))
  have D12 : Disk w12 gd (fun k => w.heap.size ≤ k ∧ k ≠ gj ∧ k ≠ go ∧ k ≠ gn) (dkR (oneR s2) [] 4) := (D11.bound.under b12).mono (fun k _ hf => ⟨hf.1.1, hf.1.2.1, hf.1.2.2, by omega⟩)
  have s1112 := b12.size
  have y12 := y11.trans (b12.mono y11.size)
  have k12k := k11k.below b12 k11k.lt
  have k12s := k11s.below b12 k11s.lt
  have k12t := k11t.below b12 k11t.lt
  have o12 := own_keep o11 (fun k e => b12.block k (World.ownsRow.lt o11 k e).2)
  have B12 : RowB w12 ys8 (oneR s1) := B11.keep b12.size (fun k hK => b12.block k hK.lt)
  have hre := rolls_restore gd go c8 4 _ s1 s2 _ ys8 w12 D12 o12 B12 sl1 (fun h => h.2.2.1 rfl)
  clear D11 k11k k11s k11t o11 B11 b12
  go_wp2_with (first | (go_at_call 24; refine hre.mono ?_; rintro e w13 ⟨rfl, D13, O13⟩; clear hre; have k13k := O13.blk k12k (.inr (by decide)); have k13t := O13.blk k12t (.inr (by decide))) | ((with_reducible refine wpList_load_blk (o := ⟨some 72, _, _, _, _, _⟩) rfl 39 _ rfl w.heap.size rfl 39 _ _ k13k Tryd.underlying39 rfl (by rw [Z1.out]; kernel_rfl) ?_)) | ((with_reducible refine wpList_load_blk (o := ⟨some 73, _, _, _, _, _⟩) rfl 48 _ rfl gt rfl 48 _ _ k13t Tryd.underlying48 rfl ZI2.out ?_)))
  have s1213 := O13.size
  have y13 : Below w.heap.size w w13 := y12.trans (O13.below y12.size (fun k h => h.1))
  have k13s := O13.blk k12s (.inr (by decide))
  have o13 := O13.own o12 (.inl (fun k e h => by injection e with e; exact h.2.2.1 e.symm))
  have B13 : RowB w13 ys8 (oneR s1) := B12.keep O13.size (fun k hK => O13.kind hK (.inr dry_u8))
  have n13 := O13.own ho12 (.inl (fun k e h => by injection e with e; exact h.2.2.2 e.symm))
  have C13 : RowB w13 ys12 (oneR s2) := RowB.keep hB12 O13.size (fun k hK => O13.kind hK (.inr dry_u8))
  have hl1 := hlo1 w13 _ lk2 D13 l2 (hT.under y13) (fun k hk => by omega)
  clear O13 k12k k12t k12s o12 B12 ho12 hB12 D12 hlo1
  have hl2 := fun W (hy : Below w.heap.size w W) hD => hlo2 W (fun k => w.heap.size ≤ k ∧ k ≠ gj ∧ k ≠ go ∧ k ≠ gn) lk1 hD l1 (hT.under hy) (fun k hk => by omega)
  clear hlo2
  by_cases hlk : lk1 = lk2
  · have hl1' : Calls Tryd.prog 19 #[.pointer (some ⟨gd, 0, none⟩), .agg (bs key).toArray, .int .i64 0, .int .i64 3, .agg (stCells 0 1 lk2).toArray] w13 fun e w' => (∃ A c, e = .returned (.tuple #[.slice A 1 c, .int .i64 0])) ∧ Disk w' gd (fun k => w.heap.size ≤ k ∧ k ≠ gj ∧ k ≠ go ∧ k ≠ gn) (dkR (oneR s1) [] 5) ∧ Only (fun k => w.heap.size ≤ k ∧ k ≠ gj ∧ k ≠ go ∧ k ≠ gn) w13 w' := hl1.mono fun e w' ⟨h1, h2, h3⟩ => ⟨h1.elim (fun h => absurd hlk h.1) (fun h => h.2), h2.mono (fun k _ hf => hf.elim id (fun h => ⟨by have := y13.size; omega, by omega, by omega, by omega⟩)), h3⟩
    have HLK := Lib.hid hlk
    clear hl1 hlk
    go_wp2_with (first | (go_at_call 19; refine hl1'.mono ?_; rintro e w14 ⟨⟨A14, c14, rfl⟩, D14, O14⟩; clear hl1'; have k14k := O14.blk k13k (.inr (by decide)); have k14s := O14.blk k13s (.inr (by decide)); have y14 : Below w.heap.size w w14 := y13.trans (O14.below y13.size (fun k h => h.1)); have hl2' := hl2 w14 y14 D14; clear hl2) | ((with_reducible refine wpList_load_blk (o := ⟨some 79, _, _, _, _, _⟩) rfl 39 _ rfl w.heap.size rfl 39 _ _ k14k Tryd.underlying39 rfl (by rw [Z1.out]; kernel_rfl) ?_)) | ((with_reducible refine wpList_load_blk (o := ⟨some 80, _, _, _, _, _⟩) rfl 48 _ rfl gs rfl 48 _ _ k14s Tryd.underlying48 rfl ZI1.out ?_)) | (go_at_call 19; refine hl2'.mono ?_; rintro e w15 ⟨⟨h1, _⟩ | ⟨_, A15, c15, rfl⟩, D15, O15⟩; exact absurd rfl h1; clear hl2'))
    have y15 : Below w.heap.size w w15 := y14.trans (O15.below y14.size (fun k h => h.1))
    have O1315 : Only (fun k => w.heap.size ≤ k ∧ k ≠ gj ∧ k ≠ go ∧ k ≠ gn) w13 w15 := O14.trans O15 (fun _ _ h => h)
    have o15 := O1315.own o13 (.inl (fun k e h => by injection e with e; exact h.2.2.1 e.symm))
    have B15 : RowB w15 ys8 (oneR s1) := B13.keep O1315.size (fun k hK => O1315.kind hK (.inr dry_u8))
    have n15 := O1315.own n13 (.inl (fun k e h => by injection e with e; exact h.2.2.2 e.symm))
    have C15 : RowB w15 ys12 (oneR s2) := C13.keep O1315.size (fun k hK => O1315.kind hK (.inr dry_u8))
    obtain ⟨v1, hv1, Ao, co, rfl, hco, ro, Ko⟩ := B15 0 s1 rfl
    obtain ⟨v2, hv2, An, cn, rfl, hcn, rn, Kn⟩ := C15 0 s2 rfl
    have e1 := (Reads.of_own o15).2 (by omega)
    have e2 := (Reads.of_own n15).2 (by omega)
    obtain ⟨ad1, ha1, hb1, hcell1⟩ := e1
    obtain ⟨ad2, ha2, hb2, hcell2⟩ := e2
    injection ha1 with ha1
    injection ha2 with ha2
    subst ha1 ha2
    have q1 : w15.cell? ⟨go, 0, none⟩ = some (.slice Ao s1.length co) := hcell1 0 _ hv1
    have q2 : w15.cell? ⟨gn, 0, none⟩ = some (.slice An s2.length cn) := hcell2 0 _ hv2
    have hS : ∀ W, Below w15.heap.size w15 W → W.cell? ⟨go, 0, none⟩ = some (.slice Ao s1.length co) ∧ W.cell? ⟨gn, 0, none⟩ = some (.slice An s2.length cn) ∧ (convert 34 9 (.slice Ao s1.length co)).run Tryd.prog W = .ok (strB s1) W ∧ (convert 34 9 (.slice An s2.length cn)).run Tryd.prog W = .ok (strB s2) W := fun W hb =>
      ⟨(hb.cell (p := ⟨go, 0, none⟩) hb1).trans q1, (hb.cell (p := ⟨gn, 0, none⟩) hb2).trans q2, run_string W Ao co s1 ((ro.below hb).more hb.size), run_string W An cn s2 ((rn.below hb).more hb.size)⟩
    have hlk1 := fun W => refLink_any z32 s1 0 W z32_length (by omega) (by omega)
    have hlk2 := fun W => refLink_any z32 s2 0 W z32_length (by omega) (by omega)
    rw [HL1.out] at hlk1
    rw [HL2.out, ← HLK.out] at hlk2
    have hlz : (bs z32).toArray = #[Value.int .u8 0, Value.int .u8 0, Value.int .u8 0, Value.int .u8 0, Value.int .u8 0, Value.int .u8 0, Value.int .u8 0, Value.int .u8 0, Value.int .u8 0, Value.int .u8 0, Value.int .u8 0, Value.int .u8 0, Value.int .u8 0, Value.int .u8 0, Value.int .u8 0, Value.int .u8 0, Value.int .u8 0, Value.int .u8 0, Value.int .u8 0, Value.int .u8 0, Value.int .u8 0, Value.int .u8 0, Value.int .u8 0, Value.int .u8 0, Value.int .u8 0, Value.int .u8 0, Value.int .u8 0, Value.int .u8 0, Value.int .u8 0, Value.int .u8 0, Value.int .u8 0, Value.int .u8 0] := rfl
    rw [hlz] at hlk1 hlk2
    have hk1 : ∀ W, Calls Tryd.prog 25 #[.agg #[Value.int .u8 0, Value.int .u8 0, Value.int .u8 0, Value.int .u8 0, Value.int .u8 0, Value.int .u8 0, Value.int .u8 0, Value.int .u8 0, Value.int .u8 0, Value.int .u8 0, Value.int .u8 0, Value.int .u8 0, Value.int .u8 0, Value.int .u8 0, Value.int .u8 0, Value.int .u8 0, Value.int .u8 0, Value.int .u8 0, Value.int .u8 0, Value.int .u8 0, Value.int .u8 0, Value.int .u8 0, Value.int .u8 0, Value.int .u8 0, Value.int .u8 0, Value.int .u8 0, Value.int .u8 0, Value.int .u8 0, Value.int .u8 0, Value.int .u8 0, Value.int .u8 0, Value.int .u8 0], .int .u32 0, .string ⟨s1.toArray⟩] W fun e w' => e = .returned (.agg (bs lk1).toArray) ∧ Below W.heap.size W w' := hlk1
    have hk2 : ∀ W, Calls Tryd.prog 25 #[.agg #[Value.int .u8 0, Value.int .u8 0, Value.int .u8 0, Value.int .u8 0, Value.int .u8 0, Value.int .u8 0, Value.int .u8 0, Value.int .u8 0, Value.int .u8 0, Value.int .u8 0, Value.int .u8 0, Value.int .u8 0, Value.int .u8 0, Value.int .u8 0, Value.int .u8 0, Value.int .u8 0, Value.int .u8 0, Value.int .u8 0, Value.int .u8 0, Value.int .u8 0, Value.int .u8 0, Value.int .u8 0, Value.int .u8 0, Value.int .u8 0, Value.int .u8 0, Value.int .u8 0, Value.int .u8 0, Value.int .u8 0, Value.int .u8 0, Value.int .u8 0, Value.int .u8 0, Value.int .u8 0], .int .u32 0, .string ⟨s2.toArray⟩] W fun e w' => e = .returned (.agg (bs lk1).toArray) ∧ Below W.heap.size W w' := hlk2
    clear hlz hlk1 hlk2
    have heq := fun W => run_eql_sum W lk1 lk1 l1 l1
    simp only [beq_self_eq_true] at heq
    have hne : (s1.toArray.toList == s2.toArray.toList) = false := by rw [beq_eq_false_iff_ne]; simpa using hsne
    clear sl1 sl2 hcell1 hcell2 hv1 hv2 ro rn Ko Kn B15 C15 o15 n15 O1315 o13 n13 B13 C13
    go_region_held3 (fun w' => w'.cell? ⟨go, 0, none⟩ = some (.slice Ao s1.length co) ∧ w'.cell? ⟨gn, 0, none⟩ = some (.slice An s2.length cn) ∧ (convert 34 9 (.slice Ao s1.length co)).run Tryd.prog w' = .ok (strB s1) w' ∧ (convert 34 9 (.slice An s2.length cn)).run Tryd.prog w' = .ok (strB s2) w') (first | (exact hS _ (Below.refl _ _).drew) | (exact hS _ cc) | (exact hS _ c16)) (first | (go_at_call 25; (with_reducible refine (hk1 _).mono ?_); rintro e w16 ⟨rfl, b16⟩; first | (have cc := c16.trans (b16.mono c16.size)) | (have c16 := (Below.refl w15.heap.size w15).drew.trans b16)) | (go_at_call 25; (with_reducible refine (hk2 _).mono ?_); rintro e w16 ⟨rfl, b16⟩; first | (have cc := c16.trans (b16.mono c16.size)) | (have c16 := (Below.refl w15.heap.size w15).drew.trans b16)))
    all_goals
      go_wp2
      go_ret
      exact ⟨rfl, y15.trans (cc.mono y15.size)⟩
  · have hl1' : Calls Tryd.prog 19 #[.pointer (some ⟨gd, 0, none⟩), .agg (bs key).toArray, .int .i64 0, .int .i64 3, .agg (stCells 0 1 lk2).toArray] w13 fun e w' => e = .returned (.tuple #[.slice none 0 0, .int .i64 14]) ∧ Disk w' gd (fun k => w.heap.size ≤ k ∧ k ≠ gj ∧ k ≠ go ∧ k ≠ gn) (dkR (oneR s1) [] 5) ∧ Only (fun k => w.heap.size ≤ k ∧ k ≠ gj ∧ k ≠ go ∧ k ≠ gn) w13 w' := hl1.mono fun e w' ⟨h1, h2, h3⟩ => ⟨h1.elim (fun h => h.2) (fun h => absurd h.1 hlk), h2.mono (fun k _ hf => hf.elim id (fun h => ⟨by have := y13.size; omega, by omega, by omega, by omega⟩)), h3⟩
    clear hl1 hlk
    go_wp2_with (first | (go_at_call 19; refine hl1'.mono ?_; rintro e w14 ⟨rfl, D14, O14⟩; clear hl1'; have k14k := O14.blk k13k (.inr (by decide)); have k14s := O14.blk k13s (.inr (by decide)); have y14 : Below w.heap.size w w14 := y13.trans (O14.below y13.size (fun k h => h.1)); have hl2' := hl2 w14 y14 D14; clear hl2) | ((with_reducible refine wpList_load_blk (o := ⟨some 79, _, _, _, _, _⟩) rfl 39 _ rfl w.heap.size rfl 39 _ _ k14k Tryd.underlying39 rfl (by rw [Z1.out]; kernel_rfl) ?_)) | ((with_reducible refine wpList_load_blk (o := ⟨some 80, _, _, _, _, _⟩) rfl 48 _ rfl gs rfl 48 _ _ k14s Tryd.underlying48 rfl ZI1.out ?_)) | (go_at_call 19; refine hl2'.mono ?_; rintro e w15 ⟨⟨h1, _⟩ | ⟨_, A15, c15, rfl⟩, D15, O15⟩; exact absurd rfl h1; clear hl2'))
    have y15 : Below w.heap.size w w15 := y14.trans (O15.below y14.size (fun k h => h.1))
    go_ret
    exact ⟨rfl, y15⟩
end Go.Proofs.YtkhebllmnagkmaaDoor
