/- Contracts and lemmas under the statements of this seat, one behind the other. Conditions: what each names. -/
import Derived.Test.YtkhebllmnagkmaaGreatDoorG23
import Derived.Laws.IdiomStrings
import Derived.Test.YtkhebllmnagkmaaGreatDoorG6
import Derived.Test.YtkhebllmnagkmaaGreatDoorG17
import Derived.Test.YtkhebllmnagkmaaGreatDoorG18
import Derived.Test.YtkhebllmnagkmaaGreatDoorG15
/- Contract of the reference's ChaCha20 over bytes, from block 0 on. Conditions: what it names. -/
namespace Go.Proofs.YtkhebllmnagkmaaGreatDoor
open Go.RowKit
set_option linter.unusedVariables false

theorem lt_of_blk {w : World} {a : Addr} {v : Value} (h : w.cell? a = some v) : a.block < w.heap.size := by
  unfold World.cell? at h
  split at h
  · rename_i hh
    exact (Array.getElem?_eq_some_iff.1 hh).1
  · cases h
theorem crypt_snoc (key nonce l : List UInt8) (p : Nat) (h : p < l.length) : (crypt key nonce l).take (p + 1) = (crypt key nonce l).take p ++ [(l[p]'h) ^^^ (chaBlock key (p / 64) nonce).getD (p % 64) 0] := by
  have hc : (crypt key nonce l)[p]? = some ((l[p]'h) ^^^ streamAt key nonce p) := by
    unfold crypt
    rw [cry_get, List.getElem?_eq_getElem h, Option.map_some, if_pos h]
  obtain ⟨h1, h2⟩ := List.getElem?_eq_some_iff.1 hc
  rw [List.take_succ_eq_append_getElem h1, h2]
  rfl
set_option maxRecDepth 100000 in
set_option maxHeartbeats 4000000 in
theorem refCrypt_any (key nonce l : List UInt8) (A : Option Addr) (c : Nat) (w : World) (hr : Reads w w.heap.size 1 A l.length (bs l)) (h0 : 0 < l.length) (hl : l.length ≤ 1048576) (hk : key.length = 32) (hn : nonce.length = 12) :
    Calls Tryz.prog 71 #[.agg (bs key).toArray, .int .u32 0, .agg (bs nonce).toArray, .slice A l.length c] w fun e w' => ∃ A' c', e = .returned (.tuple #[.slice A' l.length c', .int .i64 0]) ∧ w'.ownsRow w.heap.size 5 1 (.slice A' l.length c') l.length (bs (crypt key nonce l)) ∧ Below w.heap.size w w' := by
  obtain ⟨i0, ii0, hz0, hz1, hz2⟩ := info_parts info5
  obtain ⟨ad, rfl, hb, hcell⟩ := hr.2 (by omega)
  have sp : ad.spot = none := by
    have h0 := hcell 0 _ (List.getElem?_eq_getElem (by rw [bs_length]; omega))
    simpa [Addr.add] using World.cell?_spot h0
  obtain ⟨g, o, sp'⟩ := ad
  simp only at sp hb
  subst sp
  have hlT : (crypt key nonce l).length = l.length := crypt_length _ _ _
  have hsn := crypt_snoc key nonce l
  obtain ⟨T, hT⟩ : ∃ T, T = crypt key nonce l := ⟨_, rfl⟩
  rw [← hT] at hsn hlT
  have HT := Lib.hid hT
  have HSN := Lib.hid hsn
  have HLT := Lib.hid hlT
  have HCELL := Lib.hid hcell
  have z1 : (bs key).toArray.size = 32 := by simp [bs_length, hk]
  have z2 : (bs nonce).toArray.size = 12 := by simp [bs_length, hn]
  have Z1 := Lib.hid z1
  have Z2 := Lib.hid z2
  have hone1 : ∀ (x : Int), ∀ u ∈ [Value.int .u8 x], u.oneCell' = true := by intro x u hu; simp only [List.mem_cons, List.not_mem_nil, or_false] at hu; rcases hu with rfl; rfl
  have k0 : Blk ((w.alloc (.cells (bs key).toArray 23)).alloc (.cells (bs nonce).toArray 154)) w.heap.size 23 (bs key).toArray := (Blk.new_of rfl rfl).alloc _
  have n0 : Blk ((w.alloc (.cells (bs key).toArray 23)).alloc (.cells (bs nonce).toArray 154)) (w.heap.size + 1) 154 (bs nonce).toArray := Blk.new_of (by simp) rfl
  have y0 : Below w.heap.size w ((w.alloc (.cells (bs key).toArray 23)).alloc (.cells (bs nonce).toArray 154)) := ((Below.refl _ _).alloc (Nat.le_refl _) _).alloc (by simp) _
  have lo : ∀ {W : World} {v : Value} {n : Nat} {xs : List Value}, W.ownsRow (w.heap.size + 2) 5 1 v n xs → ∀ k, v.ownBlock = some k → w.heap.size ≤ k := fun h k e => by have := (World.ownsRow.lt h _ e).1; omega
  have hpl : pieces l.length ≤ 20000 := by unfold pieces; omega
  have hpn : (((l.length : Int) + 63) / 64) = (pieces l.length : Int) := by unfold pieces; omega
  have w63 : IntKind.u64.wrap ((l.length : Int) + 63) = (l.length : Int) + 63 := by rw [IntKind.wrap_u64]; omega
  have hbk := fun k W (hk32 : k < 4294967296) => refCha_any key k nonce W hk hn hk32
  have HBK := Lib.hid hbk
  clear hT hsn hlT hcell z1 z2 hr hbk
  go_enter Tryz.func71, Tryz.ntmps71
  go_wp2
  rw [hpn]
  clear hpn w63
  obtain ⟨np, hnp⟩ : ∃ np, np = pieces l.length := ⟨_, rfl⟩
  rw [← hnp] at hpl
  rw [← hnp]
  have HNP : Hid (np = (l.length + 63) / 64) := Lib.hid hnp
  clear hnp
  go_loopw [11, 12] (fun vo vk wr => ∃ (k N : Nat) (A' : Option Addr) (c' : Nat), k ≤ np ∧ Hid (N = min (64 * k) l.length) ∧ vk = .int .u64 (k : Int) ∧ vo = .slice A' N c' ∧ wr.ownsRow (w.heap.size + 2) 5 1 (.slice A' N c') N (bs (T.take N)) ∧ Blk wr w.heap.size 23 (bs key).toArray ∧ Blk wr (w.heap.size + 1) 154 (bs nonce).toArray ∧ Below w.heap.size w wr) (fun _ vk _ => np - (intOf vk).toNat)
  case atStart => exact ⟨0, 0, none, 0, by omega, Lib.hid (by simp), rfl, rfl, World.ownsRow_nil _ _ _ _, k0, n0, y0⟩
  case round =>
    clear k0 n0 y0
    obtain ⟨k, N, A', c', hkn, hN, rfl, rfl, own, kk, kn, hw⟩ := hrel
    by_cases hlt : k < np
    · have hk32 : k < 4294967296 := by omega
      have hblk := fun W => HBK.out k W hk32
      have wk : IntKind.u32.wrap (k : Int) = (k : Int) := by rw [IntKind.wrap_u32]; omega
      have hbl := chaBlock_length key k nonce
      have hsn : ∀ p, p / 64 = k → (h : p < l.length) → T.take (p + 1) = T.take p ++ [(l[p]'h) ^^^ (chaBlock key k nonce).getD (p % 64) 0] := fun p hp h => by rw [HSN.out p h, hp]
      have HSK := Lib.hid hsn
      clear hsn
      generalize chaBlock key k nonce = blk at *
      have t1 : (Tryz.prog.info? 177).map (·.size) = some (bs blk).toArray.size := by rw [List.size_toArray, bs_length, hbl]; kernel_rfl
      have t2 : (bs (List.replicate 64 0)).toArray.size = (bs blk).toArray.size := by rw [List.size_toArray, List.size_toArray, bs_length, bs_length, hbl]; rfl
      have t3 := bs_all blk
      have T1 := Lib.hid t1
      have T2 := Lib.hid t2
      have HBL := Lib.hid hbl
      clear t1 t2 hbl
      have hmin : N ≤ l.length := by have := hN.out; omega
      go_wp2_with (first | ((with_reducible refine wpList_load_blk (o := ⟨some 31, _, _, _, _, _⟩) rfl 23 _ rfl w.heap.size rfl 23 _ _ kk Tryz.underlying23 rfl (by rw [Z1.out]; kernel_rfl) ?_)) | ((with_reducible refine wpList_load_blk (o := ⟨some 36, _, _, _, _, _⟩) rfl 154 _ rfl (w.heap.size + 1) rfl 154 _ _ kn Tryz.underlying154 rfl (by rw [Z2.out]; kernel_rfl) ?_)) | (go_at_call 91; (with_reducible refine (hblk _).mono ?_); rintro e w5 ⟨rfl, b5⟩; have kk5 := kk.below b5 kk.lt; have kn5 := kn.below b5 kn.lt; have own5 := own_keep own (fun q e => b5.block q (World.ownsRow.lt own q e).2); have y5 := hw.trans (b5.mono hw.size); clear hblk) | ((with_reducible refine wpList_store_blk (o := ⟨none, .store 177 (.tmp 13) (.tmp 37), _, _, _, _⟩) rfl 177 (.tmp 13) (.tmp 37) rfl w5.heap.size (bs blk).toArray rfl rfl 177 (bs (List.replicate 64 0)).toArray (Blk.new_of rfl rfl) T1.out T2.out t3 ?_); intro w6 k6 g6 s6; have S6 := Lib.hid s6; clear s6))
      obtain ⟨gs, hgs⟩ : ∃ gs, gs = w5.heap.size := ⟨_, rfl⟩
      have b56 : Below w5.heap.size w5 w6 := ((Below.refl _ w5).alloc (Nat.le_refl _) (.cells (bs (List.replicate 64 0)).toArray 177)).grown g6 (by rw [size_alloc']; omega) (fun k e => by injection e with e; omega)
      have kk6 := kk5.below b56 kk5.lt
      have kn6 := kn5.below b56 kn5.lt
      have own6 := own_keep own5 (fun q e => b56.block q (World.ownsRow.lt own5 q e).2)
      have y6 := y5.trans (b56.mono y5.size)
      have hgsl : w.heap.size + 2 ≤ gs := by have := kn5.lt; omega
      rw [← hgs] at k6
      rw [← hgs]
      clear kk kn own hw b5 kk5 kn5 own5 y5 b56 g6 S6 hgs t3
      obtain ⟨wo, rfl⟩ : ∃ wo : World, wo = w6 := ⟨_, rfl⟩
      go_loopw [11, 14] (fun vo vi wr => ∃ (i M : Nat) (A' : Option Addr) (c' : Nat), i ≤ 64 ∧ Hid (M = min (64 * k + i) l.length) ∧ vi = .int .i64 (i : Int) ∧ vo = .slice A' M c' ∧ wr.ownsRow (w.heap.size + 2) 5 1 (.slice A' M c') M (bs (T.take M)) ∧ Blk wr gs 177 (bs blk).toArray ∧ Blk wr w.heap.size 23 (bs key).toArray ∧ Blk wr (w.heap.size + 1) 154 (bs nonce).toArray ∧ Below w.heap.size w wr) (fun _ vi _ => 64 - (intOf vi).toNat)
      case atStart => exact ⟨0, N, A', c', by omega, hN, rfl, rfl, own6, k6, kk6, kn6, y6⟩
      case round =>
        clear own6 k6 kk6 kn6 y6
        obtain ⟨i, M, A2, c2, hi, hM, rfl, rfl, own, ks, kk, kn, hw⟩ := hrel
        by_cases hli : i < 64
        · have e1 : IntKind.i64.wrap (k : Int) = (k : Int) := IntWalk.i64_in _ (by omega)
          have e2 : IntKind.i64.wrap ((k : Int) * 64) = (k : Int) * 64 := IntWalk.i64_in _ (by omega)
          have e3 : IntKind.i64.wrap ((k : Int) * 64 + (i : Int)) = (k : Int) * 64 + (i : Int) := IntWalk.i64_in _ (by omega)
          by_cases hp : 64 * k + i < l.length
          · have hpi : (k : Int) * 64 + (i : Int) < (l.length : Int) := by omega
            have hst := HSK.out (64 * k + i) (by omega) hp
            rw [show (64 * k + i) % 64 = i by omega] at hst
            have hcx := HCELL.out (64 * k + i) (.int .u8 ((l[64 * k + i]'hp).toNat : Int)) (by rw [bs_get, List.getElem?_eq_getElem hp]; rfl)
            rw [Addr.add_mid] at hcx
            have hbl := HBL.out
            have hcy : wr.cell? ⟨gs, i, none⟩ = some (.int .u8 ((blk.getD i 0).toNat : Int)) := (ks.cell i).trans (by rw [List.getElem?_toArray, bs_get, List.getElem?_eq_getElem (by omega), List.getD_eq_getElem?_getD, List.getElem?_eq_getElem (by omega)]; rfl)
            have hxo := xor_u8 (l[64 * k + i]'hp) (blk.getD i 0)
            obtain ⟨z, hz⟩ : ∃ z : Nat, z = ((l[64 * k + i]'hp) ^^^ (blk.getD i 0)).toNat := ⟨_, rfl⟩
            rw [← hz] at hxo
            have hMe : M = 64 * k + i := by have := hM.out; omega
            generalize l[64 * k + i]'hp = x at *
            generalize blk.getD i 0 = y at *
            obtain ⟨q, hq⟩ : ∃ q : Nat, q = 64 * k + i := ⟨_, rfl⟩
            have hqi : (k : Int) * 64 + (i : Int) = (q : Int) := by omega
            rw [← hq] at hcx hst hMe
            have HQ := Lib.hid hq
            have HST := Lib.hid hst
            have HXO := Lib.hid hxo
            have HZ := Lib.hid hz
            have HME := Lib.hid hMe
            clear hst hxo hMe hq hp hz
            have hqn : (q : Int) < (l.length : Int) := by omega
            have hq0 : (0 : Int) ≤ (q : Int) := by omega
            have hi0 : (0 : Int) ≤ (i : Int) := by omega
            have hi1 : (i : Int) < 64 := by omega
            go_wp2
            have hx8 : x.toNat < 256 := x.toNat_lt
            have hy8 : y.toNat < 256 := y.toNat_lt
            have hxo := HXO.out
            generalize x.toNat = xn at *
            generalize y.toNat = yn at *
            have cy : wr.drew.cell? ⟨gs, i, none⟩ = some (.int .u8 (yn : Int)) := hcy
            have cx : wr.drew.cell? ⟨g, o + q, none⟩ = some (.int .u8 (xn : Int)) := (hw.cell (p := ⟨g, o + q, none⟩) hb).trans hcx
            obtain ⟨W2, hW2⟩ : ∃ W2 : World, W2 = (wr.alloc (.cells #[.int .u8 (z : Int)] 5)).drew := ⟨_, rfl⟩
            have b2 : Below wr.heap.size wr W2 := by rw [hW2]; exact ((Below.refl _ _).alloc (Nat.le_refl _) _).drew
            have ks := ks.below b2 ks.lt
            have kk := kk.below b2 kk.lt
            have kn := kn.below b2 kn.lt
            have hwl : w.heap.size + 2 ≤ W2.heap.size := by have := kn.lt; omega
            have ow := own_keep own (fun bk e => b2.block bk (World.ownsRow.lt own bk e).2)
            have y2 : Below w.heap.size w W2 := hw.trans (b2.mono hw.size)
            have cx2 : W2.cell? ⟨g, o + q, none⟩ = some (.int .u8 (xn : Int)) := (y2.cell (p := ⟨g, o + q, none⟩) hb).trans hcx
            have cy2 : W2.cell? ⟨gs, i, none⟩ = some (.int .u8 (yn : Int)) := by
              have h := hcy
              exact (b2.cell (p := ⟨gs, i, none⟩) (lt_of_blk hcy)).trans h
            have hnews : Reads W2 W2.heap.size 1 (some ⟨wr.heap.size, 0, none⟩) 1 [.int .u8 (z : Int)] := Blk.rows (xs := [Value.int .u8 (z : Int)]) 1 1 (by rw [hW2]; exact (Blk.new_of rfl rfl).drew) rfl
            have hm1 : M + 1 ≤ maxLen := by have := HME.out; unfold maxLen; omega
            have hm2 : (M + 1) * 1 ≤ 140737488355328 := by have := HME.out; omega
            have h02 : 0 < 1 := by omega
            have happ : ∀ (v4 : Value) (w4 : World), w4.ownsRow (w.heap.size + 2) 5 1 v4 (M + 1) (bs (T.take M) ++ [Value.int .u8 (z : Int)]) → W2.grownBy w4 (Value.slice A2 M c2).ownBlock → (w4.cell? ⟨g, o + q, none⟩ = some (.int .u8 (xn : Int)) ∧ w4.cell? ⟨gs, i, none⟩ = some (.int .u8 (yn : Int))) ∧ Blk w4 gs 177 (bs blk).toArray ∧ Blk w4 w.heap.size 23 (bs key).toArray ∧ Blk w4 (w.heap.size + 1) 154 (bs nonce).toArray ∧ Below w.heap.size w w4 := by
              intro v4 w4 ho hg
              have hks := ks.grown hg (fun e => own_blk_ne ow ks (by decide) e.symm)
              have hy4 := y2.grown hg (by omega) (lo ow)
              refine ⟨⟨(hy4.cell (p := ⟨g, o + q, none⟩) hb).trans hcx, ?_⟩, hks, kk.grown hg (fun e => own_blk_ne ow kk (by decide) e.symm), kn.grown hg (fun e => own_blk_ne ow kn (by decide) e.symm), hy4⟩
              exact (hks.cell i).trans ((ks.cell i).symm.trans cy2)
            have HA := Lib.hid happ
            have HW2 := Lib.hid hW2
            have HM1 := Lib.hid hm1
            have HM2 := Lib.hid hm2
            have HOW := Lib.hid ow
            have HNW := Lib.hid hnews
            clear happ hW2 hm1 hm2 ow hnews own hcx hcy hbl b2
            go_region_held3 (fun w' => w'.cell? ⟨g, o + q, none⟩ = some (.int .u8 (xn : Int)) ∧ w'.cell? ⟨gs, i, none⟩ = some (.int .u8 (yn : Int))) (first | (exact ⟨cx, cy⟩) | (rw [← HW2.out]; exact ⟨cx2, cy2⟩) | (exact hk4.1)) ((refine step_append_any _ (by rfl) (.tmp 51) (.tmp 60) 55 (by rfl) (w.heap.size + 2) 5 i0 _ 1 1 Tryz.underlying55 ii0 hz0 hz1 hz2 (by rfl) h02 (.slice A2 M c2) M (bs (T.take M)) (by rfl) (by rw [← HW2.out]; exact HOW.out) W2.heap.size (some ⟨wr.heap.size, 0, none⟩) 1 1 [Value.int .u8 (z : Int)] (by rfl) (by rw [← HW2.out]; exact HNW.out) (hone1 _) HM1.out HM2.out (by rw [← HW2.out]; exact hwl) ?_; intro v4 w4 hown4 hg4 hat4; rw [← HW2.out] at hg4; have hk4 := HA.out v4 w4 hown4 hg4; obtain ⟨A9, c9, rfl⟩ := own_shape hown4))
            go_wp2
            go_roundw
            case rel =>
              refine ⟨i + 1, M + 1, A9, c9, by omega, Lib.hid (by have := HME.out; have := HQ.out; omega), by go_num, rfl, ?_, hk4.2.1, hk4.2.2.1, hk4.2.2.2.1, hk4.2.2.2.2⟩
              have e : bs (T.take M) ++ [Value.int .u8 (z : Int)] = bs (T.take (M + 1)) := by
                rw [HME.out, HST.out, bs_append, HZ.out]
                rfl
              rw [← e]
              exact hown4
            case measure => simp [intOf]; omega
          · have hpi : ¬ (k : Int) * 64 + (i : Int) < (l.length : Int) := by omega
            go_wp2
            go_roundw
            case rel => exact ⟨i + 1, M, A2, c2, by omega, Lib.hid (by have := hM.out; omega), by go_num, rfl, own, ks, kk, kn, hw⟩
            case measure => simp [intOf]; omega
        · have e64 : i = 64 := by omega
          go_wp2
          go_roundw
          case rel => exact ⟨k + 1, M, A2, c2, by omega, Lib.hid (by have := hM.out; omega), by go_num, rfl, own, kk, kn, hw⟩
          case measure => simp [intOf]; omega
    · have ek : k = np := by omega
      have hge : ¬ (k : Int) < (np : Int) := by omega
      have eN : N = l.length := by have := hN.out; have := HNP.out; omega
      subst eN
      clear ek
      go_wp2
      go_ret2
      refine ⟨A', c', rfl, ?_, hw⟩
      rw [List.take_of_length_le (Nat.le_of_eq HLT.out), HT.out] at own
      exact ownsRow_lower own (by omega)
end Go.Proofs.YtkhebllmnagkmaaGreatDoor
/- '[]byte(s)' of a string: laws for the walk. Conditions: what each names. -/
namespace Go.Proofs.YtkhebllmnagkmaaGreatDoor
open Go.RowKit
set_option linter.unusedVariables false

theorem run_strbytes (W : World) (l : List UInt8) : ∃ c W', (convert 9 55 (.string ⟨l.toArray⟩)).run Tryz.prog W = .ok (.slice (some ⟨W.heap.size, 0, none⟩) l.length c) W' ∧ Reads W' W'.heap.size 1 (some ⟨W.heap.size, 0, none⟩) l.length (bs l) ∧ Below W.heap.size W W' := by
  have h := run_bytes_of_string (P := Tryz.prog) W 9 55 5 ⟨l.toArray⟩ Tryz.underlying9 Tryz.underlying55 Tryz.underlying5
  have hsz : (ByteArray.mk l.toArray).size = l.length := by simp [ByteArray.size]
  rw [hsz] at h
  refine ⟨_, _, h, ⟨by rw [bs_length]; omega, fun _ => ⟨_, rfl, by simp, fun j u hu => ?_⟩⟩, (Below.refl _ W).drew.alloc (Nat.le_refl _) _⟩
  rw [add_head]
  have hj : j < l.length := by have := (List.getElem?_eq_some_iff.1 hu).1; rw [bs_length] at this; exact this
  have hc := bytesRow_at ⟨l.toArray⟩ (grownCap W l.length 0 5) j (by simpa using hj)
  refine (cell_of_row _ _ j _ _ _ (heap_alloc_new W.drew _)).trans ?_
  rw [hc, ← hu, bs_get, List.getElem?_eq_getElem hj]
  rfl
/-- The world behind '[]byte(s)', and the capacity. -/
@[irreducible] def strC (l : List UInt8) (W : World) : Nat := grownCap W l.length 0 5
@[irreducible] def strW (l : List UInt8) (W : World) : World := W.drew.alloc (.cells (bytesRow ⟨l.toArray⟩ (grownCap W l.length 0 5)) 5 ((bytesRow ⟨l.toArray⟩ (grownCap W l.length 0 5)).size, (bytesRow ⟨l.toArray⟩ (grownCap W l.length 0 5)).size + 1))
theorem run_str (l : List UInt8) (W : World) : (convert 9 55 (.string ⟨l.toArray⟩)).run Tryz.prog W = .ok (.slice (some ⟨W.heap.size, 0, none⟩) l.length (strC l W)) (strW l W) := by
  have h := run_bytes_of_string (P := Tryz.prog) W 9 55 5 ⟨l.toArray⟩ Tryz.underlying9 Tryz.underlying55 Tryz.underlying5
  have hsz : (ByteArray.mk l.toArray).size = l.length := by simp [ByteArray.size]
  rw [hsz] at h
  unfold strC strW
  exact h
theorem strW_below (l : List UInt8) (W : World) : Below W.heap.size W (strW l W) := by unfold strW; exact (Below.refl _ W).drew.alloc (Nat.le_refl _) _
theorem strW_reads (l : List UInt8) (W : World) : Reads (strW l W) (strW l W).heap.size 1 (some ⟨W.heap.size, 0, none⟩) l.length (bs l) := by
  obtain ⟨c, W', h, hr, hb⟩ := run_strbytes W l
  rw [run_str] at h
  injection h with _ h
  rw [h]
  exact hr
theorem step_convert_str {ops : Array Oper} {o : Oper} {a : Act} {w : World} {K : Act → World → Prop} {Q : Exit → Act → World → Prop} {E : Prop} (hgd : o.guard = none) (x : Operand) (ho : o.op = .convert 9 55 x) (l : List UInt8) (hx : a.eval x = .string ⟨l.toArray⟩)
    (h : ∀ c w', Reads w' w'.heap.size 1 (some ⟨w.heap.size, 0, none⟩) l.length (bs l) → Below w.heap.size w w' → K (a.put o.dst (.slice (some ⟨w.heap.size, 0, none⟩) l.length c)) w') :
    if Region.wanted o (yielded ops a.tmps) = true then Oper.wp Tryz.prog o a w K Q else E := by
  have hw : Region.wanted o (yielded ops a.tmps) = true := by simp [Region.wanted, hgd]
  rw [if_pos hw]
  obtain ⟨c, w', hrun, h1, h2⟩ := run_strbytes w l
  unfold Oper.wp
  simp only [execOp, ho, hx, Sem.run_bind, hrun, Result.andThen_ok, Sem.run_pure]
  exact h c w' h1 h2
theorem wpList_convert_str {ops : Array Oper} {rest : List Oper} {o : Oper} {a : Act} {w : World} {Q : Exit → Act → World → Prop} (hgd : o.guard = none) (x : Operand) (ho : o.op = .convert 9 55 x) (l : List UInt8) (hx : a.eval x = .string ⟨l.toArray⟩)
    (h : ∀ c w', Reads w' w'.heap.size 1 (some ⟨w.heap.size, 0, none⟩) l.length (bs l) → Below w.heap.size w w' → wpList Tryz.prog ops Q rest (a.put o.dst (.slice (some ⟨w.heap.size, 0, none⟩) l.length c)) w') : wpList Tryz.prog ops Q (o :: rest) a w := by
  obtain ⟨c, w', hrun, h1, h2⟩ := run_strbytes w l
  exact wpList_convert_run hgd _ _ x ho _ w' (by rw [hx]; exact hrun) (h c w' h1 h2)
end Go.Proofs.YtkhebllmnagkmaaGreatDoor
/- Contract of the reference's Seal. Conditions: what it names. -/
namespace Go.Proofs.YtkhebllmnagkmaaGreatDoor
open Go.RowKit
set_option linter.unusedVariables false

set_option maxRecDepth 100000 in
set_option maxHeartbeats 4000000 in
theorem refSeal_any (key plain : List UInt8) (place version : Nat) (w : World) (hl : plain.length = 160 ∨ plain.length = 176) (hk : key.length = 32) (hp : place < 4294967296) (hv0 : version ≠ 0) (hv : version < 18446744073709551615) :
    Calls Tryz.prog 40 #[.agg (bs key).toArray, .int .u32 (place : Int), .int .u64 (version : Int), .string ⟨plain.toArray⟩] w fun e w' => e = .returned (.tuple #[.string ⟨(sealB key place version plain).toArray⟩, .int .i64 0]) ∧ Below w.heap.size w w' := by
  obtain ⟨i0, ii0, hz0, hz1, hz2⟩ := info_parts info5
  have g0 : ¬ (version : Int) = 0 := by omega
  have g1 : ¬ (version : Int) = 18446744073709551615 := by omega
  have hput : ∀ W, Calls Tryz.prog 70 #[.int .u64 (version : Int), .int .i64 8] W fun e w' => ∃ A c, e = .returned (.slice A 8 c) ∧ w'.ownsRow W.heap.size 5 1 (.slice A 8 c) 8 (bs (putB version 8)) ∧ Below W.heap.size W w' := fun W => ref01Put_any version 8 W (by omega) (by omega)
  have hnon := fun W => refNonce_any place version W hp (by omega)
  have hn12 := nonceB_length place version
  have hcr := fun W A c hr => refCrypt_any key (nonceB place version) plain A c W hr (by omega) (by omega) hk hn12
  have hcl := crypt_length key (nonceB place version) plain
  have hS : sealB key place version plain = padB (putB version 8 ++ crypt key (nonceB place version) plain) 192 := rfl
  have hl8 := putB_length version 8
  have hlen : (ByteArray.mk plain.toArray).size = plain.length := by simp [ByteArray.size]
  generalize nonceB place version = nn at *
  generalize crypt key nn plain = cc at *
  generalize putB version 8 = p8 at *
  have k0 : Blk (w.alloc (.cells (bs key).toArray 23)) w.heap.size 23 (bs key).toArray := Blk.new_of rfl rfl
  have y0 : Below w.heap.size w (w.alloc (.cells (bs key).toArray 23)) := (Below.refl _ _).alloc (Nat.le_refl _) _
  have hu39 := Tryz.underlying23
  have hi39 : (Tryz.prog.info? 23).map (·.size) = some (bs key).length := by rw [bs_length, hk]; kernel_rfl
  have HS := Lib.hid hS
  have HK := Lib.hid hk
  have H8 := Lib.hid hl8
  have N12 := Lib.hid hn12
  have CL := Lib.hid hcl
  have HI := Lib.hid hi39
  have HLN := Lib.hid hlen
  clear hS hk hl8 hn12 hcl hi39 hlen
  rcases hl with hl | hl
  all_goals
    rw [hl] at HLN CL
    have HL := Lib.hid hl
    have hlen := HLN.out
    go_enter Tryz.func40, Tryz.ntmps40
    go_wp2_with (first | (go_at_call 70; (with_reducible refine (hput _).mono ?_); rintro e w1 ⟨A1, c1, rfl, o1, b1⟩; have k1 := k0.below b1 k0.lt; have y1 := y0.trans (b1.mono y0.size); clear hput))
    have hS1 : ∀ W, Below w1.heap.size w1 W → W.rangeAt w.heap.size 0 (bs key) := fun W hb => range_below (Blk.range k1) hb k1.lt
    have t0 : Below w1.heap.size w1 w1.drew := (Below.refl _ _).drew
    have hi39 := HI.out
    clear hlen hl
    have enon : ∀ args w, (callFunc 72 args).run Tryz.prog w = .ok (.enter 72 args) w := enters_of Tryz.func72 (by kernel_rfl) rfl
    have ecry : ∀ args w, (callFunc 71 args).run Tryz.prog w = .ok (.enter 71 args) w := enters_of Tryz.func71 (by kernel_rfl) rfl
    have hS0 := hS1 _ t0
    refine wp_region_held_drew (S := fun w' => w'.rangeAt w.heap.size 0 (bs key)) (by kernel_rfl) hS0 (fun _ => ?_)
    refine wpAnyH_take (i := 0) (oi := ⟨some 30, _, _, _, _, _⟩) (v := .agg (bs key).toArray) rfl (by kernel_rfl) (by kernel_rfl) (by kernel_rfl) (fun _ _ _ h => h) (yieldsIf_load_mid (by rfl) 23 _ rfl w.heap.size 0 (by rfl) (bs key) _ (fun W h => h) hu39 rfl hi39) hS0 ?_
    simp only [Act.put, List.setIfInBounds_toArray, List.set_cons_zero, List.set_cons_succ]
    refine wpAnyH_take (i := 1) (oi := ⟨some 31, _, _, _, _, _⟩) (v := .int .u32 (place : Int)) rfl (by kernel_rfl) (by kernel_rfl) (by kernel_rfl) (fun _ _ _ h => h) (Or.inl ⟨by rfl, by intro W hS; go_simp⟩) hS0 ?_
    simp only [Act.put, List.setIfInBounds_toArray, List.set_cons_zero, List.set_cons_succ]
    refine wpAnyH_take (i := 2) (oi := ⟨some 32, _, _, _, _, _⟩) (v := .int .u64 (version : Int)) rfl (by kernel_rfl) (by kernel_rfl) (by kernel_rfl) (fun _ _ _ h => h) (Or.inl ⟨by rfl, by intro W hS; go_simp⟩) hS0 ?_
    simp only [Act.put, List.setIfInBounds_toArray, List.set_cons_zero, List.set_cons_succ]
    refine wpAnyH_take (i := 4) (oi := ⟨some 34, _, _, _, _, _⟩) (v := .string ⟨plain.toArray⟩) rfl (by kernel_rfl) (by kernel_rfl) (by kernel_rfl) (fun _ _ _ h => h) (Or.inl ⟨by rfl, by intro W hS; go_simp⟩) hS0 ?_
    simp only [Act.put, List.setIfInBounds_toArray, List.set_cons_zero, List.set_cons_succ]
    refine wpAnyH_ready (rs := [3, 5]) (by kernel_rfl) (by simp) ?_
    refine AllReadyH.cons (o := ⟨some 33, .call { callee := .value (.func 72), args := #[.tmp 31, .tmp 32], argTypes := #[59, 39] }, _, _, _, _⟩) rfl (fun K' hK => ?_) (AllReadyH.cons (o := ⟨some 35, .convert 9 55 (.tmp 34), _, _, _, _⟩) rfl (fun K' hK => ?_) AllReadyH.nil)
    refine step_call_w (by rfl) 72 [_, _] _ rfl [.int .u32 (place : Int), .int .u64 (version : Int)] rfl enon _ (hnon _) ?_
    rintro e wN ⟨rfl, bN⟩
    have t1 := t0.trans (bN.mono t0.size)
    refine ⟨_, rfl, hK.out _ _ (hS1 _ t1) (fun _ => ?_)⟩
    clear hK
    simp only [Act.put, List.setIfInBounds_toArray, List.set_cons_zero, List.set_cons_succ]
    refine wpAnyH_ready (rs := [5]) (by kernel_rfl) (by simp) ?_
    refine AllReadyH.cons (o := ⟨some 35, .convert 9 55 (.tmp 34), _, _, _, _⟩) rfl (fun K' hK => ?_) AllReadyH.nil
    refine step_convert_str rfl (.tmp 34) rfl plain rfl ?_
    intro cB wB rB bB
    have t2 := t1.trans (bB.mono t1.size)
    refine hK.out _ _ (hS1 _ t2) (fun _ => ?_)
    clear hK
    simp only [Act.put, List.setIfInBounds_toArray, List.set_cons_zero, List.set_cons_succ]
    refine wpAnyH_ready (rs := [6]) (by kernel_rfl) (by simp) ?_
    refine AllReadyH.cons (o := ⟨some 36, .call { callee := .value (.func 71), args := #[.tmp 30, .const (.int .u32 0), .tmp 33, .tmp 35], argTypes := #[23, 59, 154, 55] }, _, _, _, _⟩) rfl (fun K' hK => ?_) AllReadyH.nil
    refine step_call_w (by rfl) 71 [_, _, _, _] _ rfl [.agg (bs key).toArray, .int .u32 0, .agg (bs nn).toArray, .slice (some ⟨wN.heap.size, 0, none⟩) plain.length cB] rfl ecry _ (hcr _ _ _ rB) ?_
    rintro e wC ⟨A3, c3, rfl, o3, b3⟩
    have t3 := t2.trans (b3.mono t2.size)
    refine ⟨_, rfl, hK.out _ _ (hS1 _ t3) (fun _ => ?_)⟩
    clear hK
    simp only [Act.put, List.setIfInBounds_toArray, List.set_cons_zero, List.set_cons_succ]
    rotate_left
    refine step_convert_str rfl (.tmp 34) rfl plain rfl ?_
    intro cB wB rB bB
    have t1 := t0.trans (bB.mono t0.size)
    refine hK.out _ _ (hS1 _ t1) (fun _ => ?_)
    clear hK
    simp only [Act.put, List.setIfInBounds_toArray, List.set_cons_zero, List.set_cons_succ]
    refine wpAnyH_ready (rs := [3]) (by kernel_rfl) (by simp) ?_
    refine AllReadyH.cons (o := ⟨some 33, .call { callee := .value (.func 72), args := #[.tmp 31, .tmp 32], argTypes := #[59, 39] }, _, _, _, _⟩) rfl (fun K' hK => ?_) AllReadyH.nil
    refine step_call_w (by rfl) 72 [_, _] _ rfl [.int .u32 (place : Int), .int .u64 (version : Int)] rfl enon _ (hnon _) ?_
    rintro e wN ⟨rfl, bN⟩
    have t2 := t1.trans (bN.mono t1.size)
    refine ⟨_, rfl, hK.out _ _ (hS1 _ t2) (fun _ => ?_)⟩
    clear hK
    simp only [Act.put, List.setIfInBounds_toArray, List.set_cons_zero, List.set_cons_succ]
    refine wpAnyH_ready (rs := [6]) (by kernel_rfl) (by simp) ?_
    refine AllReadyH.cons (o := ⟨some 36, .call { callee := .value (.func 71), args := #[.tmp 30, .const (.int .u32 0), .tmp 33, .tmp 35], argTypes := #[23, 59, 154, 55] }, _, _, _, _⟩) rfl (fun K' hK => ?_) AllReadyH.nil
    refine step_call_w (by rfl) 71 [_, _, _, _] _ rfl [.agg (bs key).toArray, .int .u32 0, .agg (bs nn).toArray, .slice (some ⟨w1.heap.size, 0, none⟩) plain.length cB] rfl ecry _ (hcr _ _ _ ((rB.below bN).more bN.size)) ?_
    rintro e wC ⟨A3, c3, rfl, o3, b3⟩
    have t3 := t2.trans (b3.mono t2.size)
    refine ⟨_, rfl, hK.out _ _ (hS1 _ t3) (fun _ => ?_)⟩
    clear hK
    simp only [Act.put, List.setIfInBounds_toArray, List.set_cons_zero, List.set_cons_succ]
    all_goals
      have hST := hS1 _ t3
      refine wpAnyH_take (i := 7) (oi := ⟨some 29, _, _, _, _, _⟩) (v := .tuple #[.slice A3 plain.length c3, .int .i64 0]) rfl (by kernel_rfl) (by kernel_rfl) (by kernel_rfl) (fun _ _ _ h => h) (Or.inl ⟨by rfl, by intro W hS; go_simp⟩) hST ?_
      simp only [Act.put, List.setIfInBounds_toArray, List.set_cons_zero, List.set_cons_succ]
      refine wpAnyH_take (i := 8) (oi := ⟨some 37, _, _, _, _, _⟩) (v := .slice A3 plain.length c3) rfl (by kernel_rfl) (by kernel_rfl) (by kernel_rfl) (fun _ _ _ h => h) (Or.inl ⟨by rfl, by intro W hS; go_simp⟩) hST ?_
      simp only [Act.put, List.setIfInBounds_toArray, List.set_cons_zero, List.set_cons_succ]
      refine wpAnyH_take (i := 9) (oi := ⟨some 38, _, _, _, _, _⟩) (v := .int .i64 0) rfl (by kernel_rfl) (by kernel_rfl) (by kernel_rfl) (fun _ _ _ h => h) (Or.inl ⟨by rfl, by intro W hS; go_simp⟩) hST ?_
      simp only [Act.put, List.setIfInBounds_toArray, List.set_cons_zero, List.set_cons_succ]
      refine wpAnyH_take (i := 10) (oi := ⟨some 11, _, _, _, _, _⟩) (v := .slice A3 plain.length c3) rfl (by kernel_rfl) (by kernel_rfl) (by kernel_rfl) (fun _ _ _ h => h) (Or.inl ⟨by rfl, by intro W hS; go_simp⟩) hST ?_
      simp only [Act.put, List.setIfInBounds_toArray, List.set_cons_zero, List.set_cons_succ]
      refine wpAnyH_take (i := 11) (oi := ⟨some 12, _, _, _, _, _⟩) (v := .int .i64 0) rfl (by kernel_rfl) (by kernel_rfl) (by kernel_rfl) (fun _ _ _ h => h) (Or.inl ⟨by rfl, by intro W hS; go_simp⟩) hST ?_
      simp only [Act.put, List.setIfInBounds_toArray, List.set_cons_zero, List.set_cons_succ]
      refine wpAnyH_done (by kernel_rfl) ?_ _
      have oc := own_keep o1 (fun k e => t3.block k (World.ownsRow.lt o1 k e).2)
      have yC : Below w.heap.size w wC := y1.trans (t3.mono y1.size)
      have r3 := Reads.of_own o3
      obtain ⟨B0, hB0⟩ : ∃ B0, B0 = (w.alloc (.cells (bs key).toArray 23)).heap.size := ⟨_, rfl⟩
      have hB0l : w.heap.size ≤ B0 := by rw [hB0, size_alloc']; omega
      have hB0c : B0 ≤ wC.heap.size := by
        rw [hB0]
        have h1 := b1.size
        have h2 := t3.size
        omega
      rw [← hB0] at oc
      obtain ⟨np, hnp⟩ : ∃ np, np = plain.length := ⟨_, rfl⟩
      have hn1 : np ≤ 176 := by have := HL.out; omega
      rw [← hnp] at r3
      rw [← hnp]
      have HNP : Hid (np = plain.length) := Lib.hid hnp
      have hone0 : ∀ u ∈ bs cc, u.oneCell' = true := fun u hu => bs_one u hu
      have hone1 : ∀ u ∈ [Value.int .u8 0], u.oneCell' = true := by intro u hu; simp only [List.mem_cons, List.not_mem_nil, or_false] at hu; rcases hu with rfl; rfl
      have hm1 : Hid (8 + np ≤ maxLen ∧ (8 + np) * 1 ≤ 140737488355328) := Lib.hid ⟨by unfold maxLen; omega, by omega⟩
      have hm2 : Hid (∀ k, k < 192 → k + 1 ≤ maxLen ∧ (k + 1) * 1 ≤ 140737488355328) := Lib.hid fun k hk => ⟨by unfold maxLen; omega, by omega⟩
      have lo : ∀ {W : World} {v : Value} {n : Nat} {xs : List Value}, W.ownsRow B0 5 1 v n xs → ∀ k, v.ownBlock = some k → w.heap.size ≤ k := fun h k e => by have := (World.ownsRow.lt h _ e).1; omega
      clear hS1 hS0 hST t0 o1 o3 b3 b1 k1 k0 y0 hi39 hnon hnp hB0 t3
      go_wp2_with (first | (at_builtin; refine wpList_append_any _ rfl (.tmp 39) (.tmp 40) 55 rfl B0 5 i0 _ 1 1 Tryz.underlying55 ii0 hz0 hz1 hz2 rfl (by omega) (.slice A1 8 c1) 8 (bs p8) rfl oc _ A3 np c3 (bs cc) rfl r3 hone0 hm1.out.1 hm1.out.2 hB0c ?_; intro v5 w5 hown5 hg5 hat5; have y5 := yC.grown hg5 yC.size (lo oc); have s5 := hg5.size; rw [← bs_append] at hown5; obtain ⟨A5, c5, rfl⟩ := own_shape hown5; clear hg5 hat5))
      have hB5 : B0 ≤ w5.heap.size := by omega
      go_loopw [10] (fun v wr => ∃ (k : Nat) (A : Option Addr) (cp : Nat), 8 + np + k ≤ 192 ∧ v = .slice A (8 + np + k) cp ∧ wr.ownsRow B0 5 1 (.slice A (8 + np + k) cp) (8 + np + k) (bs (p8 ++ cc ++ List.replicate k 0)) ∧ Below w.heap.size w wr ∧ B0 ≤ wr.heap.size) (fun v _ => 192 - (match v with | .slice _ n _ => n | _ => 0))
      case atStart => exact ⟨0, A5, c5, by omega, rfl, by simpa using hown5, y5, hB5⟩
      case round =>
        clear hown5 y5 hB5 oc
        obtain ⟨k, A6, c6, hk6, rfl, own, hw, hBr⟩ := hrel
        by_cases hlt : 8 + np + k < 192
        · have hlti : (8 : Int) + (np : Int) + (k : Int) < 192 := by omega
          have hnews := Blk.rows (xs := [Value.int .u8 0]) 1 1 (Blk.new wr 5 #[Value.int .u8 0]) rfl
          go_wp2_with (at_builtin; refine wpList_append_any _ rfl (.tmp 45) (.tmp 46) 55 rfl B0 5 i0 _ 1 1 Tryz.underlying55 ii0 hz0 hz1 hz2 rfl (by omega) (.slice A6 (8 + np + k) c6) (8 + np + k) (bs (p8 ++ cc ++ List.replicate k 0)) rfl (World.ownsRow.alloc own _) _ (some ⟨wr.heap.size, 0, none⟩) 1 1 [_] rfl hnews hone1 (hm2.out _ hlt).1 (hm2.out _ hlt).2 (by rw [size_alloc']; omega) ?_; intro v7 w7 hown7 hg7 hat7; have y7 := (hw.alloc hw.size (.cells #[Value.int .u8 0] 5)).grown hg7 (by rw [size_alloc']; have := hw.size; omega) (lo own); have s7 : wr.heap.size + 1 ≤ w7.heap.size := (by have := hg7.size; rwa [size_alloc'] at this); obtain ⟨A7, c7, rfl⟩ := own_shape hown7; clear hg7 hat7)
          go_roundw
          case rel =>
            refine ⟨k + 1, A7, c7, by omega, rfl, ?_, y7, by omega⟩
            rw [List.replicate_succ', ← List.append_assoc, bs_append]
            exact hown7
          case measure => simp only; omega
        · have hlti : ¬ (8 : Int) + (np : Int) + (k : Int) < 192 := by omega
          have hfin : p8 ++ cc ++ List.replicate k 0 = sealB key place version plain := by
            have h8 := H8.out
            have hc := CL.out
            have hl := HL.out
            have hn := HNP.out
            rw [HS.out]
            unfold padB
            rw [List.take_append, List.take_of_length_le (by rw [List.length_append]; omega), List.take_replicate, List.length_append, h8, hc]
            congr 2
            omega
          rw [hfin] at own
          have hsl := sealB_length key place version plain
          have h192 : 8 + np + k = 192 := by omega
          have hrs := Reads.of_own own
          have hcs := run_string wr A6 c6 (sealB key place version plain) (by rw [hsl, ← h192]; exact hrs)
          rw [hsl, ← h192] at hcs
          clear hfin hsl h192 hlt hk6
          go_wp2
          go_ret2
          exact ⟨rfl, hw⟩
end Go.Proofs.YtkhebllmnagkmaaGreatDoor
/- What a slot of any bytes tells (plain): its version, its record, and what a load tells of slots. -/
namespace Go.Proofs.YtkhebllmnagkmaaGreatDoor
open Go.RowKit
set_option linter.unusedVariables false

def verB (s : List UInt8) : Nat := getB (s.take 8)
/-- May a slot be opened: its version, and noughts behind so many bytes. -/
def openOk (n : Nat) (s : List UInt8) : Bool := verB s != 0 && verB s != 18446744073709551615 && !((s.drop (8 + n)).any (· != 0))
def plainB (key : List UInt8) (place n : Nat) (s : List UInt8) : List UInt8 := crypt key (nonceB place (verB s)) ((s.drop 8).take n)
theorem plainB_length (key : List UInt8) (place n : Nat) (s : List UInt8) (h : 8 + n ≤ s.length) : (plainB key place n s).length = n := by
  unfold plainB
  rw [crypt_length, List.length_take, List.length_drop]
  omega
theorem verB_lt (s : List UInt8) : verB s < 18446744073709551616 := by
  have h := getB_lt (s.take 8)
  have h2 : (s.take 8).length ≤ 8 := by rw [List.length_take]; omega
  have h3 : 256 ^ (s.take 8).length ≤ 256 ^ 8 := Nat.pow_le_pow_right (by omega) h2
  have h4 : (256 : Nat) ^ 8 = 18446744073709551616 := by decide
  unfold verB
  omega
/-- No byte but noughts from n on, up to i. -/
def zeroTo (s : List UInt8) (n i : Nat) : Prop := ∀ j, n ≤ j → j < i → s[j]? = some 0
theorem zeroTo_any (s : List UInt8) (n : Nat) (h : zeroTo s n s.length) : (s.drop n).any (· != 0) = false := by
  rw [List.any_eq_false]
  intro x hx
  obtain ⟨k, hk⟩ := List.getElem?_of_mem hx
  rw [List.getElem?_drop] at hk
  have hlt := (List.getElem?_eq_some_iff.1 hk).1
  rw [h (n + k) (by omega) hlt] at hk
  injection hk with hk
  rw [← hk]
  simp
theorem any_of (s : List UInt8) (n i : Nat) (hn : n ≤ i) (hi : i < s.length) (h : s[i] ≠ 0) : (s.drop n).any (· != 0) = true := by
  rw [List.any_eq_true]
  refine ⟨s[i], ?_, by simpa using h⟩
  rw [List.mem_iff_getElem?]
  exact ⟨i - n, by rw [List.getElem?_drop, show n + (i - n) = i by omega, List.getElem?_eq_getElem hi]⟩
/-- Are bytes those of a record? -/
def recOk (p : List UInt8) : Bool := p.getD 0 0 == 1 && decide ((p.getD 1 0).toNat ≤ 1) && !(((p.take 8).drop 2).any (· != 0))
def recOf (p : List UInt8) : Rec := ((getB ((p.drop 8).take 8), p.drop 16), p.getD 1 0 == 1)
theorem recOf_lt (p : List UInt8) : (recOf p).1.1 < 18446744073709551616 := by
  have h := getB_lt ((p.drop 8).take 8)
  have h2 : ((p.drop 8).take 8).length ≤ 8 := by rw [List.length_take]; omega
  have h3 : 256 ^ ((p.drop 8).take 8).length ≤ 256 ^ 8 := Nat.pow_le_pow_right (by omega) h2
  have h4 : (256 : Nat) ^ 8 = 18446744073709551616 := by decide
  show getB ((p.drop 8).take 8) < _
  omega
/-- The record of a slot, if it is one. -/
def popV (key : List UInt8) (place : Nat) (s : List UInt8) : Option Rec := if openOk 176 s && recOk (plainB key place 176 s) then some (recOf (plainB key place 176 s)) else none
theorem popV_len {key : List UInt8} {place : Nat} {s : List UInt8} {r : Rec} (hs : s.length = 192) (h : popV key place s = some r) : r.1.2.length = 160 ∧ r.1.1 < 18446744073709551616 := by
  unfold popV at h
  split at h
  · injection h with h
    subst h
    refine ⟨?_, recOf_lt _⟩
    show ((plainB key place 176 s).drop 16).length = 160
    rw [List.length_drop, plainB_length _ _ _ _ (by omega)]
  · cases h
def popAll (key : List UInt8) : List (Nat × List UInt8) → Option (List Rec)
  | [] => some []
  | p :: l => match popV key p.1 p.2, popAll key l with
    | some r, some rs => some (r :: rs)
    | _, _ => none
/-- The slots up to one are records, and those are they. -/
def PopTo (key : List UInt8) (l : List (Nat × List UInt8)) (j : Nat) (rs : List Rec) : Prop := rs.length = j ∧ ∀ i, i < j → ∀ p, l[i]? = some p → ∃ r, rs[i]? = some r ∧ popV key p.1 p.2 = some r
theorem popAll_yes (key : List UInt8) : ∀ (l : List (Nat × List UInt8)) (rs : List Rec), PopTo key l l.length rs → popAll key l = some rs
  | [], rs, h => by rw [List.eq_nil_of_length_eq_zero h.1]; rfl
  | p :: l, rs, h => by
    obtain ⟨r, h1, h2⟩ := h.2 0 (by simp) p rfl
    cases rs with
    | nil => simp at h1
    | cons r' rs =>
      have h1 : r' = r := by simpa using h1
      subst h1
      have ih := popAll_yes key l rs ⟨by have := h.1; simpa using this, fun i hi q hq => by
        obtain ⟨r2, e1, e2⟩ := h.2 (i + 1) (by simpa using hi) q (by simpa using hq)
        exact ⟨r2, by simpa using e1, e2⟩⟩
      simp only [popAll, h2, ih]
theorem popAll_no (key : List UInt8) : ∀ (l : List (Nat × List UInt8)) (i : Nat) (p : Nat × List UInt8), l[i]? = some p → popV key p.1 p.2 = none → popAll key l = none
  | [], i, p, h, _ => by simp at h
  | q :: l, 0, p, h, hn => by
    have h : q = p := by simpa using h
    subst h
    simp only [popAll, hn]
  | q :: l, i + 1, p, h, hn => by
    have ih := popAll_no key l i p (by simpa using h) hn
    simp only [popAll, ih]
    split
    · rename_i h; cases h
    · rfl
theorem PopTo.snoc {key : List UInt8} {l : List (Nat × List UInt8)} {j : Nat} {rs : List Rec} {p : Nat × List UInt8} {r : Rec} (h : PopTo key l j rs) (hp : l[j]? = some p) (hr : popV key p.1 p.2 = some r) : PopTo key l (j + 1) (rs ++ [r]) := by
  refine ⟨by rw [List.length_append, h.1]; rfl, fun i hi q hq => ?_⟩
  rcases Nat.lt_or_ge i j with hlt | hge
  · obtain ⟨r2, e1, e2⟩ := h.2 i hlt q hq
    exact ⟨r2, by rw [List.getElem?_append_left (by rw [h.1]; exact hlt)]; exact e1, e2⟩
  · have : i = j := by omega
    subst this
    rw [hp] at hq
    injection hq with hq
    subst hq
    exact ⟨r, by rw [List.getElem?_append_right (by rw [h.1]; exact Nat.le_refl _), h.1, Nat.sub_self]; rfl, hr⟩
theorem PopTo.mem {key : List UInt8} {l : List (Nat × List UInt8)} {j : Nat} {rs : List Rec} (h : PopTo key l j rs) (hj : j ≤ l.length) {r : Rec} (hr : r ∈ rs) : ∃ p ∈ l, popV key p.1 p.2 = some r := by
  obtain ⟨i, hi⟩ := List.getElem?_of_mem hr
  have hlt : i < j := by
    have := (List.getElem?_eq_some_iff.1 hi).1
    rw [h.1] at this
    exact this
  have hlt2 : i < l.length := by omega
  obtain ⟨r2, e1, e2⟩ := h.2 i hlt _ (List.getElem?_eq_getElem hlt2)
  rw [hi] at e1
  injection e1 with e1
  subst e1
  exact ⟨_, List.getElem_mem hlt2, e2⟩
/-- The changes of records, if the last one ends one. -/
def lastYes (l : List Rec) : Bool := match l.getLast? with | some r => r.2 | none => true
def chgV (l : List Rec) : Option (List (List Img)) := if lastYes l then some (chg l).out else none
/-- What a load tells of slots. -/
def loadV (key stag : List UInt8) (slots : List (Nat × List UInt8)) : Option (List (List Img)) :=
  if tagOf (List.replicate 32 0) slots = stag then (popAll key slots).bind chgV else none
theorem loadV_tag {key stag : List UInt8} {slots : List (Nat × List UInt8)} (h : tagOf (List.replicate 32 0) slots ≠ stag) : loadV key stag slots = none := by unfold loadV; rw [if_neg h]
theorem loadV_pop {key stag : List UInt8} {slots : List (Nat × List UInt8)} (h : popAll key slots = none) : loadV key stag slots = none := by unfold loadV; rw [h]; split <;> rfl
theorem loadV_recs {key stag : List UInt8} {slots : List (Nat × List UInt8)} {rs : List Rec} (h : tagOf (List.replicate 32 0) slots = stag) (h2 : popAll key slots = some rs) : loadV key stag slots = chgV rs := by unfold loadV; rw [if_pos h, h2]; rfl
theorem chgV_yes {l : List Rec} (h : ∀ r, l.getLast? = some r → r.2 = true) : chgV l = some (chg l).out := by
  have hy : lastYes l = true := by
    unfold lastYes
    cases hl : l.getLast? with
    | none => rfl
    | some r => exact h r hl
  unfold chgV
  rw [if_pos hy]
theorem chgV_no {l : List Rec} {r : Rec} (h : l.getLast? = some r) (h2 : r.2 = false) : chgV l = none := by
  have hy : lastYes l = false := by
    unfold lastYes
    rw [h]
    exact h2
  unfold chgV
  rw [if_neg (by rw [hy]; exact Bool.false_ne_true)]
end Go.Proofs.YtkhebllmnagkmaaGreatDoor
