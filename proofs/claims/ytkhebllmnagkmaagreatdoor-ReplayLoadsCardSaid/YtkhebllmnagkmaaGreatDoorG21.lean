/- Contracts and lemmas under the statements of this seat, one behind the other. Conditions: what each names. -/
import Derived.Test.YtkhebllmnagkmaaGreatDoorG20
import Derived.Lib.AppendStr
/- Contract of the reference's digest of bytes. Conditions: what it names. -/
namespace Go.Proofs.YtkhebllmnagkmaaGreatDoor
open Go.RowKit
set_option linter.unusedVariables false

theorem part64_chunk (p : List UInt8) (j : Nat) : part64 p (64 * j) = chunk64 p j := rfl
set_option maxRecDepth 100000 in
set_option maxHeartbeats 4000000 in
theorem refOf_any (A : Option Addr) (len c : Nat) (l : List UInt8) (w : World) (hr : Reads w w.heap.size 1 A len (bs l)) (hl : len ≤ 1099511627000) :
    Calls Tryz.prog 73 #[.slice A len c] w fun e w' => e = .returned (.agg (bs (sha256 l)).toArray) ∧ Below w.heap.size w w' := by
  obtain ⟨i0, ii0, hz0, hz1, hz2⟩ := info_parts info5
  have hll : l.length = len := by have := hr.1; rw [bs_length] at this; omega
  subst hll
  have hone0 : ∀ u ∈ bs l, u.oneCell' = true := fun u hu => bs_one u hu
  have hone1 : ∀ (x : Int), ∀ u ∈ [Value.int .u8 x], u.oneCell' = true := by intro x u hu; simp only [List.mem_cons, List.not_mem_nil, or_false] at hu; rcases hu with rfl; rfl
  have hm0 : 0 + l.length ≤ maxLen := by unfold maxLen; omega
  have hm0' : (0 + l.length) * 1 ≤ 140737488355328 := by omega
  have hm1 : ∀ n, n ≤ 1099511628000 → n + 1 ≤ maxLen := fun n hn => by unfold maxLen; omega
  have hm1' : ∀ n, n ≤ 1099511628000 → (n + 1) * 1 ≤ 140737488355328 := fun n hn => by omega
  have hr1 := hr.alloc (Nat.le_refl _) (.cells (bs (List.replicate 32 0)).toArray 23)
  have k0 : Blk (w.alloc (.cells (bs (List.replicate 32 0)).toArray 23)) w.heap.size 23 (bs (List.replicate 32 0)).toArray := Blk.new _ _ _
  have hnews : ∀ (x : Int) (W : World), Reads (W.alloc (.cells #[Value.int .u8 x] 5)) (W.alloc (.cells #[Value.int .u8 x] 5)).heap.size 1 (some ⟨W.heap.size, 0, none⟩) 1 [Value.int .u8 x] := fun x W => Blk.rows (xs := [Value.int .u8 x]) 1 1 (Blk.new W 5 #[Value.int .u8 x]) rfl
  have far : ∀ {W : World} {v : Value} {n : Nat} {xs : List Value}, W.ownsRow (w.heap.size + 1) 5 1 v n xs → some w.heap.size ≠ v.ownBlock := fun h e => by have := (World.ownsRow.lt h _ e.symm).1; omega
  have lo : ∀ {W : World} {v : Value} {n : Nat} {xs : List Value}, W.ownsRow (w.heap.size + 1) 5 1 v n xs → ∀ k, v.ownBlock = some k → w.heap.size ≤ k := fun h k e => by have := (World.ownsRow.lt h _ e).1; omega
  have y0 : Below w.heap.size w (w.alloc (.cells (bs (List.replicate 32 0)).toArray 23)) := (Below.refl _ _).alloc (Nat.le_refl _) _
  have HM0 := Lib.hid hm0
  have HM0' := Lib.hid hm0'
  have HM1 := Lib.hid hm1
  have HM1' := Lib.hid hm1'
  clear hm0 hm0' hm1 hm1'
  go_enter Tryz.func73, Tryz.ntmps73
  go_wp2_with (first | (at_builtin; refine wpList_append_any _ rfl (.tmp 10) (.tmp 11) 55 rfl (w.heap.size + 1) 5 i0 _ 1 1 Tryz.underlying55 ii0 hz0 hz1 hz2 rfl (by omega) (.slice none 0 0) 0 [] rfl (World.ownsRow_nil _ _ _ _) _ A l.length c (bs l) rfl hr1 hone0 HM0.out HM0'.out (by simp) ?_; intro v1 w1 hown1 hg1 hat1; rw [Nat.zero_add, List.nil_append] at hown1; have q1 := k0.grown hg1 (by intro e; cases e); have y1 := y0.grown hg1 (by simp) (by intro k e; cases e); have s1 : w.heap.size + 1 ≤ w1.heap.size := (by have := hg1.size; simpa using this); obtain ⟨A1, c1, rfl⟩ := own_shape hown1; clear hg1 hat1) | (at_builtin; refine wpList_append_any _ rfl (.tmp 13) (.tmp 14) 55 rfl (w.heap.size + 1) 5 i0 _ 1 1 Tryz.underlying55 ii0 hz0 hz1 hz2 rfl (by omega) (.slice A1 l.length c1) l.length (bs l) rfl (World.ownsRow.alloc hown1 _) _ (some ⟨w1.heap.size, 0, none⟩) 1 1 [_] rfl (hnews 128 w1) (hone1 _) (HM1.out _ (by omega)) (HM1'.out _ (by omega)) (by simp; omega) ?_; intro v2 w2 hown2 hg2 hat2; have q2 := (q1.alloc (.cells #[Value.int .u8 128] 5)).grown hg2 (far hown1); have y2 := (y1.alloc y1.size (.cells #[Value.int .u8 128] 5)).grown hg2 (by simp; omega) (lo hown1); obtain ⟨A2, c2, rfl⟩ := own_shape hown2; clear hg2 hat2 hown1 q1 y1 s1))
  have own3 : w2.ownsRow (w.heap.size + 1) 5 1 (.slice A2 (l.length + 1) c2) (l.length + 1) (bs (l ++ [128])) := by rw [bs_append]; exact hown2
  clear hown2 k0 y0 hr1
  go_loopw [3] (fun v wr => ∃ (k : Nat) (A : Option Addr) (cp : Nat), k ≤ zerosFor l.length ∧ v = .slice A (l.length + 1 + k) cp ∧ wr.ownsRow (w.heap.size + 1) 5 1 (.slice A (l.length + 1 + k) cp) (l.length + 1 + k) (bs (l ++ [128] ++ List.replicate k 0)) ∧ Blk wr w.heap.size 23 (bs (List.replicate 32 0)).toArray ∧ Below w.heap.size w wr) (fun v _ => l.length + 1 + zerosFor l.length - (match v with | .slice _ n _ => n | _ => 0))
  case atStart => exact ⟨0, A2, c2, Nat.zero_le _, rfl, by simpa using own3, q2, y2⟩
  case round =>
    clear own3 q2 y2
    obtain ⟨k, A3, c3, hk, rfl, own, hz, hw⟩ := hrel
    have hz64 : zerosFor l.length < 64 := Nat.mod_lt _ (by omega)
    have hsw := hw.size
    by_cases hlt : k < zerosFor l.length
    · have hne : ((((l.length : Int) + 1 + (k : Int)) % 64) != 56) = true := by unfold zerosFor at hlt; rw [bne_iff_ne]; omega
      have hsb : w.heap.size + 1 ≤ wr.heap.size := by have := hz.lt; omega
      go_wp2_with (at_builtin; refine wpList_append_any _ rfl (.tmp 20) (.tmp 21) 55 rfl (w.heap.size + 1) 5 i0 _ 1 1 Tryz.underlying55 ii0 hz0 hz1 hz2 rfl (by omega) (.slice A3 (l.length + 1 + k) c3) (l.length + 1 + k) (bs (l ++ [128] ++ List.replicate k 0)) rfl (World.ownsRow.alloc own _) _ (some ⟨wr.heap.size, 0, none⟩) 1 1 [_] rfl (hnews 0 wr) (hone1 _) (HM1.out _ (by omega)) (HM1'.out _ (by omega)) (by simp; omega) ?_; intro v2 w2 hown2 hg2 hat2; have q2 := (hz.alloc (.cells #[Value.int .u8 0] 5)).grown hg2 (far own); have y2 := (hw.alloc hw.size (.cells #[Value.int .u8 0] 5)).grown hg2 (by simp; omega) (lo own); obtain ⟨A4, c4, rfl⟩ := own_shape hown2; clear hg2 hat2)
      go_roundw
      case rel =>
        refine ⟨k + 1, A4, c4, by omega, rfl, ?_, q2, y2⟩
        rw [List.replicate_succ', ← List.append_assoc, bs_append]
        exact hown2
      case measure => simp only; omega
    · have hkk : k = zerosFor l.length := by omega
      have hne : ((((l.length : Int) + 1 + (k : Int)) % 64) != 56) = false := by unfold zerosFor at hkk; rw [bne_eq_false_iff_eq]; omega
      have HK := Lib.hid hkk
      clear hkk
      go_wp2
      rw [HK.out] at own
      generalize hzz : zerosFor l.length = z at *
      have HZ := Lib.hid hzz
      clear hzz
      generalize hq : l ++ [128] ++ List.replicate z 0 = q at *
      have HQ := Lib.hid hq
      have hql : q.length = l.length + 1 + z := by rw [← hq]; simp; omega
      have HQL := Lib.hid hql
      clear hq hne hql
      obtain ⟨wo, rfl⟩ : ∃ wo : World, wo = wr := ⟨_, rfl⟩
      go_loopw [3, 5] (fun v s wr => ∃ (j : Nat) (A : Option Addr) (cp : Nat), j ≤ 8 ∧ s = .int .i64 (j : Int) ∧ v = .slice A (l.length + 1 + z + j) cp ∧ wr.ownsRow (w.heap.size + 1) 5 1 (.slice A (l.length + 1 + z + j) cp) (l.length + 1 + z + j) (bs (q ++ lenBytes (8 * l.length) j)) ∧ Blk wr w.heap.size 23 (bs (List.replicate 32 0)).toArray ∧ Below w.heap.size w wr) (fun _ s _ => 8 - (intOf s).toNat)
      case atStart => exact ⟨0, A3, c3, by omega, by simp, by rw [HK.out]; rfl, by simpa [lenBytes, HK.out] using own, hz, hw⟩
      case round =>
        clear own hz hw
        obtain ⟨j, A5, c5, hj, rfl, rfl, own, hz, hw⟩ := hrel
        have hsw := hw.size
        by_cases hlt : j < 8
        · have h0 : (0 : Int) ≤ 56 - 8 * (j : Int) := by omega
          have ht : (56 - 8 * (j : Int)).toNat = 56 - 8 * j := by omega
          have hw8 : IntKind.u64.wrap (56 - 8 * (j : Int)) = 56 - 8 * (j : Int) := by rw [IntKind.wrap_u64]; omega
          have hsb : w.heap.size + 1 ≤ wr.heap.size := by have := hz.lt; omega
          go_wp2_with (at_builtin; refine wpList_append_any _ rfl (.tmp 31) (.tmp 39) 55 rfl (w.heap.size + 1) 5 i0 _ 1 1 Tryz.underlying55 ii0 hz0 hz1 hz2 rfl (by omega) (.slice A5 (l.length + 1 + z + j) c5) (l.length + 1 + z + j) (bs (q ++ lenBytes (8 * l.length) j)) rfl (World.ownsRow.alloc own _) _ (some ⟨wr.heap.size, 0, none⟩) 1 1 [_] rfl (hnews ((l.length : Int) * 8 / 2 ^ (56 - 8 * j) % 256) wr) (hone1 _) (HM1.out _ (by omega)) (HM1'.out _ (by omega)) (by simp; omega) ?_; intro v2 w2 hown2 hg2 hat2; have q2 := (hz.alloc (.cells #[Value.int .u8 ((l.length : Int) * 8 / 2 ^ (56 - 8 * j) % 256)] 5)).grown hg2 (far own); have y2 := (hw.alloc hw.size (.cells #[Value.int .u8 ((l.length : Int) * 8 / 2 ^ (56 - 8 * j) % 256)] 5)).grown hg2 (by simp; omega) (lo own); obtain ⟨A4, c4, rfl⟩ := own_shape hown2; clear hg2 hat2 h0 ht hw8)
          go_roundw
          case rel =>
            refine ⟨j + 1, A4, c4, by omega, by go_num, rfl, ?_, q2, y2⟩
            have e : bs (q ++ lenBytes (8 * l.length) j) ++ [Value.int .u8 ((l.length : Int) * 8 / 2 ^ (56 - 8 * j) % 256)] = bs (q ++ lenBytes (8 * l.length) (j + 1)) := by
              rw [lenBytes_succ, ← List.append_assoc, bs_append (q ++ lenBytes (8 * l.length) j)]
              congr 1
              simp [bs, Int.mul_comm]
            rw [← e]
            exact hown2
          case measure => simp [intOf]; omega
        · have hj8 : j = 8 := by omega
          have hpad : q ++ lenBytes (8 * l.length) 8 = shaPad l := by rw [← HQ.out, ← HZ.out]; rfl
          have hn8 : l.length + 1 + z + j = (shaPad l).length := by rw [← hpad, List.length_append, HQL.out, lenBytes_length, hj8]
          rw [hn8] at own
          rw [hj8, hpad] at own
          have HN := Lib.hid hn8
          clear hj8 hpad hn8
          have hsb : w.heap.size + 1 ≤ wr.heap.size := by have := hz.lt; omega
          have z1 : (Tryz.prog.info? 179).map (·.size) = some (shaCells shaInit).size := by rw [shaCells_size]; kernel_rfl
          have z2 : (fw 8 fun _ => 0).size = (shaCells shaInit).size := by rw [fw_size, shaCells_size]
          have z3 := shaCells_one shaInit
          have Z1 := Lib.hid z1
          have Z2 := Lib.hid z2
          clear z1 z2
          go_wp2_with (first | ((with_reducible refine wpList_store_blk (o := ⟨none, .store 179 (.tmp 6) (.tmp 41), _, _, _, _⟩) rfl 179 (.tmp 6) (.tmp 41) rfl wr.heap.size (shaCells shaInit) rfl rfl 179 (fw 8 (fun _ => 0)) (Blk.new_of rfl rfl) Z1.out Z2.out z3 ?_); intro w3 k3 g3 s3; have S3 := Lib.hid s3; clear s3))
          rw [HN.out]
          have q3 : Blk w3 w.heap.size 23 (bs (List.replicate 32 0)).toArray := (hz.alloc (.cells (fw 8 fun _ => 0) 179)).grown g3 (by intro e; injection e with e; omega)
          have y3 : Below w.heap.size w w3 := (hw.alloc hw.size (.cells (fw 8 fun _ => 0) 179)).grown g3 (by simp; omega) (fun k e => by injection e with e; omega)
          have own3 : w3.ownsRow (w.heap.size + 1) 5 1 (.slice A5 (shaPad l).length c5) (shaPad l).length (bs (shaPad l)) := own_keep (World.ownsRow.alloc own (.cells (fw 8 fun _ => 0) 179)) (fun k e => g3.block k (by have := (World.ownsRow.lt own k e).2; simp; omega) (by intro e2; injection e2 with e2; have := (World.ownsRow.lt own k e).2; omega))
          obtain ⟨gh, hgh⟩ : ∃ gh, gh = wr.heap.size := ⟨_, rfl⟩
          have ghl : w.heap.size < gh := by omega
          have og : ∀ k, (Value.slice A5 (shaPad l).length c5).ownBlock = some k → k ≠ gh := fun k e => by have := (World.ownsRow.lt own k e).2; omega
          rw [← hgh] at k3
          rw [← hgh]
          have hp64 := (shaPad_length l).2
          have hp9 : 9 ≤ (shaPad l).length := by have := (shaPad_length l).1; omega
          have hpb : (shaPad l).length ≤ 1099511627776 := by have := (shaPad_length l).1; have : zerosFor l.length < 64 := Nat.mod_lt _ (by omega); omega
          have hso : shaOut (shaFold (shaPad l) (List.range (pieces (shaPad l).length))) 32 = sha256 l := by unfold sha256; exact rfl
          clear own hz hw g3 hgh hsb hlt hj HN HQL HQ HZ HK hsw hz64 hk
          generalize shaPad l = p at *
          have HSO := Lib.hid hso
          have HP64 := Lib.hid hp64
          have hpc : 64 * pieces p.length = p.length := by unfold pieces; omega
          have HPC := Lib.hid hpc
          clear hso hp64 hpc
          obtain ⟨g5, cp, hv5, hg5, hg5l⟩ := own3.form (by omega)
          injection hv5 with hA5 _ hc5
          subst hA5
          clear hc5
          obtain ⟨wo2, rfl⟩ : ∃ wo2 : World, wo2 = w3 := ⟨_, rfl⟩
          go_loopw [7] (fun ix wr => ∃ (j q : Nat), j ≤ pieces p.length ∧ q = 64 * j ∧ ix = .int .i64 (q : Int) ∧ Blk wr gh 179 (shaCells (shaFold p (List.range j))) ∧ wr.ownsRow (w.heap.size + 1) 5 1 (.slice (some ⟨g5, 0, none⟩) p.length c5) p.length (bs p) ∧ Blk wr w.heap.size 23 (bs (List.replicate 32 0)).toArray ∧ Below w.heap.size w wr) (fun ix _ => p.length - (intOf ix).toNat)
          case atStart => exact ⟨0, 0, by omega, rfl, rfl, k3, own3, q3, y3⟩
          case round =>
            clear k3 own3 q3 y3
            obtain ⟨j, q, hj, hq, rfl, kh, own, hz, hw⟩ := hrel
            by_cases hlt : q < p.length
            · have hqp : q + 64 ≤ p.length := by have := HPC.out; have : j < pieces p.length := by omega
                                                 omega
              have hok := shaFold_ok p (List.range j)
              have hst : shaCells (shaFold p (List.range (j + 1))) = shaCells (shaMix (part64 p q) (shaFold p (List.range j))) := by rw [List.range_succ, shaFold_snoc, hq]; rfl
              have hjp : j < pieces p.length := by have := HPC.out; omega
              have HST := Lib.hid hst
              have HQ := Lib.hid hq
              clear hst hq
              generalize shaFold p (List.range j) = s0 at *
              have hbl := fun W h => refBlock_any s0 g5 q c5 p W hok hqp hpb h
              have z1 : (Tryz.prog.info? 179).map (·.size) = some (shaCells s0).size := by rw [shaCells_size]; kernel_rfl
              have z2 : (shaCells s0).size = (shaCells (shaMix (part64 p q) s0)).size := by rw [shaCells_size, shaCells_size]
              have z4 : (Tryz.prog.info? 179).map (·.size) = some (shaCells (shaMix (part64 p q) s0)).size := by rw [shaCells_size]; kernel_rfl
              have z3 := shaCells_one (shaMix (part64 p q) s0)
              generalize shaCells (shaMix (part64 p q) s0) = S1 at *
              have Z1 := Lib.hid z1
              have Z2 := Lib.hid z2
              have Z4 := Lib.hid z4
              clear z1 z2 z4
              go_wp2_with (first | ((with_reducible refine wpList_load_blk (o := ⟨some 48, _, _, _, _, _⟩) rfl 179 _ rfl gh rfl 179 _ _ kh Tryz.underlying179 rfl Z1.out ?_)) | (go_at_call 92; refine (hbl _ (Reads.of_own own)).mono ?_; rintro e w5 ⟨rfl, b5⟩; have k5 := kh.below b5 kh.lt; have own5 := own_keep own (fun k e => b5.block k (World.ownsRow.lt own k e).2); have z5 := hz.below b5 hz.lt; have y5 := hw.trans (b5.mono hw.size)) | ((with_reducible refine wpList_store_blk (o := ⟨none, .store 179 (.tmp 6) (.tmp 51), _, _, _, _⟩) rfl 179 (.tmp 6) (.tmp 51) rfl gh S1 rfl rfl 179 (shaCells s0) k5 Z4.out Z2.out z3 ?_); intro w6 k6 g6 s6; have S6 := Lib.hid s6; clear s6))
              go_roundw
              case rel =>
                refine ⟨j + 1, q + 64, by omega, by have := HQ.out; omega, by go_num, by rw [HST.out]; exact k6, own_keep own5 (fun k e => g6.block k (World.ownsRow.lt own5 k e).2 (by intro e2; injection e2 with e2; exact og k e e2)), z5.grown g6 (by intro e; injection e with e; omega), y5.grown g6 y5.size (fun k e => by injection e with e; omega)⟩
              case measure => simp [intOf]; omega
            · have ej : j = pieces p.length := by have := HPC.out; omega
              rw [ej] at kh
              have hok := shaFold_ok p (List.range (pieces p.length))
              generalize shaFold p (List.range (pieces p.length)) = st at *
              clear ej hq og own
              go_wp2
              obtain ⟨go, hgo⟩ : ∃ go, go = wr.heap.size := ⟨_, rfl⟩
              have j1 := kh.alloc (.cells (bs (List.replicate 32 0)).toArray 23)
              have j2 := hz.alloc (.cells (bs (List.replicate 32 0)).toArray 23)
              have j3 : Blk (wr.alloc (.cells (bs (List.replicate 32 0)).toArray 23)) go 23 (bs (shaOut st 0 ++ List.replicate (32 - 0) 0)).toArray := by rw [hgo]; exact Blk.new _ _ _
              have i4 : Below w.heap.size w (wr.alloc (.cells (bs (List.replicate 32 0)).toArray 23)) := hw.alloc hw.size _
              have gol : gh < go := by rw [hgo]; exact kh.lt
              rw [← hgo]
              clear kh hz hw hgo
              obtain ⟨wo3, rfl⟩ : ∃ wo3 : World, wo3 = wr := ⟨_, rfl⟩
              go_loopw [9] (fun ix wr => ∃ k : Nat, k ≤ 32 ∧ ix = .int .i64 k ∧ Blk wr go 23 (bs (shaOut st k ++ List.replicate (32 - k) 0)).toArray ∧ Blk wr gh 179 (shaCells st) ∧ Blk wr w.heap.size 23 (bs (List.replicate 32 0)).toArray ∧ Below w.heap.size w wr) (fun ix _ => 32 - (intOf ix).toNat)
              case atStart => exact ⟨0, by omega, rfl, j3, j1, j2, i4⟩
              case round =>
                clear j1 j2 j3 i4
                obtain ⟨k, hk, rfl, b1, b2, b3, bw⟩ := hrel
                by_cases hlt2 : k < 32
                · have c1 := (b2.cell (k / 4)).trans (shaCells_get st (k / 4) (by omega))
                  have f1 := b1.frozen k
                  have c2 := (b1.cell k).trans (shaOut_get st k hlt2)
                  have hx := Sha.get_lt hok (k / 4)
                  have hst := shaOut_step st k hlt2
                  have HST := Lib.hid hst
                  clear hst
                  generalize st.list.getD (k / 4) 0 = x at *
                  have hs0 : (0 : Int) ≤ 24 - 8 * ((k : Int) % 4) := by omega
                  have hs1 : (24 - 8 * ((k : Int) % 4)).toNat = 24 - 8 * (k % 4) := by omega
                  have hs2 : IntKind.u64.wrap (24 - 8 * ((k : Int) % 4)) = 24 - 8 * ((k : Int) % 4) := by rw [IntKind.wrap_u64]; omega
                  go_wp2
                  go_roundw
                  case rel =>
                    have h := b1.set_ k (.int .u8 ((x / 2 ^ (24 - 8 * (k % 4)) % 256 : Nat) : Int))
                    rw [HST.out] at h
                    exact ⟨k + 1, by omega, by go_num, by simpa using h, b2.far (p := ⟨go, k, none⟩) (by show gh ≠ go; omega) _, b3.far (p := ⟨go, k, none⟩) (by show w.heap.size ≠ go; omega) _, bw.setCell (by show w.heap.size ≤ go; omega) _⟩
                  case measure => simp [intOf]; omega
                · have e32 : k = 32 := by omega
                  rw [e32, Nat.sub_self, List.replicate_zero, List.append_nil] at b1
                  clear e32
                  rw [HSO.out] at b1
                  have z1 : (Tryz.prog.info? 23).map (·.size) = some (bs (sha256 l)).toArray.size := by rw [List.size_toArray, bs_length, sha256_length]; kernel_rfl
                  have z2 : (bs (sha256 l)).toArray.all (·.oneCell') = true := bs_all _
                  have z3 : (bs (List.replicate 32 0)).toArray.size = (bs (sha256 l)).toArray.size := by rw [List.size_toArray, List.size_toArray, bs_length, bs_length, sha256_length]; rfl
                  generalize hfin : (bs (sha256 l)).toArray = fin at *
                  have HF := Lib.hid hfin
                  have Z1 := Lib.hid z1
                  have Z3 := Lib.hid z3
                  clear hfin z1 z3 HSO
                  go_wp2_with (first | ((with_reducible refine wpList_load_blk (o := ⟨some 69, _, _, _, _, _⟩) rfl 23 _ rfl go rfl 23 _ _ b1 Tryz.underlying23 rfl Z1.out ?_)) | ((with_reducible refine wpList_store_blk (o := ⟨none, .store 23 (.tmp 2) (.tmp 69), _, _, _, _⟩) rfl 23 (.tmp 2) (.tmp 69) rfl w.heap.size fin rfl rfl 23 _ b3 Z1.out Z3.out z2 ?_); intro w10 k10 g10 s10; have S10 := Lib.hid s10; clear s10))
                  exact ret_cell 2 23 rfl rfl w.heap.size 23 _ _ rfl k10 Tryz.underlying23 rfl Z1.out ⟨by rw [HF.out], bw.grown g10 bw.size (fun k e => by injection e with e; omega)⟩
end Go.Proofs.YtkhebllmnagkmaaGreatDoor
/- Contract of the reference's Link. Conditions: what it names. -/
namespace Go.Proofs.YtkhebllmnagkmaaGreatDoor
open Go.RowKit
set_option linter.unusedVariables false

theorem strCells_bs (b : List UInt8) : Lib.strCells ⟨b.toArray⟩ = bs b := by simp [Lib.strCells, bs]
set_option maxRecDepth 100000 in
set_option maxHeartbeats 4000000 in
theorem refLink_any (tag slot : List UInt8) (place : Nat) (w : World) (ht : tag.length = 32) (hp : place < 4294967296) (hs : slot.length ≤ 1000) :
    Calls Tryz.prog 41 #[.agg (bs tag).toArray, .int .u32 (place : Int), .string ⟨slot.toArray⟩] w fun e w' => e = .returned (.agg (bs (linkB tag place slot)).toArray) ∧ Below w.heap.size w w' := by
  obtain ⟨i0, ii0, hz0, hz1, hz2⟩ := info_parts info5
  have hfin : sha256 ([255] ++ tag ++ putB place 4 ++ slot) = linkB tag place slot := rfl
  have hput := fun W => ref01Put_any place 4 W (by omega) (by omega)
  have hone0 : ∀ l : List UInt8, ∀ u ∈ bs l, u.oneCell' = true := fun l u hu => bs_one u hu
  have hpl : (putB place 4).length = 4 := putB_length _ _
  have hw64 : IntKind.u64.wrap (place : Int) = (place : Int) := by rw [IntKind.wrap_u64]; omega
  have kt : Blk (w.alloc (.cells (bs tag).toArray 23)) w.heap.size 23 (bs tag).toArray := Blk.new _ _ _
  have kz := Blk.new (w.alloc (.cells (bs tag).toArray 23)) 23 (bs (List.replicate 32 0)).toArray
  obtain ⟨W0, hW0⟩ : ∃ W0 : World, W0 = ((w.alloc (.cells (bs tag).toArray 23)).alloc (.cells (bs (List.replicate 32 0)).toArray 23)).alloc (.cells #[.int .u8 255] 5) := ⟨_, rfl⟩
  have hs0 : W0.heap.size = w.heap.size + 3 := by rw [hW0]; simp
  have y0 : Below w.heap.size w W0 := by rw [hW0]; exact (((Below.refl _ _).alloc (Nat.le_refl _) _).alloc (by simp) _).alloc (by simp; omega) _
  have k1 : Blk W0 w.heap.size 23 (bs tag).toArray := by rw [hW0]; exact (kt.alloc _).alloc _
  have k2 : Blk W0 (w.heap.size + 1) 23 (bs (List.replicate 32 0)).toArray := by rw [hW0]; have := kz.alloc (.cells #[.int .u8 255] 5); simpa using this
  have o1 : W0.ownsRow (w.heap.size + 2) 5 1 (.slice (some ⟨w.heap.size + 2, 0, none⟩) 1 1) 1 (bs [255]) := by
    rw [hW0]
    have h := World.ownsRow_lit (base := w.heap.size + 2) (e := 5) (size := 1) ((w.alloc (.cells (bs tag).toArray 23)).alloc (.cells (bs (List.replicate 32 0)).toArray 23)) #[.int .u8 255] 1 (by simp) (by unfold maxLen; omega) rfl
    rw [show bs [(255 : UInt8)] = [Value.int .u8 255] from rfl]
    simpa using h
  have r1 : Reads W0 W0.heap.size 1 (some ⟨w.heap.size, 0, none⟩) 32 (bs tag) := by
    have h := Blk.rows (xs := bs tag) 32 1 k1 (by rw [bs_length, ht])
    exact h
  have m1 : 1 + 32 ≤ maxLen := by unfold maxLen; omega
  have m2 : 1 + 32 + 4 ≤ maxLen := by unfold maxLen; omega
  have m3 : 1 + 32 + 4 + (ByteArray.mk slot.toArray).size ≤ maxLen := by unfold maxLen; simp [ByteArray.size]; omega
  have m3' : 1 + 32 + 4 + (ByteArray.mk slot.toArray).size ≤ 140737488355328 := by simp [ByteArray.size]; omega
  have M1 := Lib.hid m1
  have M2 := Lib.hid m2
  have M3 := Lib.hid m3
  have M3' := Lib.hid m3'
  have HW0 := Lib.hid hW0
  have HS0 := Lib.hid hs0
  have HF := Lib.hid hfin
  have HPL := Lib.hid hpl
  have HTL := Lib.hid ht
  have hsb : w.heap.size + 2 ≤ W0.heap.size := by omega
  have Z1 : Hid ((Tryz.prog.info? 23).map (·.size) = some (bs (linkB tag place slot)).toArray.size) := Lib.hid (by rw [List.size_toArray, bs_length, linkB_length]; kernel_rfl)
  have Z3 : Hid ((bs (List.replicate 32 0)).toArray.size = (bs (linkB tag place slot)).toArray.size) := Lib.hid (by rw [List.size_toArray, List.size_toArray, bs_length, bs_length, linkB_length]; rfl)
  clear m1 m2 m3 m3' hW0 hs0 hfin kt kz hpl ht
  generalize putB place 4 = p4 at *
  go_enter Tryz.func41, Tryz.ntmps41
  go_wp2_with (first | (at_builtin; refine wpList_append_any _ rfl (.tmp 9) (.tmp 10) 55 rfl (w.heap.size + 2) 5 i0 _ 1 1 Tryz.underlying55 ii0 hz0 hz1 hz2 rfl (by omega) (.slice (some ⟨w.heap.size + 2, 0, none⟩) 1 1) 1 (bs [255]) rfl (by rw [HW0.out] at o1; exact o1) _ (some ⟨w.heap.size, 0, none⟩) 32 32 (bs tag) rfl (by rw [HW0.out] at r1; exact r1) (hone0 _) M1.out (by omega) (by rw [HW0.out] at hsb; exact hsb) ?_; intro v1 w1 hown1 hg1 hat1; have hg1 : W0.grownBy w1 _ := (by rw [HW0.out]; exact hg1); have q2 := k2.grown hg1 (by intro e; have := (World.ownsRow.lt o1 _ e.symm).1; omega); have y1 := y0.grown hg1 y0.size (fun k e => by have := (World.ownsRow.lt o1 _ e).1; omega); rw [← bs_append] at hown1; obtain ⟨A1, c1, rfl⟩ := own_shape hown1; have s1 := hg1.size; clear hg1 hat1) | (go_at_call 70; refine (hput _).mono ?_; rintro e w2 ⟨A2, c2, rfl, hown2, b2⟩; have own12 := own_keep hown1 (fun k e => b2.block k (World.ownsRow.lt hown1 k e).2); have p2 := q2.below b2 q2.lt; have y2 := y1.trans (b2.mono y1.size); have r2 := Reads.of_own hown2; have s2 := b2.size) | (at_builtin; refine wpList_append_any _ rfl (.tmp 12) (.tmp 15) 55 rfl (w.heap.size + 2) 5 i0 _ 1 1 Tryz.underlying55 ii0 hz0 hz1 hz2 rfl (by omega) (.slice A1 (1 + 32) c1) (1 + 32) (bs ([255] ++ tag)) rfl own12 _ A2 4 c2 (bs p4) rfl r2 (hone0 _) M2.out (by omega) (by omega) ?_; intro v3 w3 hown3 hg3 hat3; have p3 := p2.grown hg3 (by intro e; have := (World.ownsRow.lt own12 _ e.symm).1; omega); have y3 := y2.grown hg3 y2.size (fun k e => by have := (World.ownsRow.lt own12 _ e).1; omega); rw [← bs_append] at hown3; obtain ⟨A3, c3, rfl⟩ := own_shape hown3; have s3 := hg3.size; clear hg3 hat3 own12 p2) | (at_builtin; refine Lib.wpList_append_own_string _ rfl (.tmp 17) (.tmp 18) 55 9 rfl (w.heap.size + 2) 5 i0 Tryz.underlying55 Tryz.underlying9 ii0 hz0 hz1 hz2 (.slice A3 (1 + 32 + 4) c3) (1 + 32 + 4) (bs ([255] ++ tag ++ p4)) rfl hown3 ⟨slot.toArray⟩ rfl M3.out M3'.out (by omega) ?_; intro v4 w4 hown4 hg4 hat4; rw [strCells_bs, ← bs_append] at hown4; have p4' := p3.grown hg4 (by intro e; have := (World.ownsRow.lt hown3 _ e.symm).1; omega); have y4 := y3.grown hg4 y3.size (fun k e => by have := (World.ownsRow.lt hown3 _ e).1; omega); obtain ⟨A4, c4, rfl⟩ := own_shape hown4; have s4 := hg4.size; have hof := refOf_any A4 _ c4 ([255] ++ tag ++ p4 ++ slot) w4 (Reads.of_own hown4) (by simp [ByteArray.size]; omega); rw [HF.out] at hof; clear hg4 hat4) | (go_at_call 73; refine hof.mono ?_; rintro e w5 ⟨rfl, b5⟩; have p5 := p4'.below b5 p4'.lt; have y5 := y4.trans (b5.mono y4.size)) | ((with_reducible refine wpList_store_blk (o := ⟨none, .store 23 (.tmp 6) (.tmp 21), _, _, _, _⟩) rfl 23 (.tmp 6) (.tmp 21) rfl (w.heap.size + 1) (bs (linkB tag place slot)).toArray rfl rfl 23 _ p5 Z1.out Z3.out (bs_all _) ?_); intro w10 k10 g10 s10; have S10 := Lib.hid s10; clear s10))
  exact ret_cell 6 23 rfl rfl (w.heap.size + 1) 23 _ _ rfl k10 Tryz.underlying23 rfl Z1.out ⟨rfl, y5.grown g10 y5.size (fun k e => by injection e with e; omega)⟩
end Go.Proofs.YtkhebllmnagkmaaGreatDoor
