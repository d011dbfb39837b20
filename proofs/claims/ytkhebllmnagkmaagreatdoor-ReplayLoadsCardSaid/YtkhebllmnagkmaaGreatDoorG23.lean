/- Contracts and lemmas under the statements of this seat, one behind the other. Conditions: what each names. -/
import Derived.Test.YtkhebllmnagkmaaGreatDoorG22
import Derived.Lib.SmallJoins
import Derived.Test.YtkhebllmnagkmaaGreatDoorG6
import Derived.Test.YtkhebllmnagkmaaGreatDoorG19
/- Contract of the reference's block of ChaCha20. Conditions: what it names. -/
namespace Go.Proofs.YtkhebllmnagkmaaGreatDoor
open Go.RowKit
set_option linter.unusedVariables false

def chaStr : List UInt8 := [101, 120, 112, 97, 110, 100, 32, 51, 50, 45, 98, 121, 116, 101, 32, 107]
theorem chaStr_at : ∀ i, i < 4 → getB (chunk4 chaStr i) = cha4.getD i 0 := by decide
theorem chaFirst_str (key : List UInt8) (counter : Nat) (nonce : List UInt8) (i : Nat) (h : i < 4) : chaFirst key counter nonce i = getB (chunk4 chaStr i) := by
  rw [chaStr_at i h]
  unfold chaFirst
  rw [if_pos h]
theorem chaQ_one : ∀ k, k < 4 → chaQ k 0 = k ∧ chaQ k 1 = 4 + k ∧ chaQ k 2 = 8 + k ∧ chaQ k 3 = 12 + k := by decide
theorem chaQ_two : ∀ k, k < 4 → chaQ (4 + k) 0 = k ∧ chaQ (4 + k) 1 = 4 + (k + 1) % 4 ∧ chaQ (4 + k) 2 = 8 + (k + 2) % 4 ∧ chaQ (4 + k) 3 = 12 + (k + 3) % 4 := by decide
theorem refQ_one (k : Nat) (f : Nat → Nat) (w : World) (hf : ∀ i, f i < 4294967296) (hk : k < 4) :
    Calls Tryz.prog 114 #[.agg (fw 16 f), .int .i64 (k : Int), .int .i64 (4 + (k : Int)), .int .i64 (8 + (k : Int)), .int .i64 (12 + (k : Int))] w fun e w' => e = .returned (.agg (fw 16 (chaQuarter f k))) ∧ Below w.heap.size w w' := by
  have h := refQuarter_any k (4 + k) (8 + k) (12 + k) f w hf (by omega) (by omega) (by omega) (by omega) (by omega) (by omega)
  obtain ⟨e0, e1, e2, e3⟩ := chaQ_one k hk
  unfold chaQuarter
  rw [e0, e1, e2, e3]
  simpa using h
theorem refQ_two (k : Nat) (f : Nat → Nat) (w : World) (hf : ∀ i, f i < 4294967296) (hk : k < 4) :
    Calls Tryz.prog 114 #[.agg (fw 16 f), .int .i64 (k : Int), .int .i64 (4 + ((k : Int) + 1) % 4), .int .i64 (8 + ((k : Int) + 2) % 4), .int .i64 (12 + ((k : Int) + 3) % 4)] w fun e w' => e = .returned (.agg (fw 16 (chaQuarter f (4 + k)))) ∧ Below w.heap.size w w' := by
  have h := refQuarter_any k (4 + (k + 1) % 4) (8 + (k + 2) % 4) (12 + (k + 3) % 4) f w hf (by omega) (by omega) (by omega) (by omega) (by omega) (by omega)
  obtain ⟨e0, e1, e2, e3⟩ := chaQ_two k hk
  unfold chaQuarter
  rw [e0, e1, e2, e3]
  simpa using h
theorem chaOut_get (r f : Nat → Nat) (n k : Nat) (h : k < 4 * n) : (chaOut r f n)[k]? = some (UInt8.ofNat ((r (k / 4) + f (k / 4)) % 4294967296 / 2 ^ (8 * (k % 4)))) := by
  induction n with
  | zero => omega
  | succ n ih =>
    rw [chaOut_succ, List.getElem?_append, chaOut_length]
    split
    · exact ih (by assumption)
    · have e : k / 4 = n := by omega
      rw [e, show k - 4 * n = k % 4 by omega]
      have h4 : k % 4 < 4 := Nat.mod_lt _ (by omega)
      simp [putB, h4]
def chaPart (r f : Nat → Nat) (k : Nat) : List UInt8 := (chaOut r f 16).take k ++ List.replicate (64 - k) 0
theorem chaPart_step (r f : Nat → Nat) (k : Nat) (h : k < 64) : (bs (chaPart r f k)).toArray.setIfInBounds k (.int .u8 (((r (k / 4) + f (k / 4)) % 4294967296 / 2 ^ (8 * (k % 4)) % 256 : Nat) : Int)) = (bs (chaPart r f (k + 1))).toArray := by
  have hl : (chaOut r f 16).length = 64 := chaOut_length r f 16
  have hg := chaOut_get r f 16 k (by omega)
  obtain ⟨m, hm⟩ : ∃ m, 64 - k = m + 1 := ⟨64 - k - 1, by omega⟩
  have hm' : 64 - (k + 1) = m := by omega
  unfold chaPart
  have ht : (chaOut r f 16).take (k + 1) = (chaOut r f 16).take k ++ [UInt8.ofNat ((r (k / 4) + f (k / 4)) % 4294967296 / 2 ^ (8 * (k % 4)))] := by
    obtain ⟨hlt, hx⟩ := List.getElem?_eq_some_iff.1 hg
    rw [List.take_succ_eq_append_getElem hlt, hx]
  rw [hm, hm', ht, List.replicate_succ, List.setIfInBounds_toArray, bs_append, List.set_append_right _ _ (by rw [bs_length, List.length_take]; omega), bs_length, List.length_take, Nat.min_eq_left (by omega), Nat.sub_self, bs_append, bs_append, List.append_assoc]
  simp [bs]
theorem chaPart_get (r f : Nat → Nat) (k : Nat) (h : k < 64) : (bs (chaPart r f k)).toArray[k]? = some (.int .u8 0) := by
  have hl : (chaOut r f 16).length = 64 := chaOut_length r f 16
  unfold chaPart
  rw [List.getElem?_toArray, bs_get, List.getElem?_append_right (by rw [List.length_take]; omega), List.length_take, List.getElem?_replicate, if_pos (by omega)]
  rfl
theorem chaPart_all (r f : Nat → Nat) : chaPart r f 64 = chaOut r f 16 := by
  unfold chaPart
  rw [Nat.sub_self, List.replicate_zero, List.append_nil, List.take_of_length_le (by rw [chaOut_length]; omega)]
/-- The blocks of the reference's block that stay. -/
structure ChaFix (b : Nat) (key nonce : List UInt8) (w wr : World) : Prop where
  k : Blk wr b 23 (bs key).toArray
  n : Blk wr (b + 1) 154 (bs nonce).toArray
  r : Blk wr (b + 2) 177 (bs (List.replicate 64 0)).toArray
  s : wr.heap[b + 4]? = some (.cells (bs chaStr).toArray 5 (16, 17))
  hw : Below b w wr
section
variable {b : Nat} {key nonce : List UInt8} {w wr w' : World}
theorem ChaFix.set_ (h : ChaFix b key nonce w wr) {p : Addr} (hp : p.block = b + 3 ∨ b + 5 ≤ p.block) (u : Value) : ChaFix b key nonce w (wr.setCell p u) :=
  ⟨h.k.far (p := p) (by omega) u, h.n.far (p := p) (by omega) u, h.r.far (p := p) (by omega) u, (Below.heap_setCell wr p u (b + 4) (by omega)).trans h.s, h.hw.setCell (by omega) u⟩
theorem ChaFix.below (h : ChaFix b key nonce w wr) (hb : Below wr.heap.size wr w') : ChaFix b key nonce w w' :=
  ⟨h.k.below hb h.k.lt, h.n.below hb h.n.lt, h.r.below hb h.r.lt, (hb.block (b + 4) (Array.getElem?_eq_some_iff.1 h.s).1).trans h.s, h.hw.trans (hb.mono (Nat.le_of_lt h.k.lt))⟩
theorem ChaFix.grown (h : ChaFix b key nonce w wr) {g : Nat} (hg : wr.grownBy w' (some g)) (hp : b + 5 ≤ g) : ChaFix b key nonce w w' :=
  ⟨h.k.grown hg (by intro e; injection e with e; omega), h.n.grown hg (by intro e; injection e with e; omega), h.r.grown hg (by intro e; injection e with e; omega), (hg.block (b + 4) (Array.getElem?_eq_some_iff.1 h.s).1 (by intro e; injection e with e; omega)).trans h.s, h.hw.grown hg (Nat.le_of_lt h.k.lt) (fun k e => by injection e with e; omega)⟩
theorem ChaFix.reads_s (h : ChaFix b key nonce w wr) : Reads wr wr.heap.size 1 (some ⟨b + 4, 0, none⟩) 16 (bs chaStr) := by
  refine ⟨rfl, fun _ => ⟨_, rfl, (Array.getElem?_eq_some_iff.1 h.s).1, fun j u hu => ?_⟩⟩
  rw [add_head]
  exact (cell_of_row wr (b + 4) j _ _ _ h.s).trans (by rw [List.getElem?_toArray]; exact hu)
theorem ChaFix.drewN (h : ChaFix b key nonce w wr) (n : Nat) : ChaFix b key nonce w (wr.drewN n) := ⟨h.k, h.n, h.r, h.s, below_drewN h.hw n⟩
end
/-- A conversion whose run is known. -/
theorem wpList_convert_run {P : Program} {ops : Array Oper} {rest : List Oper} {o : Oper} {a : Act} {w : World} {Q : Exit → Act → World → Prop} (hgd : o.guard = none) (s d : TypeId) (x : Operand) (ho : o.op = .convert s d x) (v : Value) (w' : World)
    (hrun : (convert s d (a.eval x)).run P w = .ok v w') (h : wpList P ops Q rest (a.put o.dst v) w') : wpList P ops Q (o :: rest) a w := by
  refine wpList_plain hgd fun K hK' => ?_
  unfold Oper.wp
  simp only [execOp, ho, Sem.run_bind, hrun, Result.andThen_ok, Sem.run_pure]
  exact hK' _ _ h
set_option maxRecDepth 100000 in
set_option maxHeartbeats 4000000 in
theorem refCha_any (key : List UInt8) (counter : Nat) (nonce : List UInt8) (w : World) (hk : key.length = 32) (hn : nonce.length = 12) (hc : counter < 4294967296) :
    Calls Tryz.prog 91 #[.agg (bs key).toArray, .int .u32 (counter : Int), .agg (bs nonce).toArray] w fun e w' => e = .returned (.agg (bs (chaBlock key counter nonce)).toArray) ∧ Below w.heap.size w w' := by
  have z1 : (bs key).toArray.size = 32 := by simp [bs_length, hk]
  have z2 : (bs nonce).toArray.size = 12 := by simp [bs_length, hn]
  have hflt := chaFirst_lt key counter nonce hc
  have hstr := chaFirst_str key counter nonce
  have hkey := chaFirst_key key counter nonce
  have hnon := chaFirst_nonce key counter nonce
  have hcnt : chaFirst key counter nonce 12 = counter := rfl
  have hout : chaOut (chaRounds (chaFirst key counter nonce) 10) (chaFirst key counter nonce) 16 = chaBlock key counter nonce := by unfold chaBlock; rfl
  generalize chaFirst key counter nonce = f at *
  have HFL := Lib.hid hflt
  have HSTR := Lib.hid hstr
  have HKEY := Lib.hid hkey
  have HNON := Lib.hid hnon
  have HCNT := Lib.hid hcnt
  have HOUT := Lib.hid hout
  have Hk := Lib.hid hk
  have Hn := Lib.hid hn
  have Z1 := Lib.hid z1
  have Z2 := Lib.hid z2
  clear hflt hstr hkey hnon hcnt hout hk hn z1 z2
  obtain ⟨W3, hW3⟩ : ∃ W3 : World, W3 = (((w.alloc (.cells (bs key).toArray 23)).alloc (.cells (bs nonce).toArray 154)).alloc (.cells (bs (List.replicate 64 0)).toArray 177)).alloc (.cells (fw 16 fun _ => 0) 197) := ⟨_, rfl⟩
  have hs3 : W3.heap.size = w.heap.size + 4 := by rw [hW3]; simp
  have k3 : Blk W3 w.heap.size 23 (bs key).toArray := by rw [hW3]; exact (((Blk.new_of rfl rfl).alloc _).alloc _).alloc _
  have n3 : Blk W3 (w.heap.size + 1) 154 (bs nonce).toArray := by rw [hW3]; exact ((Blk.new_of (by simp) rfl).alloc _).alloc _
  have r3 : Blk W3 (w.heap.size + 2) 177 (bs (List.replicate 64 0)).toArray := by rw [hW3]; exact (Blk.new_of (by simp) rfl).alloc _
  have f3 : Blk W3 (w.heap.size + 3) 197 (fw 16 fun _ => 0) := by rw [hW3]; exact Blk.new_of (by simp) rfl
  have y3 : Below w.heap.size w W3 := by rw [hW3]; exact ((((Below.refl _ _).alloc (Nat.le_refl _) _).alloc (by simp) _).alloc (by simp; omega) _).alloc (by simp; omega) _
  have hcv := Joins.run_convert_bytes_const_at (P := Tryz.prog) W3 55 5 (bs chaStr).toArray 16 16 (w.heap.size + 4) hs3.symm Tryz.underlying55 Tryz.underlying5
  obtain ⟨W4, hW4⟩ : ∃ W4 : World, W4 = W3.alloc (.cells (bs chaStr).toArray 5 (16, 17)) := ⟨_, rfl⟩
  have F4 : ChaFix w.heap.size key nonce w W4 := by rw [hW4]; exact ⟨k3.alloc _, n3.alloc _, r3.alloc _, by rw [← hs3]; exact heap_alloc_new W3 _, y3.alloc (by omega) _⟩
  have f4 : Blk W4 (w.heap.size + 3) 197 (fw 16 (upTo f 0)) := by rw [hW4]; exact f3.alloc _
  have hs4 : W4.heap.size = w.heap.size + 5 := by rw [hW4, size_alloc', hs3]
  have hcv' : (convert 55 55 (.slice (some ⟨w.heap.size + 4, 0, none⟩) 16 16)).run Tryz.prog (W3.alloc (.cells (bs chaStr).toArray 5)) = .ok (.slice (some ⟨w.heap.size + 4, 0, none⟩) 16 16) W4 := by rw [hW4]; exact hcv
  rw [hW3] at hcv'
  have HW3 := Lib.hid hW3
  have HS4 := Lib.hid hs4
  clear hW3 hs3 k3 n3 r3 f3 y3 hcv hW4 hs4
  go_enter Tryz.func91, Tryz.ntmps91
  go_wp2_with (first | (refine wpList_convert_run (o := ⟨some 20, _, _, _, _, _⟩) rfl 55 55 (.tmp 19) rfl _ _ hcv' ?_; clear hcv'))
  have hs4 : w.heap.size + 5 ≤ W4.heap.size := by rw [HS4.out]; omega
  go_loopw [9] (fun ix wr => ∃ t : Nat, t ≤ 4 ∧ ix = .int .i64 t ∧ ChaFix w.heap.size key nonce w wr ∧ Blk wr (w.heap.size + 3) 197 (fw 16 (upTo f t)) ∧ w.heap.size + 5 ≤ wr.heap.size) (fun ix _ => 4 - (intOf ix).toNat)
  case atStart => exact ⟨0, by omega, rfl, F4, f4, hs4⟩
  case round =>
    clear F4 f4 hs4
    obtain ⟨t, ht, rfl, F, b3, hs⟩ := hrel
    by_cases hlt : t < 4
    · have hst := upTo_step 16 f t
      rw [HSTR.out t hlt] at hst
      have hat := refAt_any (some ⟨w.heap.size + 4, 0, none⟩) 16 16 t chaStr wr F.reads_s (by omega) (by omega)
      generalize getB (chunk4 chaStr t) = x at *
      have hc1 := (b3.cell t).trans (fw_get 16 _ t (by omega))
      have hf1 := b3.frozen t
      have HST := Lib.hid hst
      generalize upTo f t t = y at *
      clear hst
      go_wp2_with (go_at_call 113; refine hat.mono ?_; rintro e w' ⟨rfl, rfl⟩; clear hat)
      go_roundw
      case rel =>
        have h := b3.set_ t (.int .u32 (x : Int))
        rw [HST.out] at h
        exact ⟨t + 1, by omega, by go_num, F.set_ (p := ⟨w.heap.size + 3, t, none⟩) (.inl rfl) _, h, by simpa [World.setCell] using hs⟩
      case measure => simp [intOf]; omega
    · have h4 : t = 4 := by omega
      rw [h4] at b3
      clear h4
      go_wp2
      obtain ⟨wo, rfl⟩ : ∃ wo : World, wo = wr := ⟨_, rfl⟩
      go_loopw [10] (fun ix wr => ∃ t : Nat, t ≤ 8 ∧ ix = .int .i64 t ∧ ChaFix w.heap.size key nonce w wr ∧ Blk wr (w.heap.size + 3) 197 (fw 16 (upTo f (4 + t))) ∧ w.heap.size + 5 ≤ wr.heap.size) (fun ix _ => 8 - (intOf ix).toNat)
      case atStart => exact ⟨0, by omega, rfl, F, b3, hs⟩
      case round =>
        clear F b3 hs
        obtain ⟨t, ht, rfl, F, b3, hs⟩ := hrel
        by_cases hlt : t < 8
        · have hst := upTo_step 16 f (4 + t)
          rw [HKEY.out t hlt] at hst
          have hr := F.k.reads
          rw [Hk.out] at hr
          have hat := refAt_any (some ⟨w.heap.size, 0, none⟩) 32 32 t key wr hr (by omega) (by omega)
          generalize getB (chunk4 key t) = x at *
          have hc1 := (b3.cell (4 + t)).trans (fw_get 16 _ (4 + t) (by omega))
          have hf1 := b3.frozen (4 + t)
          have e4 : ((4 : Int) + (t : Int)).toNat = 4 + t := by omega
          have HST := Lib.hid hst
          generalize upTo f (4 + t) (4 + t) = y at *
          clear hst hr
          go_wp2_with (go_at_call 113; refine hat.mono ?_; rintro e w' ⟨rfl, rfl⟩; clear hat)
          go_roundw
          case rel =>
            have h := b3.set_ (4 + t) (.int .u32 (x : Int))
            rw [HST.out] at h
            exact ⟨t + 1, by omega, by go_num, F.set_ (p := ⟨w.heap.size + 3, 4 + t, none⟩) (.inl rfl) _, h, by simpa [World.setCell] using hs⟩
          case measure => simp [intOf]; omega
        · have h8 : t = 8 := by omega
          rw [h8, show 4 + 8 = 12 from rfl] at b3
          clear h8
          have hst := upTo_step 16 f 12
          rw [HCNT.out] at hst
          have hc1 := (b3.cell 12).trans (fw_get 16 _ 12 (by omega))
          have hf1 := b3.frozen 12
          have b4 := b3.set_ 12 (.int .u32 (counter : Int))
          rw [hst] at b4
          have F5 := F.set_ (p := ⟨w.heap.size + 3, 12, none⟩) (.inl rfl) (.int .u32 (counter : Int))
          have hs5 : w.heap.size + 5 ≤ (wr.setCell ⟨w.heap.size + 3, 12, none⟩ (.int .u32 (counter : Int))).heap.size := by simpa [World.setCell] using hs
          generalize upTo f 12 12 = y at *
          clear hst b3 F
          go_wp2
          clear hc1 hf1
          obtain ⟨wo2, rfl⟩ : ∃ wo2 : World, wo2 = wr := ⟨_, rfl⟩
          go_loopw [11] (fun ix wr => ∃ t : Nat, t ≤ 3 ∧ ix = .int .i64 t ∧ ChaFix w.heap.size key nonce w wr ∧ Blk wr (w.heap.size + 3) 197 (fw 16 (upTo f (13 + t))) ∧ w.heap.size + 5 ≤ wr.heap.size) (fun ix _ => 3 - (intOf ix).toNat)
          case atStart => exact ⟨0, by omega, rfl, F5, b4, hs5⟩
          case round =>
            clear F5 b4 hs5
            obtain ⟨t, ht, rfl, F, b3, hs⟩ := hrel
            by_cases hlt : t < 3
            · have hst := upTo_step 16 f (13 + t)
              rw [HNON.out t] at hst
              have hr := F.n.reads
              rw [Hn.out] at hr
              have hat := refAt_any (some ⟨w.heap.size + 1, 0, none⟩) 12 12 t nonce wr hr (by omega) (by omega)
              generalize getB (chunk4 nonce t) = x at *
              have hc1 := (b3.cell (13 + t)).trans (fw_get 16 _ (13 + t) (by omega))
              have hf1 := b3.frozen (13 + t)
              have e4 : ((13 : Int) + (t : Int)).toNat = 13 + t := by omega
              have HST := Lib.hid hst
              generalize upTo f (13 + t) (13 + t) = y at *
              clear hst hr
              go_wp2_with (go_at_call 113; refine hat.mono ?_; rintro e w' ⟨rfl, rfl⟩; clear hat)
              go_roundw
              case rel =>
                have h := b3.set_ (13 + t) (.int .u32 (x : Int))
                rw [HST.out] at h
                exact ⟨t + 1, by omega, by go_num, F.set_ (p := ⟨w.heap.size + 3, 13 + t, none⟩) (.inl rfl) _, h, by simpa [World.setCell] using hs⟩
              case measure => simp [intOf]; omega
            · have h3 : t = 3 := by omega
              rw [h3, show 13 + 3 = 16 from rfl, upTo_all] at b3
              clear h3
              have t1 := fw_one 16 f
              have t2 : (fw 16 fun _ => 0).size = (fw 16 f).size := by rw [fw_size, fw_size]
              have t3 : (Tryz.prog.info? 197).map (·.size) = some (fw 16 f).size := by rw [fw_size]; kernel_rfl
              have T2 := Lib.hid t2
              have T3 := Lib.hid t3
              clear t2 t3
              go_wp2_with (first | ((with_reducible refine wpList_load_blk (o := ⟨some 55, _, _, _, _, _⟩) rfl 197 _ rfl (w.heap.size + 3) rfl 197 _ _ b3 Tryz.underlying197 rfl T3.out ?_)) | ((with_reducible refine wpList_store_blk (o := ⟨none, .store 197 (.tmp 12) (.tmp 55), _, _, _, _⟩) rfl 197 (.tmp 12) (.tmp 55) rfl wr.heap.size (fw 16 f) rfl rfl 197 (fw 16 fun _ => 0) (Blk.new_of rfl rfl) T3.out T2.out t1 ?_); intro w6 k6 g6 s6; have S6 := Lib.hid s6; clear s6))
              obtain ⟨gv, hgv0⟩ : ∃ gv, gv = wr.heap.size := ⟨_, rfl⟩
              have hgv : w.heap.size + 5 ≤ gv := by omega
              have F6 : ChaFix w.heap.size key nonce w w6 := (F.below ((Below.refl _ wr).alloc (Nat.le_refl _) (.cells (fw 16 fun _ => 0) 197))).grown g6 hs
              have b6 : Blk w6 (w.heap.size + 3) 197 (fw 16 f) := (b3.alloc (.cells (fw 16 fun _ => 0) 197)).grown g6 (by intro e; injection e with e; omega)
              rw [← hgv0] at k6
              rw [← hgv0]
              clear F b3 g6 S6 hgv0 hs t1
              obtain ⟨wo3, rfl⟩ : ∃ wo3 : World, wo3 = w6 := ⟨_, rfl⟩
              go_loopw [13] (fun ix wr => ∃ k : Nat, k ≤ 10 ∧ ix = .int .i64 k ∧ ChaFix w.heap.size key nonce w wr ∧ Blk wr (w.heap.size + 3) 197 (fw 16 f) ∧ Blk wr gv 197 (fw 16 (chaRounds f k))) (fun ix _ => 10 - (intOf ix).toNat)
              case atStart => exact ⟨0, by omega, rfl, F6, b6, by rw [chaRounds_zero]; exact k6⟩
              case round =>
                clear F6 b6 k6
                obtain ⟨k, hk10, rfl, F, b3, kv⟩ := hrel
                by_cases hlk : k < 10
                · have hgl := chaRounds_lt f HFL.out k
                  have hsr := chaRounds_succ f k
                  generalize chaRounds f k = g at *
                  have HGL := Lib.hid hgl
                  have HSR := Lib.hid hsr
                  clear hgl hsr
                  rw [← chaDouble_zero g] at kv
                  have hkd : decide ((k : Int) < 10) = true := by rw [decide_eq_true_eq]; omega
                  go_wp2
                  obtain ⟨wo4, rfl⟩ : ∃ wo4 : World, wo4 = wr := ⟨_, rfl⟩
                  go_loopw [14] (fun jx wr => ∃ j : Nat, j ≤ 4 ∧ jx = .int .i64 j ∧ ChaFix w.heap.size key nonce w wr ∧ Blk wr (w.heap.size + 3) 197 (fw 16 f) ∧ Blk wr gv 197 (fw 16 (chaDouble g j))) (fun jx _ => 4 - (intOf jx).toNat)
                  case atStart => exact ⟨0, by omega, rfl, F, b3, kv⟩
                  case round =>
                    clear F b3 kv
                    obtain ⟨j, hj, rfl, F, b3, kv⟩ := hrel
                    by_cases hlj : j < 4
                    · have hq := fun W => refQ_one j (chaDouble g j) W (chaDouble_lt g HGL.out _) hlj
                      have hsu := chaDouble_succ g j
                      have t1 := fw_one 16 (chaQuarter (chaDouble g j) j)
                      have t2 : (fw 16 (chaDouble g j)).size = (fw 16 (chaQuarter (chaDouble g j) j)).size := by rw [fw_size, fw_size]
                      have t3 : (Tryz.prog.info? 197).map (·.size) = some (fw 16 (chaQuarter (chaDouble g j) j)).size := by rw [fw_size]; kernel_rfl
                      have t4 : (Tryz.prog.info? 197).map (·.size) = some (fw 16 (chaDouble g j)).size := by rw [fw_size]; kernel_rfl
                      have T2 := Lib.hid t2
                      have T3 := Lib.hid t3
                      have T4 := Lib.hid t4
                      have HSU := Lib.hid hsu
                      clear t2 t3 t4 hsu
                      go_wp2_with (first | ((with_reducible refine wpList_load_blk (o := ⟨some 64, _, _, _, _, _⟩) rfl 197 _ rfl gv rfl 197 _ _ kv Tryz.underlying197 rfl T4.out ?_)) | (go_at_call 114; refine (hq _).mono ?_; rintro e w5 ⟨rfl, b5⟩; have kv5 := kv.below b5 kv.lt; have b35 := b3.below b5 b3.lt; have F5 := F.below b5; clear hq) | ((with_reducible refine wpList_store_blk (o := ⟨none, .store 197 (.tmp 12) (.tmp 72), _, _, _, _⟩) rfl 197 (.tmp 12) (.tmp 72) rfl gv (fw 16 (chaQuarter (chaDouble g j) j)) rfl rfl 197 _ kv5 T3.out T2.out t1 ?_); intro w6 k6 g6 s6; have S6 := Lib.hid s6; clear s6))
                      go_roundw
                      case rel =>
                        rw [← HSU.out] at k6
                        exact ⟨j + 1, by omega, by go_num, F5.grown g6 hgv, b35.grown g6 (by intro e; injection e with e; omega), k6⟩
                      case measure => simp [intOf]; omega
                    · have ej : j = 4 := by omega
                      rw [ej] at kv
                      clear ej
                      go_wp2
                      obtain ⟨wo5, rfl⟩ : ∃ wo5 : World, wo5 = wr := ⟨_, rfl⟩
                      go_loopw [15] (fun jx wr => ∃ j : Nat, j ≤ 4 ∧ jx = .int .i64 j ∧ ChaFix w.heap.size key nonce w wr ∧ Blk wr (w.heap.size + 3) 197 (fw 16 f) ∧ Blk wr gv 197 (fw 16 (chaDouble g (4 + j)))) (fun jx _ => 4 - (intOf jx).toNat)
                      case atStart => exact ⟨0, by omega, rfl, F, b3, kv⟩
                      case round =>
                        clear F b3 kv
                        obtain ⟨j, hj, rfl, F, b3, kv⟩ := hrel
                        by_cases hlj : j < 4
                        · have hq := fun W => refQ_two j (chaDouble g (4 + j)) W (chaDouble_lt g HGL.out _) hlj
                          have hsu := chaDouble_succ g (4 + j)
                          have t1 := fw_one 16 (chaQuarter (chaDouble g (4 + j)) (4 + j))
                          have t2 : (fw 16 (chaDouble g (4 + j))).size = (fw 16 (chaQuarter (chaDouble g (4 + j)) (4 + j))).size := by rw [fw_size, fw_size]
                          have t3 : (Tryz.prog.info? 197).map (·.size) = some (fw 16 (chaQuarter (chaDouble g (4 + j)) (4 + j))).size := by rw [fw_size]; kernel_rfl
                          have t4 : (Tryz.prog.info? 197).map (·.size) = some (fw 16 (chaDouble g (4 + j))).size := by rw [fw_size]; kernel_rfl
                          have T2 := Lib.hid t2
                          have T3 := Lib.hid t3
                          have T4 := Lib.hid t4
                          have HSU := Lib.hid hsu
                          clear t2 t3 t4 hsu
                          go_wp2_with (first | ((with_reducible refine wpList_load_blk (o := ⟨some 77, _, _, _, _, _⟩) rfl 197 _ rfl gv rfl 197 _ _ kv Tryz.underlying197 rfl T4.out ?_)) | (go_at_call 114; refine (hq _).mono ?_; rintro e w5 ⟨rfl, b5⟩; have kv5 := kv.below b5 kv.lt; have b35 := b3.below b5 b3.lt; have F5 := F.below b5; clear hq) | ((with_reducible refine wpList_store_blk (o := ⟨none, .store 197 (.tmp 12) (.tmp 91), _, _, _, _⟩) rfl 197 (.tmp 12) (.tmp 91) rfl gv (fw 16 (chaQuarter (chaDouble g (4 + j)) (4 + j))) rfl rfl 197 _ kv5 T3.out T2.out t1 ?_); intro w6 k6 g6 s6; have S6 := Lib.hid s6; clear s6))
                          go_roundw
                          case rel =>
                            rw [← HSU.out] at k6
                            exact ⟨j + 1, by omega, by go_num, F5.grown g6 hgv, b35.grown g6 (by intro e; injection e with e; omega), by rw [← Nat.add_assoc]; exact k6⟩
                          case measure => simp [intOf]; omega
                        · have ej : j = 4 := by omega
                          rw [ej] at kv
                          clear ej
                          go_wp2
                          go_roundw
                          case rel => exact ⟨k + 1, by omega, by go_num, F, b3, by rw [HSR.out]; exact kv⟩
                          case measure => simp [intOf]; omega
                · have ek : k = 10 := by omega
                  rw [ek] at kv
                  clear ek
                  have hkd : ¬ (k : Int) < 10 := by omega
                  have hout := HOUT.out
                  generalize chaRounds f 10 = r at *
                  have HO := Lib.hid hout
                  clear hout HOUT
                  go_wp2
                  obtain ⟨go, hgo⟩ : ∃ go, go = wr.heap.size := ⟨_, rfl⟩
                  have gvl : gv < go := by rw [hgo]; exact kv.lt
                  have q1 := F.below ((Below.refl _ wr).alloc (Nat.le_refl _) (.cells (bs (List.replicate 64 0)).toArray 177))
                  have q2 := b3.alloc (.cells (bs (List.replicate 64 0)).toArray 177)
                  have q3 := kv.alloc (.cells (bs (List.replicate 64 0)).toArray 177)
                  have q4 : Blk (wr.alloc (.cells (bs (List.replicate 64 0)).toArray 177)) go 177 (bs (chaPart r f 0)).toArray := by rw [hgo]; exact Blk.new _ _ _
                  rw [← hgo]
                  clear F b3 kv hgo
                  obtain ⟨wo6, rfl⟩ : ∃ wo6 : World, wo6 = wr := ⟨_, rfl⟩
                  go_loopw [17, 18] (fun ix _ wr => ∃ i : Nat, i ≤ 64 ∧ ix = .int .i64 i ∧ ChaFix w.heap.size key nonce w wr ∧ Blk wr (w.heap.size + 3) 197 (fw 16 f) ∧ Blk wr gv 197 (fw 16 r) ∧ Blk wr go 177 (bs (chaPart r f i)).toArray) (fun ix _ _ => 64 - (intOf ix).toNat)
                  case atStart => exact ⟨0, by omega, rfl, q1, q2, q3, q4⟩
                  case round =>
                    clear q1 q2 q3 q4
                    obtain ⟨i, hi, rfl, F, b3, kv, ko⟩ := hrel
                    by_cases hli : i < 64
                    · have x1 := (kv.cell (i / 4)).trans (fw_get 16 _ (i / 4) (by omega))
                      have x2 := (b3.cell (i / 4)).trans (fw_get 16 _ (i / 4) (by omega))
                      have hst := chaPart_step r f i hli
                      have x3 := (ko.cell i).trans (chaPart_get r f i hli)
                      have hfo := ko.frozen i
                      generalize r (i / 4) = x at *
                      generalize f (i / 4) = y at *
                      have HST := Lib.hid hst
                      clear hst
                      have d1 : (0 : Int) ≤ (i : Int) / 4 := by omega
                      have d2 : (i : Int) / 4 < 16 := by omega
                      have d3 : ((i : Int) / 4).toNat = i / 4 := by omega
                      go_wp2
                      go_quiet (fail)
                      obtain ⟨w7, hw7⟩ : ∃ w7 : World, w7 = wr.drewN nq := ⟨_, rfl⟩
                      rw [← hw7]
                      have F : ChaFix w.heap.size key nonce w w7 := by rw [hw7]; exact F.drewN nq
                      have b3 : Blk w7 (w.heap.size + 3) 197 (fw 16 f) := by rw [hw7]; exact b3
                      have kv : Blk w7 gv 197 (fw 16 r) := by rw [hw7]; exact kv
                      have ko : Blk w7 go 177 (bs (chaPart r f i)).toArray := by rw [hw7]; exact ko
                      have x3 : w7.cell? ⟨go, i, none⟩ = some (.int .u8 0) := by rw [hw7]; exact x3
                      have hfo : w7.frozen? ⟨go, i, none⟩ = false := by rw [hw7]; exact hfo
                      clear hw7 x1 x2 d1 d2 d3
                      have hs0 : (0 : Int) ≤ 8 * ((i : Int) % 4) := by omega
                      have hs1 : (8 * ((i : Int) % 4)).toNat = 8 * (i % 4) := by omega
                      have hs2 : IntKind.u64.wrap (8 * ((i : Int) % 4)) = 8 * ((i : Int) % 4) := by rw [IntKind.wrap_u64]; omega
                      go_wp2
                      go_roundw
                      case rel =>
                        have h := ko.set_ i (.int .u8 (((x + y) % 4294967296 / 2 ^ (8 * (i % 4)) % 256 : Nat) : Int))
                        rw [HST.out] at h
                        exact ⟨i + 1, by omega, by go_num, F.set_ (p := ⟨go, i, none⟩) (.inr (by show w.heap.size + 5 ≤ go; omega)) _, b3.far (p := ⟨go, i, none⟩) (by show w.heap.size + 3 ≠ go; omega) _, kv.far (p := ⟨go, i, none⟩) (by show gv ≠ go; omega) _, by simpa using h⟩
                      case measure => simp [intOf]; omega
                    · have e64 : i = 64 := by omega
                      rw [e64, chaPart_all, HO.out] at ko
                      clear e64
                      have t1 : (Tryz.prog.info? 177).map (·.size) = some (bs (chaBlock key counter nonce)).toArray.size := by rw [List.size_toArray, bs_length, chaBlock_length]; kernel_rfl
                      have t2 : (bs (List.replicate 64 0)).toArray.size = (bs (chaBlock key counter nonce)).toArray.size := by rw [List.size_toArray, List.size_toArray, bs_length, bs_length, chaBlock_length]; rfl
                      have t3 := bs_all (chaBlock key counter nonce)
                      have kr := F.r
                      have hw := F.hw
                      generalize hfin : (bs (chaBlock key counter nonce)).toArray = fin at *
                      have HF := Lib.hid hfin
                      have T1 := Lib.hid t1
                      have T2' := Lib.hid t2
                      clear hfin t1 t2 F b3 kv HO
                      go_wp2_with (first | ((with_reducible refine wpList_load_blk (o := ⟨some 114, _, _, _, _, _⟩) rfl 177 _ rfl go rfl 177 _ _ ko Tryz.underlying177 rfl T1.out ?_)) | ((with_reducible refine wpList_store_blk (o := ⟨none, .store 177 (.tmp 6) (.tmp 114), _, _, _, _⟩) rfl 177 (.tmp 6) (.tmp 114) rfl (w.heap.size + 2) fin rfl rfl 177 _ kr T1.out T2'.out t3 ?_); intro w10 k10 g10 s10; have S10 := Lib.hid s10; clear s10))
                      exact ret_cell 6 177 rfl rfl (w.heap.size + 2) 177 _ _ rfl k10 Tryz.underlying177 rfl T1.out ⟨by rw [HF.out], hw.grown g10 hw.size (fun k e => by injection e with e; omega)⟩
end Go.Proofs.YtkhebllmnagkmaaGreatDoor
/- Contracts of the reference's nonce, and of its ChaCha20 over bytes. Conditions: what each names. -/
namespace Go.Proofs.YtkhebllmnagkmaaGreatDoor
open Go.RowKit
set_option linter.unusedVariables false

theorem own_some' {w : World} {base : Nat} {e : TypeId} {size n c : Nat} {A : Option Addr} {xs : List Value} (h : w.ownsRow base e size (.slice A n c) n xs) (hn : 0 < n) : ∃ g, A = some ⟨g, 0, none⟩ ∧ base ≤ g ∧ g < w.heap.size ∧ n ≤ c := by
  rcases h.2 with ⟨_, h0⟩ | ⟨g, cap, cur, hv, hg, hh, hc, _⟩
  · omega
  · injection hv with hA _ hc'
    exact ⟨g, hA, hg, (Array.getElem?_eq_some_iff.1 hh).1, by omega⟩
def partN (l : List UInt8) (n k : Nat) : List UInt8 := l.take k ++ List.replicate (n - k) 0
theorem partN_step (l : List UInt8) (n k : Nat) (h : k < n) (hl : l.length = n) : (bs (partN l n k)).toArray.setIfInBounds k (.int .u8 ((l[k]'(by omega)).toNat : Int)) = (bs (partN l n (k + 1))).toArray := by
  obtain ⟨m, hm⟩ : ∃ m, n - k = m + 1 := ⟨n - k - 1, by omega⟩
  have hm' : n - (k + 1) = m := by omega
  unfold partN
  rw [hm, hm', List.take_succ_eq_append_getElem (by omega), List.replicate_succ, List.setIfInBounds_toArray, bs_append, List.set_append_right _ _ (by rw [bs_length, List.length_take]; omega), bs_length, List.length_take, Nat.min_eq_left (by omega), Nat.sub_self, bs_append, bs_append, List.append_assoc]
  rfl
theorem partN_get (l : List UInt8) (n k : Nat) (h : k < n) (hl : l.length = n) : (bs (partN l n k)).toArray[k]? = some (.int .u8 0) := by
  unfold partN
  rw [List.getElem?_toArray, bs_get, List.getElem?_append_right (by rw [List.length_take]; omega), List.length_take, List.getElem?_replicate, if_pos (by omega)]
  rfl
theorem partN_all (l : List UInt8) (n : Nat) (hl : l.length = n) : partN l n n = l := by
  unfold partN
  rw [Nat.sub_self, List.replicate_zero, List.append_nil, List.take_of_length_le (by omega)]
set_option maxRecDepth 100000 in
set_option maxHeartbeats 4000000 in
theorem refNonce_any (place version : Nat) (w : World) (hp : place < 4294967296) (hv : version < 18446744073709551616) :
    Calls Tryz.prog 72 #[.int .u32 (place : Int), .int .u64 (version : Int)] w fun e w' => e = .returned (.agg (bs (nonceB place version)).toArray) ∧ Below w.heap.size w w' := by
  have hput4 : ∀ W, Calls Tryz.prog 70 #[.int .u64 (place : Int), .int .i64 4] W fun e w' => ∃ A c, e = .returned (.slice A 4 c) ∧ w'.ownsRow W.heap.size 5 1 (.slice A 4 c) 4 (bs (putB place 4)) ∧ Below W.heap.size W w' := fun W => ref01Put_any place 4 W (by omega) (by omega)
  have hput8 : ∀ W, Calls Tryz.prog 70 #[.int .u64 (version : Int), .int .i64 8] W fun e w' => ∃ A c, e = .returned (.slice A 8 c) ∧ w'.ownsRow W.heap.size 5 1 (.slice A 8 c) 8 (bs (putB version 8)) ∧ Below W.heap.size W w' := fun W => ref01Put_any version 8 W (by omega) (by omega)
  have hnl := nonceB_length place version
  have h4l : (putB place 4).length = 4 := putB_length _ _
  have h8l : (putB version 8).length = 8 := putB_length _ _
  have hcat : nonceB place version = putB place 4 ++ putB version 8 := rfl
  have hw64 : IntKind.u64.wrap (place : Int) = (place : Int) := by rw [IntKind.wrap_u64]; omega
  generalize putB place 4 = pa at *
  generalize putB version 8 = pb at *
  generalize nonceB place version = nb at *
  have HNL := Lib.hid hnl
  have H4 := Lib.hid h4l
  have H8 := Lib.hid h8l
  have HC := Lib.hid hcat
  clear hnl h4l h8l hcat
  have kr0 : Blk ((w.alloc (.cells (bs (List.replicate 12 0)).toArray 154)).alloc (.cells (bs (List.replicate 12 0)).toArray 154)) w.heap.size 154 (bs (List.replicate 12 0)).toArray := (Blk.new_of rfl rfl).alloc _
  have ko0 : Blk ((w.alloc (.cells (bs (List.replicate 12 0)).toArray 154)).alloc (.cells (bs (List.replicate 12 0)).toArray 154)) (w.heap.size + 1) 154 (bs (partN nb 12 0)).toArray := Blk.new_of (by simp) rfl
  have y0 : Below w.heap.size w ((w.alloc (.cells (bs (List.replicate 12 0)).toArray 154)).alloc (.cells (bs (List.replicate 12 0)).toArray 154)) := ((Below.refl _ _).alloc (Nat.le_refl _) _).alloc (by simp) _
  go_enter Tryz.func72, Tryz.ntmps72
  go_wp2_with (first | (go_at_call 70; (with_reducible refine (hput4 _).mono ?_); rintro e w1 ⟨A1, c1, rfl, o1, b1⟩; have kr1 := kr0.below b1 kr0.lt; have ko1 := ko0.below b1 ko0.lt; have y1 := y0.trans (b1.mono y0.size); clear hput4) | (go_at_call 70; (with_reducible refine (hput8 _).mono ?_); rintro e w2 ⟨A2, c2, rfl, o2, b2⟩; have kr2 := kr1.below b2 kr1.lt; have ko2 := ko1.below b2 ko1.lt; have y2 := y1.trans (b2.mono y1.size); have o12 := own_keep o1 (fun k e => b2.block k (World.ownsRow.lt o1 k e).2); clear hput8))
  obtain ⟨ga, rfl, hga, hgal, _⟩ := own_some' o12 (by omega)
  obtain ⟨gb, rfl, hgb, hgbl, _⟩ := own_some' o2 (by omega)
  have ca : ∀ k, k < 4 → w2.cell? ⟨ga, k, none⟩ = (bs pa)[k]? := fun k hk => o12.cellAt k (by omega)
  have cb : ∀ k, k < 8 → w2.cell? ⟨gb, k, none⟩ = (bs pb)[k]? := fun k hk => o2.cellAt k (by omega)
  have hga2 : w.heap.size + 1 < ga := by simp at hga; omega
  have hgb2 : w.heap.size + 1 < gb := by have := b1.size; simp at this; omega
  have CA := Lib.hid ca
  have CB := Lib.hid cb
  clear o12 o2 o1 ca cb kr0 ko0 kr1 ko1 y0 y1 b1 b2 hga hgb
  have HS2 := Lib.hid (show w2.heap.size = w2.heap.size from rfl)
  have hkeep : ∀ (W : World), (∀ k, k ≠ w.heap.size + 1 → W.heap[k]? = w2.heap[k]?) → (∀ k, k < 4 → W.cell? ⟨ga, k, none⟩ = (bs pa)[k]?) ∧ (∀ k, k < 8 → W.cell? ⟨gb, k, none⟩ = (bs pb)[k]?) := fun W h => ⟨fun k hk => (World.cell?_of_block (a := ⟨ga, k, none⟩) (h ga (by omega))).trans (CA.out k hk), fun k hk => (World.cell?_of_block (a := ⟨gb, k, none⟩) (h gb (by omega))).trans (CB.out k hk)⟩
  have HK := Lib.hid hkeep
  clear hkeep
  obtain ⟨wo, rfl⟩ : ∃ wo : World, wo = w2 := ⟨_, rfl⟩
  go_loopw [8] (fun ix wr => ∃ k : Nat, k ≤ 4 ∧ ix = .int .i64 k ∧ Blk wr w.heap.size 154 (bs (List.replicate 12 0)).toArray ∧ Blk wr (w.heap.size + 1) 154 (bs (partN nb 12 k)).toArray ∧ Hid (∀ k, k ≠ w.heap.size + 1 → wr.heap[k]? = wo.heap[k]?) ∧ Below w.heap.size w wr) (fun ix _ => 4 - (intOf ix).toNat)
  case atStart => exact ⟨0, by omega, rfl, kr2, ko2, Lib.hid (fun _ _ => rfl), y2⟩
  case round =>
    clear kr2 ko2 y2
    obtain ⟨k, hk, rfl, kr, ko, hh, hw⟩ := hrel
    by_cases hlt : k < 4
    · have hn12 := HNL.out
      have hpa := H4.out
      have hcx := (HK.out wr hh.out).1 k hlt
      have hst := partN_step nb 12 k (by omega) hn12
      have e : nb[k]'(by omega) = pa[k]'(by omega) := by
        have h := HC.out
        subst h
        exact List.getElem_append_left (by omega)
      rw [e] at hst
      rw [bs_get, List.getElem?_eq_getElem (by omega)] at hcx
      simp only [Option.map_some] at hcx
      have hc1 := (ko.cell k).trans (partN_get nb 12 k (by omega) hn12)
      have hf1 := ko.frozen k
      generalize (pa[k]'(by omega)).toNat = x at *
      have HST := Lib.hid hst
      clear hst e hn12 hpa
      go_wp2
      go_roundw
      case rel =>
        have h := ko.set_ k (.int .u8 (x : Int))
        rw [HST.out] at h
        exact ⟨k + 1, by omega, by go_num, kr.far (p := ⟨w.heap.size + 1, k, none⟩) (by simp) _, h, Lib.hid (fun q hq => (Below.heap_setCell wr ⟨w.heap.size + 1, k, none⟩ _ q hq).trans (hh.out q hq)), hw.setCell (by simp) _⟩
      case measure => simp [intOf]; omega
    · have e4 : k = 4 := by omega
      rw [e4] at ko
      clear e4
      go_wp2
      obtain ⟨wo2, rfl⟩ : ∃ wo2 : World, wo2 = wr := ⟨_, rfl⟩
      go_loopw [9] (fun ix wr => ∃ k : Nat, k ≤ 8 ∧ ix = .int .i64 k ∧ Blk wr w.heap.size 154 (bs (List.replicate 12 0)).toArray ∧ Blk wr (w.heap.size + 1) 154 (bs (partN nb 12 (4 + k))).toArray ∧ Hid (∀ k, k ≠ w.heap.size + 1 → wr.heap[k]? = wo.heap[k]?) ∧ Below w.heap.size w wr) (fun ix _ => 8 - (intOf ix).toNat)
      case atStart => exact ⟨0, by omega, rfl, kr, ko, hh, hw⟩
      case round =>
        clear kr ko hh hw
        obtain ⟨k, hk, rfl, kr, ko, hh, hw⟩ := hrel
        by_cases hlt : k < 8
        · have hn12 := HNL.out
          have hpa := H4.out
          have hpb := H8.out
          have hcx := (HK.out wr hh.out).2 k hlt
          have hst := partN_step nb 12 (4 + k) (by omega) hn12
          have e : nb[4 + k]'(by omega) = pb[k]'(by omega) := by
            have h := HC.out
            subst h
            rw [List.getElem_append_right (by omega)]
            simp [hpa]
          rw [e] at hst
          rw [bs_get, List.getElem?_eq_getElem (by omega)] at hcx
          simp only [Option.map_some] at hcx
          have hc1 := (ko.cell (4 + k)).trans (partN_get nb 12 (4 + k) (by omega) hn12)
          have hf1 := ko.frozen (4 + k)
          generalize (pb[k]'(by omega)).toNat = x at *
          have HST := Lib.hid hst
          have e4 : ((4 : Int) + (k : Int)).toNat = 4 + k := by omega
          clear hst e hn12 hpa hpb
          go_wp2
          go_roundw
          case rel =>
            have h := ko.set_ (4 + k) (.int .u8 (x : Int))
            rw [HST.out] at h
            exact ⟨k + 1, by omega, by go_num, kr.far (p := ⟨w.heap.size + 1, 4 + k, none⟩) (by simp) _, h, Lib.hid (fun q hq => (Below.heap_setCell wr ⟨w.heap.size + 1, 4 + k, none⟩ _ q hq).trans (hh.out q hq)), hw.setCell (by simp) _⟩
          case measure => simp [intOf]; omega
        · have e8 : k = 8 := by omega
          rw [e8, show 4 + 8 = 12 from rfl, partN_all nb 12 HNL.out] at ko
          clear e8
          have t1 : (Tryz.prog.info? 154).map (·.size) = some (bs nb).toArray.size := by rw [List.size_toArray, bs_length, HNL.out]; kernel_rfl
          have t2 : (bs (List.replicate 12 0)).toArray.size = (bs nb).toArray.size := by rw [List.size_toArray, List.size_toArray, bs_length, bs_length, HNL.out]; rfl
          have t3 := bs_all nb
          have T1 := Lib.hid t1
          have T2 := Lib.hid t2
          clear t1 t2
          go_wp2_with (first | ((with_reducible refine wpList_load_blk (o := ⟨some 36, _, _, _, _, _⟩) rfl 154 _ rfl (w.heap.size + 1) rfl 154 _ _ ko Tryz.underlying154 rfl T1.out ?_)) | ((with_reducible refine wpList_store_blk (o := ⟨none, .store 154 (.tmp 4) (.tmp 36), _, _, _, _⟩) rfl 154 (.tmp 4) (.tmp 36) rfl w.heap.size (bs nb).toArray rfl rfl 154 _ kr T1.out T2.out t3 ?_); intro w10 k10 g10 s10; have S10 := Lib.hid s10; clear s10))
          exact ret_cell 4 154 rfl rfl w.heap.size 154 _ _ rfl k10 Tryz.underlying154 rfl T1.out ⟨rfl, hw.grown g10 hw.size (fun k e => by injection e with e; omega)⟩
end Go.Proofs.YtkhebllmnagkmaaGreatDoor
