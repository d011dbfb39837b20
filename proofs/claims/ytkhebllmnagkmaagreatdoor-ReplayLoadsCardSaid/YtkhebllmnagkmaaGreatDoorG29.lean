/- Contracts and lemmas under the statements of this seat, one behind the other. Conditions: what each names. -/
import Derived.Test.YtkhebllmnagkmaaGreatDoorG24
import Derived.Test.YtkhebllmnagkmaaGreatDoorG18
/- Contract of the reference's Open, of a record's slot. Conditions: what it names. -/
namespace Go.Proofs.YtkhebllmnagkmaaGreatDoor
open Go.RowKit
set_option linter.unusedVariables false

def openV (key : List UInt8) (place n : Nat) (s : List UInt8) : Array Value := if openOk n s then #[.int .u64 (verB s : Int), .string ⟨(plainB key place n s).toArray⟩, .int .i64 0] else #[.int .u64 0, .string ⟨#[]⟩, .int .i64 11]
theorem openV_no {key : List UInt8} {place n : Nat} {s : List UInt8} (h : openOk n s = false) : openV key place n s = #[.int .u64 0, .string ⟨#[]⟩, .int .i64 11] := by unfold openV; rw [if_neg (by rw [h]; exact Bool.false_ne_true)]
theorem openV_yes {key : List UInt8} {place n : Nat} {s : List UInt8} (h : openOk n s = true) : openV key place n s = #[.int .u64 (verB s : Int), .string ⟨(plainB key place n s).toArray⟩, .int .i64 0] := by unfold openV; rw [if_pos h]
theorem run_at (W : World) (l : List UInt8) (i : Nat) (b : UInt8) (h : l[i]? = some b) : (Instr.index 9 (.string ⟨l.toArray⟩) (.int .i64 (i : Int))).run Tryz.prog W = .ok (.int .u8 (b.toNat : Int)) W := by
  obtain ⟨hlt, hb⟩ := List.getElem?_eq_some_iff.1 h
  have hsz : (ByteArray.mk l.toArray).size = l.length := by simp [ByteArray.size]
  rw [run_index_string W 9 _ _ _ Tryz.underlying9, dif_pos ⟨by omega, by rw [hsz]; omega⟩]
  have e : ((i : Int)).toNat = i := by omega
  simp only [e, ← hb]
  rfl
theorem run_sub (W : World) (l : List UInt8) (a b : Nat) (h1 : a ≤ b) (h2 : b ≤ l.length) : (Instr.slice 9 (.string ⟨l.toArray⟩) (some (.int .i64 (a : Int))) (some (.int .i64 (b : Int))) none).run Tryz.prog W = .ok (.string ⟨((l.drop a).take (b - a)).toArray⟩) W := by
  have hsz : (ByteArray.mk l.toArray).size = l.length := by simp [ByteArray.size]
  rw [run_slice_string W 9 _ _ _ _ _ Tryz.underlying9 (by omega) (by omega) (by rw [hsz]; omega), ByteArray.extract_mk]
  rfl
set_option maxRecDepth 100000 in
set_option maxHeartbeats 4000000 in
theorem refOpen_any (key s : List UInt8) (place : Nat) (w : World) (hs : s.length = 192) (hk : key.length = 32) (hp : place < 4294967296) :
    Calls Tryz.prog 50 #[.agg (bs key).toArray, .int .u32 (place : Int), .string ⟨s.toArray⟩, .int .i64 176] w fun e w' =>
      e = .returned (.tuple (openV key place 176 s)) ∧ Below w.heap.size w w' := by
  have hlen : (ByteArray.mk s.toArray).size = 192 := by simp [ByteArray.size, hs]
  have k0 : Blk (w.alloc (.cells (bs key).toArray 23)) w.heap.size 23 (bs key).toArray := Blk.new_of rfl rfl
  have y0 : Below w.heap.size w (w.alloc (.cells (bs key).toArray 23)) := (Below.refl _ _).alloc (Nat.le_refl _) _
  have hcvt := fun W => run_str s W
  have hvl := verB_lt s
  have hget : ∀ W, Calls Tryz.prog 82 #[.slice (some ⟨W.heap.size, 0, none⟩) s.length (strC s W), .int .i64 0, .int .i64 8] (strW s W) fun e w' => e = .returned (.tuple #[.int .u64 (verB s : Int), .int .i64 0]) ∧ strW s W = w' := fun W => by
    have h := refGet_any (some ⟨W.heap.size, 0, none⟩) s.length (strC s W) 0 8 s (strW s W) (strW_reads s W) (by omega) (by omega) (by omega) (by omega)
    rw [List.drop_zero] at h
    exact h
  have hget0 := hget (w.alloc (.cells (bs key).toArray 23))
  rw [size_alloc'] at hget0
  have HS := Lib.hid hs
  have yS : Below w.heap.size w (strW s (w.alloc (.cells (bs key).toArray 23))) := y0.trans ((strW_below s _).mono y0.size)
  have kS : Blk (strW s (w.alloc (.cells (bs key).toArray 23))) w.heap.size 23 (bs key).toArray := k0.below (strW_below s _) k0.lt
  have hno := fun h => openV_no (key := key) (place := place) (n := 176) (s := s) h
  have hyes := fun h => openV_yes (key := key) (place := place) (n := 176) (s := s) h
  have hok : openOk 176 s = (verB s != 0 && verB s != 18446744073709551615 && !((s.drop 184).any (· != 0))) := rfl
  have hpl : plainB key place 176 s = crypt key (nonceB place (verB s)) ((s.drop 8).take 176) := rfl
  have hnon := fun W => refNonce_any place (verB s) W hp hvl
  have hn12 := nonceB_length place (verB s)
  have hcl := crypt_length key (nonceB place (verB s)) ((s.drop 8).take 176)
  have hml : ((s.drop 8).take 176).length = 176 := by rw [List.length_take, List.length_drop]; omega
  have hcr := fun W A c hr => refCrypt_any key (nonceB place (verB s)) ((s.drop 8).take 176) A c W hr (by omega) (by omega) hk hn12
  have HNO := Lib.hid hno
  have HYES := Lib.hid hyes
  have HOK := Lib.hid hok
  have HPL := Lib.hid hpl
  have HML := Lib.hid hml
  have HCL := Lib.hid hcl
  clear hs hget k0 y0 hno hyes hok hpl hml hcl
  generalize verB s = v at *
  generalize openV key place 176 s = ov at *
  by_cases hv0 : v = 0
  · have g0 : (v : Int) = 0 := by omega
    have hb : openOk 176 s = false := HOK.out.trans (by rw [hv0]; rfl)
    have HB := Lib.hid (HNO.out hb)
    clear hb hv0 hcr hnon
    go_enter Tryz.func50, Tryz.ntmps50
    go_wp2_with (first | (go_at_call 82; (with_reducible refine hget0.mono ?_); rintro e w1 ⟨rfl, rfl⟩; clear hget0))
    go_ret3
    exact ⟨by rw [HB.out]; rfl, yS⟩
  · by_cases hv1 : v = 18446744073709551615
    · have g0 : ¬ (v : Int) = 0 := by omega
      have g1 : (v : Int) = 18446744073709551615 := by omega
      have hb : openOk 176 s = false := HOK.out.trans (by rw [hv1]; rfl)
      have HB := Lib.hid (HNO.out hb)
      clear hb hv1 hv0 hcr hnon hvl
      go_enter Tryz.func50, Tryz.ntmps50
      go_wp2_with (first | (go_at_call 82; (with_reducible refine hget0.mono ?_); rintro e w1 ⟨rfl, rfl⟩; clear hget0))
      go_ret3
      exact ⟨by rw [HB.out]; rfl, yS⟩
    · have g0 : ¬ (v : Int) = 0 := by omega
      have g1 : ¬ (v : Int) = 18446744073709551615 := by omega
      have hok2 := HOK.out
      have e0 : (v != 0) = true := by simp [hv0]
      have e1 : (v != 18446744073709551615) = true := by simp [hv1]
      rw [e0, e1, Bool.true_and, Bool.true_and] at hok2
      have HOK2 := Lib.hid hok2
      clear hok2 hv0 hv1 e0 e1
      have e0 : ((v : Int) == 0) = false := beq_eq_false_iff_ne.2 g0
      have e1 : ((v : Int) == 18446744073709551615) = false := beq_eq_false_iff_ne.2 g1
      go_enter Tryz.func50, Tryz.ntmps50
      go_wp2_with (first | (go_at_call 82; (with_reducible refine hget0.mono ?_); rintro e w1 ⟨rfl, rfl⟩; clear hget0))
      go_loopw [13] (fun v wr => ∃ k : Nat, 184 + k ≤ 192 ∧ v = .int .i64 (184 + k : Nat) ∧ zeroTo s 184 (184 + k) ∧ wr = strW s (w.alloc (.cells (bs key).toArray 23))) (fun v _ => 192 - (match v with | .int _ n => n.toNat | _ => 0))
      case atStart => exact ⟨0, by omega, by rfl, fun j h1 h2 => absurd h2 (by omega), rfl⟩
      case round =>
        obtain ⟨k, hk192, rfl, hz, rfl⟩ := hrel
        by_cases hlt : 184 + k < 192
        · have hlti : (184 : Int) + (k : Int) < 192 := by omega
          obtain ⟨b, hb⟩ : ∃ b, s[184 + k]? = some b := ⟨_, List.getElem?_eq_getElem (by have := HS.out; omega)⟩
          have hx := run_at (strW s (w.alloc (.cells (bs key).toArray 23))) s (184 + k) b hb
          rw [show ((184 + k : Nat) : Int) = (184 : Int) + (k : Int) by omega] at hx
          by_cases hb0 : b = 0
          · subst hb0
            have hx : (Instr.index 9 (.string ⟨s.toArray⟩) (.int .i64 ((184 : Int) + (k : Int)))).run Tryz.prog (strW s (w.alloc (.cells (bs key).toArray 23))) = .ok (.int .u8 0) (strW s (w.alloc (.cells (bs key).toArray 23))) := hx
            go_wp2
            go_roundw
            case rel =>
              refine ⟨k + 1, by omega, by go_num, fun j h1 h2 => ?_, trivial⟩
              rcases Nat.lt_or_ge j (184 + k) with h | h
              · exact hz j h1 h
              · rw [show j = 184 + k by omega]
                exact hb
            case measure => simp only; omega
          · have hbi : ¬ (b.toNat : Int) = 0 := by intro h; apply hb0; apply UInt8.toNat_inj.1; have h0 : (0 : UInt8).toNat = 0 := rfl; omega
            have hfl : openOk 176 s = false := by
              obtain ⟨hlt2, hbe⟩ := List.getElem?_eq_some_iff.1 hb
              rw [HOK2.out, any_of s 184 (184 + k) (by omega) hlt2 (by rw [hbe]; exact hb0)]
              rfl
            have HB := Lib.hid (HNO.out hfl)
            clear hfl hb hb0 hz hcr hnon
            go_wp2
            go_ret3
            exact ⟨by rw [HB.out]; rfl, yS⟩
        · have hk8 : k = 8 := by omega
          have htr : openOk 176 s = true := by
            rw [HOK2.out, zeroTo_any s 184 (by rw [HS.out]; exact fun j h1 h2 => hz j h1 (by omega))]
            rfl
          have HB := Lib.hid (HYES.out htr)
          have hlti : ¬ (184 : Int) + (k : Int) < 192 := by omega
          have HK8 := Lib.hid hk8
          clear htr hz hk8 hlt hk192
          go_wp2
          have hsub : ∀ W, (Instr.slice 9 (.string ⟨s.toArray⟩) (some (.int .i64 8)) (some (.int .i64 184)) none).run Tryz.prog W = .ok (.string ⟨((s.drop 8).take 176).toArray⟩) W := fun W => run_sub W s 8 184 (by omega) (by rw [HS.out]; omega)
          have hu39 := Tryz.underlying23
          have hi39 : (Tryz.prog.info? 23).map (·.size) = some (bs key).length := by rw [bs_length, hk]; kernel_rfl
          have hmx : ((s.drop 8).take 176).length ≤ 176 := by rw [HML.out]; exact Nat.le_refl _
          generalize (s.drop 8).take 176 = m at *
          obtain ⟨W1, hW1⟩ : ∃ W1 : World, W1 = strW s (w.alloc (.cells (bs key).toArray 23)) := ⟨_, rfl⟩
          rw [← hW1] at kS yS ⊢
          clear hW1 hcvt
          have hS1 : ∀ W, Below W1.heap.size W1 W → W.rangeAt w.heap.size 0 (bs key) := fun W hb => range_below (Blk.range kS) hb kS.lt
          have t0 : Below W1.heap.size W1 W1.drew := (Below.refl _ _).drew
          have hS0 := hS1 _ t0
          have hw184 : IntKind.i64.wrap (8 + 176) = 184 := by rw [IntKind.wrap_i64]; omega
          have hw184b : IntKind.i64.wrap 184 = 184 := by rw [IntKind.wrap_i64]; omega
          have enon : ∀ args w, (callFunc 72 args).run Tryz.prog w = .ok (.enter 72 args) w := enters_of Tryz.func72 (by kernel_rfl) rfl
          have ecry : ∀ args w, (callFunc 71 args).run Tryz.prog w = .ok (.enter 71 args) w := enters_of Tryz.func71 (by kernel_rfl) rfl
          refine wp_region_held_drew (S := fun w' => w'.rangeAt w.heap.size 0 (bs key)) (by kernel_rfl) hS0 (fun _ => ?_)
          refine wpAnyH_take (i := 0) (oi := ⟨some 48, _, _, _, _, _⟩) (v := .agg (bs key).toArray) rfl (by kernel_rfl) (by kernel_rfl) (by kernel_rfl) (fun _ _ _ h => h) (yieldsIf_load_mid (by rfl) 23 _ rfl w.heap.size 0 (by rfl) (bs key) _ (fun W h => h) hu39 rfl hi39) hS0 ?_
          simp only [Act.put, List.setIfInBounds_toArray, List.set_cons_zero, List.set_cons_succ]
          refine wpAnyH_take (i := 1) (oi := ⟨some 49, _, _, _, _, _⟩) (v := .int .u32 (place : Int)) rfl (by kernel_rfl) (by kernel_rfl) (by kernel_rfl) (fun _ _ _ h => h) (Or.inl ⟨by rfl, by intro W hS; go_simp⟩) hS0 ?_
          simp only [Act.put, List.setIfInBounds_toArray, List.set_cons_zero, List.set_cons_succ]
          refine wpAnyH_take (i := 2) (oi := ⟨some 50, _, _, _, _, _⟩) (v := .int .u64 (v : Int)) rfl (by kernel_rfl) (by kernel_rfl) (by kernel_rfl) (fun _ _ _ h => h) (Or.inl ⟨by rfl, by intro W hS; go_simp⟩) hS0 ?_
          simp only [Act.put, List.setIfInBounds_toArray, List.set_cons_zero, List.set_cons_succ]
          refine wpAnyH_take (i := 4) (oi := ⟨some 52, _, _, _, _, _⟩) (v := .string ⟨s.toArray⟩) rfl (by kernel_rfl) (by kernel_rfl) (by kernel_rfl) (fun _ _ _ h => h) (Or.inl ⟨by rfl, by intro W hS; go_simp⟩) hS0 ?_
          simp only [Act.put, List.setIfInBounds_toArray, List.set_cons_zero, List.set_cons_succ]
          refine wpAnyH_take (i := 5) (oi := ⟨some 53, _, _, _, _, _⟩) (v := .int .i64 176) rfl (by kernel_rfl) (by kernel_rfl) (by kernel_rfl) (fun _ _ _ h => h) (Or.inl ⟨by rfl, by intro W hS; go_simp⟩) hS0 ?_
          simp only [Act.put, List.setIfInBounds_toArray, List.set_cons_zero, List.set_cons_succ]
          refine wpAnyH_take (i := 6) (oi := ⟨some 54, _, _, _, _, _⟩) (v := .int .i64 184) rfl (by kernel_rfl) (by kernel_rfl) (by kernel_rfl) (fun _ _ _ h => h) (Or.inl ⟨by rfl, by intro W hS; go_simp⟩) hS0 ?_
          simp only [Act.put, List.setIfInBounds_toArray, List.set_cons_zero, List.set_cons_succ]
          refine wpAnyH_take (i := 7) (oi := ⟨some 55, _, _, _, _, _⟩) (v := .string ⟨m.toArray⟩) rfl (by kernel_rfl) (by kernel_rfl) (by kernel_rfl) (fun _ _ _ h => h) (Or.inl ⟨by rfl, by intro W hS; go_simp⟩) hS0 ?_
          simp only [Act.put, List.setIfInBounds_toArray, List.set_cons_zero, List.set_cons_succ]
          refine wpAnyH_ready (rs := [3, 8]) (by kernel_rfl) (by simp) ?_
          refine AllReadyH.cons (o := ⟨some 51, .call { callee := .value (.func 72), args := #[.tmp 49, .tmp 50], argTypes := #[59, 39] }, _, _, _, _⟩) rfl (fun K' hK => ?_) (AllReadyH.cons (o := ⟨some 56, .convert 9 55 (.tmp 55), _, _, _, _⟩) rfl (fun K' hK => ?_) AllReadyH.nil)
          refine step_call_w (by rfl) 72 [_, _] _ rfl [.int .u32 (place : Int), .int .u64 (v : Int)] rfl enon _ (hnon _) ?_
          rintro e wN ⟨rfl, bN⟩
          have t1 := t0.trans (bN.mono t0.size)
          refine ⟨_, rfl, hK.out _ _ (hS1 _ t1) (fun _ => ?_)⟩
          clear hK
          simp only [Act.put, List.setIfInBounds_toArray, List.set_cons_zero, List.set_cons_succ]
          refine wpAnyH_ready (rs := [8]) (by kernel_rfl) (by simp) ?_
          refine AllReadyH.cons (o := ⟨some 56, .convert 9 55 (.tmp 55), _, _, _, _⟩) rfl (fun K' hK => ?_) AllReadyH.nil
          refine step_convert_str rfl (.tmp 55) rfl m rfl ?_
          intro cB wB rB bB
          have t2 := t1.trans (bB.mono t1.size)
          refine hK.out _ _ (hS1 _ t2) (fun _ => ?_)
          clear hK
          simp only [Act.put, List.setIfInBounds_toArray, List.set_cons_zero, List.set_cons_succ]
          refine wpAnyH_ready (rs := [9]) (by kernel_rfl) (by simp) ?_
          refine AllReadyH.cons (o := ⟨some 57, .call { callee := .value (.func 71), args := #[.tmp 48, .const (.int .u32 0), .tmp 51, .tmp 56], argTypes := #[23, 59, 154, 55] }, _, _, _, _⟩) rfl (fun K' hK => ?_) AllReadyH.nil
          refine step_call_w (by rfl) 71 [_, _, _, _] _ rfl [.agg (bs key).toArray, .int .u32 0, .agg (bs (nonceB place v)).toArray, .slice (some ⟨wN.heap.size, 0, none⟩) m.length cB] rfl ecry _ (hcr _ _ _ rB) ?_
          rintro e wC ⟨A3, c3, rfl, o3, b3⟩
          have t3 := t2.trans (b3.mono t2.size)
          refine ⟨_, rfl, hK.out _ _ (hS1 _ t3) (fun _ => ?_)⟩
          clear hK
          simp only [Act.put, List.setIfInBounds_toArray, List.set_cons_zero, List.set_cons_succ]
          rotate_left
          refine step_convert_str rfl (.tmp 55) rfl m rfl ?_
          intro cB wB rB bB
          have t1 := t0.trans (bB.mono t0.size)
          refine hK.out _ _ (hS1 _ t1) (fun _ => ?_)
          clear hK
          simp only [Act.put, List.setIfInBounds_toArray, List.set_cons_zero, List.set_cons_succ]
          refine wpAnyH_ready (rs := [3]) (by kernel_rfl) (by simp) ?_
          refine AllReadyH.cons (o := ⟨some 51, .call { callee := .value (.func 72), args := #[.tmp 49, .tmp 50], argTypes := #[59, 39] }, _, _, _, _⟩) rfl (fun K' hK => ?_) AllReadyH.nil
          refine step_call_w (by rfl) 72 [_, _] _ rfl [.int .u32 (place : Int), .int .u64 (v : Int)] rfl enon _ (hnon _) ?_
          rintro e wN ⟨rfl, bN⟩
          have t2 := t1.trans (bN.mono t1.size)
          refine ⟨_, rfl, hK.out _ _ (hS1 _ t2) (fun _ => ?_)⟩
          clear hK
          simp only [Act.put, List.setIfInBounds_toArray, List.set_cons_zero, List.set_cons_succ]
          refine wpAnyH_ready (rs := [9]) (by kernel_rfl) (by simp) ?_
          refine AllReadyH.cons (o := ⟨some 57, .call { callee := .value (.func 71), args := #[.tmp 48, .const (.int .u32 0), .tmp 51, .tmp 56], argTypes := #[23, 59, 154, 55] }, _, _, _, _⟩) rfl (fun K' hK => ?_) AllReadyH.nil
          refine step_call_w (by rfl) 71 [_, _, _, _] _ rfl [.agg (bs key).toArray, .int .u32 0, .agg (bs (nonceB place v)).toArray, .slice (some ⟨W1.heap.size, 0, none⟩) m.length cB] rfl ecry _ (hcr _ _ _ ((rB.below bN).more bN.size)) ?_
          rintro e wC ⟨A3, c3, rfl, o3, b3⟩
          have t3 := t2.trans (b3.mono t2.size)
          refine ⟨_, rfl, hK.out _ _ (hS1 _ t3) (fun _ => ?_)⟩
          clear hK
          simp only [Act.put, List.setIfInBounds_toArray, List.set_cons_zero, List.set_cons_succ]
          all_goals
            have hST := hS1 _ t3
            refine wpAnyH_take (i := 10) (oi := ⟨some 47, _, _, _, _, _⟩) (v := .tuple #[.slice A3 m.length c3, .int .i64 0]) rfl (by kernel_rfl) (by kernel_rfl) (by kernel_rfl) (fun _ _ _ h => h) (Or.inl ⟨by rfl, by intro W hS; go_simp⟩) hST ?_
            simp only [Act.put, List.setIfInBounds_toArray, List.set_cons_zero, List.set_cons_succ]
            refine wpAnyH_take (i := 11) (oi := ⟨some 58, _, _, _, _, _⟩) (v := .slice A3 m.length c3) rfl (by kernel_rfl) (by kernel_rfl) (by kernel_rfl) (fun _ _ _ h => h) (Or.inl ⟨by rfl, by intro W hS; go_simp⟩) hST ?_
            simp only [Act.put, List.setIfInBounds_toArray, List.set_cons_zero, List.set_cons_succ]
            refine wpAnyH_take (i := 12) (oi := ⟨some 59, _, _, _, _, _⟩) (v := .int .i64 0) rfl (by kernel_rfl) (by kernel_rfl) (by kernel_rfl) (fun _ _ _ h => h) (Or.inl ⟨by rfl, by intro W hS; go_simp⟩) hST ?_
            simp only [Act.put, List.setIfInBounds_toArray, List.set_cons_zero, List.set_cons_succ]
            refine wpAnyH_take (i := 13) (oi := ⟨some 14, _, _, _, _, _⟩) (v := .slice A3 m.length c3) rfl (by kernel_rfl) (by kernel_rfl) (by kernel_rfl) (fun _ _ _ h => h) (Or.inl ⟨by rfl, by intro W hS; go_simp⟩) hST ?_
            simp only [Act.put, List.setIfInBounds_toArray, List.set_cons_zero, List.set_cons_succ]
            refine wpAnyH_take (i := 14) (oi := ⟨some 15, _, _, _, _, _⟩) (v := .int .i64 0) rfl (by kernel_rfl) (by kernel_rfl) (by kernel_rfl) (fun _ _ _ h => h) (Or.inl ⟨by rfl, by intro W hS; go_simp⟩) hST ?_
            simp only [Act.put, List.setIfInBounds_toArray, List.set_cons_zero, List.set_cons_succ]
            refine wpAnyH_done (by kernel_rfl) ?_ _
            have yC : Below w.heap.size w wC := yS.trans (t3.mono yS.size)
            have r3 := Reads.of_own o3
            have hcl := HCL.out
            have hcs := run_string wC A3 c3 (crypt key (nonceB place v) m) (by rw [hcl]; exact r3)
            have hcs2 := run_string wC.drew A3 c3 (crypt key (nonceB place v) m) (by rw [hcl]; exact r3)
            rw [hcl] at hcs hcs2
            clear hS0 hS1 hST t0 t1 t2 t3 bN bB rB b3 o3 hnon hcr hcl
            go_wp2
            go_region_held3 (fun w' => (convert 55 9 (.slice A3 m.length c3)).run Tryz.prog w' = .ok (strB (crypt key (nonceB place v) m)) w') (exact hcs2) (fail)
            go_wp2
            go_ret3
            exact ⟨by rw [HB.out, HPL.out]; rfl, yC.drew⟩
end Go.Proofs.YtkhebllmnagkmaaGreatDoor
/- Contracts of the reference's Put and Of of records. Conditions: what each names. -/
namespace Go.Proofs.YtkhebllmnagkmaaGreatDoor
open Go.RowKit
set_option linter.unusedVariables false

def encR (l : List Rec) : List Value := (l.map fun p => [.int .u64 (p.1.1 : Int), strB p.1.2, .bool p.2]).flatten
theorem encR_append (a b : List Rec) : encR (a ++ b) = encR a ++ encR b := by unfold encR; simp
theorem encR_length (l : List Rec) : (encR l).length = l.length * 3 := by
  induction l with
  | nil => rfl
  | cons p l ih => unfold encR at *; rw [List.map_cons, List.flatten_cons, List.length_append, ih, List.length_cons]; simp; omega
theorem encR_get (l : List Rec) (i : Nat) (p : Rec) (h : l[i]? = some p) : (encR l)[3 * i]? = some (.int .u64 (p.1.1 : Int)) ∧ (encR l)[3 * i + 1]? = some (strB p.1.2) ∧ (encR l)[3 * i + 2]? = some (.bool p.2) := by
  induction l generalizing i with
  | nil => simp at h
  | cons q l ih =>
    have e : encR (q :: l) = .int .u64 (q.1.1 : Int) :: strB q.1.2 :: .bool q.2 :: encR l := rfl
    rw [e]
    cases i with
    | zero => simp at h; subst h; exact ⟨rfl, rfl, rfl⟩
    | succ i =>
      simp at h
      obtain ⟨h1, h2, h3⟩ := ih i h
      exact ⟨by rw [show 3 * (i + 1) = 3 * i + 1 + 1 + 1 by omega]; simpa using h1, by rw [show 3 * (i + 1) + 1 = 3 * i + 1 + 1 + 1 + 1 by omega]; simpa using h2, by rw [show 3 * (i + 1) + 2 = 3 * i + 2 + 1 + 1 + 1 by omega]; simpa using h3⟩
theorem encR_one (l : List Rec) : ∀ u ∈ encR l, u.oneCell' = true := by
  intro u hu
  unfold encR at hu
  rw [List.mem_flatten] at hu
  obtain ⟨c, hc, hu⟩ := hu
  rw [List.mem_map] at hc
  obtain ⟨p, _, rfl⟩ := hc
  simp only [List.mem_cons, List.not_mem_nil, or_false] at hu
  rcases hu with rfl | rfl | rfl <;> rfl
set_option maxRecDepth 100000 in
set_option maxHeartbeats 4000000 in
theorem rrput_true (block : Nat) (bytes : List UInt8) (w : World) (hl : bytes.length = 160) (hb : block < 18446744073709551616) :
    Calls Tryz.prog 39 #[.agg #[.int .u64 (block : Int), .string ⟨bytes.toArray⟩, .bool true]] w fun e w' => e = .returned (.tuple #[.string ⟨(recB block bytes true).toArray⟩, .int .i64 0]) ∧ Below w.heap.size w w' := by
  obtain ⟨i0, ii0, hz0, hz1, hz2⟩ := info_parts info5
  obtain ⟨W0, hW0⟩ : ∃ W0 : World, W0 = (w.alloc (.cells #[.int .u64 (block : Int), .string ⟨bytes.toArray⟩, .bool true] 107)).alloc (.cells #[.int .u8 1, .int .u8 1, .int .u8 0, .int .u8 0, .int .u8 0, .int .u8 0, .int .u8 0, .int .u8 0] 5) := ⟨_, rfl⟩
  have y0 : Below w.heap.size w W0 := by rw [hW0]; exact ((Below.refl _ _).alloc (Nat.le_refl _) _).alloc (by simp) _
  have s0 : W0.heap.size = w.heap.size + 2 := by rw [hW0]; simp
  have k0 : Blk W0 w.heap.size 107 #[.int .u64 (block : Int), .string ⟨bytes.toArray⟩, .bool true] := by rw [hW0]; exact (Blk.new_of rfl rfl).alloc _
  have o0 : W0.ownsRow (w.heap.size + 1) 5 1 (.slice (some ⟨w.heap.size + 1, 0, none⟩) 8 8) 8 (bs [1, 1, 0, 0, 0, 0, 0, 0]) := by
    rw [hW0]
    have h := World.ownsRow_lit (base := w.heap.size + 1) (e := 5) (size := 1) (w.alloc (.cells #[.int .u64 (block : Int), .string ⟨bytes.toArray⟩, .bool true] 107)) #[.int .u8 1, .int .u8 1, .int .u8 0, .int .u8 0, .int .u8 0, .int .u8 0, .int .u8 0, .int .u8 0] 8 (by simp) (by unfold maxLen; omega) rfl
    simpa [bs] using h
  have hput := ref01Put_any block 8 W0 (by omega) (by omega)
  simp only [show ((8 : Nat) : Int) = 8 from rfl] at hput
  have hlen : (ByteArray.mk bytes.toArray).size = 160 := by simp [ByteArray.size, hl]
  have hl8 := putB_length block 8
  have hfin : [1, 1, 0, 0, 0, 0, 0, 0] ++ putB block 8 ++ bytes = recB block bytes true := by unfold recB; rfl
  have hone0 := fun u hu => bs_one (l := putB block 8) u hu
  generalize putB block 8 = p8 at *
  have hcl : ([1, 1, 0, 0, 0, 0, 0, 0] ++ p8 : List UInt8).length = 8 + 8 := by rw [List.length_append, hl8]; rfl
  have happ : bs ([1, 1, 0, 0, 0, 0, 0, 0] ++ p8) = bs [1, 1, 0, 0, 0, 0, 0, 0] ++ bs p8 := bs_append _ _
  have hone1 : (ByteArray.mk ([1, 1, 0, 0, 0, 0, 0, 0] ++ p8 : List UInt8).toArray).size = 16 := by rw [show (ByteArray.mk ([1, 1, 0, 0, 0, 0, 0, 0] ++ p8 : List UInt8).toArray).size = ([1, 1, 0, 0, 0, 0, 0, 0] ++ p8 : List UInt8).length by simp only [ByteArray.size, List.size_toArray], hcl]
  generalize ([1, 1, 0, 0, 0, 0, 0, 0] ++ p8 : List UInt8) = h16 at *
  have HAP := Lib.hid happ
  clear happ
  have HM : Hid (8 + 8 ≤ maxLen) := Lib.hid (by unfold maxLen; omega)
  have HW0 := Lib.hid hW0
  have HF := Lib.hid hfin
  have HCL := Lib.hid hcl
  have hlt0 : w.heap.size < W0.heap.size := by omega
  have hb2 : w.heap.size + 1 ≤ W0.heap.size := by omega
  clear hW0 hfin hl8 hcl
  go_enter Tryz.func39, Tryz.ntmps39
  go_wp2_with (first | (go_at_call 70; rw [← HW0.out]; (with_reducible refine hput.mono ?_); rintro e w1 ⟨A1, c1, rfl, o1, b1⟩; clear hput; have k01 := k0.below b1 hlt0; have y1 := y0.trans (b1.mono y0.size); have o01 := own_keep o0 (fun k e => b1.block k (World.ownsRow.lt o0 k e).2); have lo1 := World.ownsRow.lt o01; have r1 := Reads.of_own o1; have s1 := b1.size) | (at_builtin; refine wpList_append_any _ rfl (.tmp 15) (.tmp 19) 55 rfl (w.heap.size + 1) 5 i0 _ 1 1 Tryz.underlying55 ii0 hz0 hz1 hz2 rfl (by omega) (.slice (some ⟨w.heap.size + 1, 0, none⟩) 8 8) 8 (bs [1, 1, 0, 0, 0, 0, 0, 0]) rfl o01 _ A1 8 c1 (bs p8) rfl r1 hone0 HM.out (by omega) (by omega) ?_; intro v3 w3 hown3 hg3 hat3; have k03 := k01.grown hg3 (by intro e; have := (lo1 _ e.symm).1; omega); have y3 := y1.grown hg3 y1.size (fun k e => by have := (lo1 _ e).1; omega); rw [← HAP.out] at hown3; obtain ⟨A3, c3, rfl⟩ := own_shape hown3; have hcs := run_string w3 A3 c3 h16 (by rw [HCL.out]; exact Reads.of_own hown3); rw [HCL.out] at hcs; have q1 : w3.cell? ⟨w.heap.size, 1, none⟩ = some (.string ⟨bytes.toArray⟩) := k03.cell 1; clear hg3 hat3))
  go_ret2
  exact ⟨by rw [ByteArray.mk_append_mk, HF.out]; rfl, y3⟩
set_option maxRecDepth 100000 in
set_option maxHeartbeats 4000000 in
theorem rrput_false (block : Nat) (bytes : List UInt8) (w : World) (hl : bytes.length = 160) (hb : block < 18446744073709551616) :
    Calls Tryz.prog 39 #[.agg #[.int .u64 (block : Int), .string ⟨bytes.toArray⟩, .bool false]] w fun e w' => e = .returned (.tuple #[.string ⟨(recB block bytes false).toArray⟩, .int .i64 0]) ∧ Below w.heap.size w w' := by
  obtain ⟨i0, ii0, hz0, hz1, hz2⟩ := info_parts info5
  obtain ⟨W0, hW0⟩ : ∃ W0 : World, W0 = (w.alloc (.cells #[.int .u64 (block : Int), .string ⟨bytes.toArray⟩, .bool false] 107)).alloc (.cells #[.int .u8 1, .int .u8 0, .int .u8 0, .int .u8 0, .int .u8 0, .int .u8 0, .int .u8 0, .int .u8 0] 5) := ⟨_, rfl⟩
  have y0 : Below w.heap.size w W0 := by rw [hW0]; exact ((Below.refl _ _).alloc (Nat.le_refl _) _).alloc (by simp) _
  have s0 : W0.heap.size = w.heap.size + 2 := by rw [hW0]; simp
  have k0 : Blk W0 w.heap.size 107 #[.int .u64 (block : Int), .string ⟨bytes.toArray⟩, .bool false] := by rw [hW0]; exact (Blk.new_of rfl rfl).alloc _
  have o0 : W0.ownsRow (w.heap.size + 1) 5 1 (.slice (some ⟨w.heap.size + 1, 0, none⟩) 8 8) 8 (bs [1, 0, 0, 0, 0, 0, 0, 0]) := by
    rw [hW0]
    have h := World.ownsRow_lit (base := w.heap.size + 1) (e := 5) (size := 1) (w.alloc (.cells #[.int .u64 (block : Int), .string ⟨bytes.toArray⟩, .bool false] 107)) #[.int .u8 1, .int .u8 0, .int .u8 0, .int .u8 0, .int .u8 0, .int .u8 0, .int .u8 0, .int .u8 0] 8 (by simp) (by unfold maxLen; omega) rfl
    simpa [bs] using h
  have hput := ref01Put_any block 8 W0 (by omega) (by omega)
  simp only [show ((8 : Nat) : Int) = 8 from rfl] at hput
  have hlen : (ByteArray.mk bytes.toArray).size = 160 := by simp [ByteArray.size, hl]
  have hl8 := putB_length block 8
  have hfin : [1, 0, 0, 0, 0, 0, 0, 0] ++ putB block 8 ++ bytes = recB block bytes false := by unfold recB; rfl
  have hone0 := fun u hu => bs_one (l := putB block 8) u hu
  generalize putB block 8 = p8 at *
  have hcl : ([1, 0, 0, 0, 0, 0, 0, 0] ++ p8 : List UInt8).length = 8 + 8 := by rw [List.length_append, hl8]; rfl
  have happ : bs ([1, 0, 0, 0, 0, 0, 0, 0] ++ p8) = bs [1, 0, 0, 0, 0, 0, 0, 0] ++ bs p8 := bs_append _ _
  have hone1 : (ByteArray.mk ([1, 0, 0, 0, 0, 0, 0, 0] ++ p8 : List UInt8).toArray).size = 16 := by rw [show (ByteArray.mk ([1, 0, 0, 0, 0, 0, 0, 0] ++ p8 : List UInt8).toArray).size = ([1, 0, 0, 0, 0, 0, 0, 0] ++ p8 : List UInt8).length by simp only [ByteArray.size, List.size_toArray], hcl]
  generalize ([1, 0, 0, 0, 0, 0, 0, 0] ++ p8 : List UInt8) = h16 at *
  have HAP := Lib.hid happ
  clear happ
  have HM : Hid (8 + 8 ≤ maxLen) := Lib.hid (by unfold maxLen; omega)
  have HW0 := Lib.hid hW0
  have HF := Lib.hid hfin
  have HCL := Lib.hid hcl
  have hlt0 : w.heap.size < W0.heap.size := by omega
  have hb2 : w.heap.size + 1 ≤ W0.heap.size := by omega
  clear hW0 hfin hl8 hcl
  go_enter Tryz.func39, Tryz.ntmps39
  go_wp2_with (first | (go_at_call 70; rw [← HW0.out]; (with_reducible refine hput.mono ?_); rintro e w1 ⟨A1, c1, rfl, o1, b1⟩; clear hput; have k01 := k0.below b1 hlt0; have y1 := y0.trans (b1.mono y0.size); have o01 := own_keep o0 (fun k e => b1.block k (World.ownsRow.lt o0 k e).2); have lo1 := World.ownsRow.lt o01; have r1 := Reads.of_own o1; have s1 := b1.size) | (at_builtin; refine wpList_append_any _ rfl (.tmp 15) (.tmp 19) 55 rfl (w.heap.size + 1) 5 i0 _ 1 1 Tryz.underlying55 ii0 hz0 hz1 hz2 rfl (by omega) (.slice (some ⟨w.heap.size + 1, 0, none⟩) 8 8) 8 (bs [1, 0, 0, 0, 0, 0, 0, 0]) rfl o01 _ A1 8 c1 (bs p8) rfl r1 hone0 HM.out (by omega) (by omega) ?_; intro v3 w3 hown3 hg3 hat3; have k03 := k01.grown hg3 (by intro e; have := (lo1 _ e.symm).1; omega); have y3 := y1.grown hg3 y1.size (fun k e => by have := (lo1 _ e).1; omega); rw [← HAP.out] at hown3; obtain ⟨A3, c3, rfl⟩ := own_shape hown3; have hcs := run_string w3 A3 c3 h16 (by rw [HCL.out]; exact Reads.of_own hown3); rw [HCL.out] at hcs; have q1 : w3.cell? ⟨w.heap.size, 1, none⟩ = some (.string ⟨bytes.toArray⟩) := k03.cell 1; clear hg3 hat3))
  go_ret2
  exact ⟨by rw [ByteArray.mk_append_mk, HF.out]; rfl, y3⟩
theorem rrput_any (block : Nat) (bytes : List UInt8) (last : Bool) (w : World) (hl : bytes.length = 160) (hb : block < 18446744073709551616) :
    Calls Tryz.prog 39 #[.agg #[.int .u64 (block : Int), .string ⟨bytes.toArray⟩, .bool last]] w fun e w' => e = .returned (.tuple #[.string ⟨(recB block bytes last).toArray⟩, .int .i64 0]) ∧ Below w.heap.size w w' := by
  cases last with
  | true => exact rrput_true block bytes w hl hb
  | false => exact rrput_false block bytes w hl hb
end Go.Proofs.YtkhebllmnagkmaaGreatDoor
/- Contract of the reference's Of: the records of a change. Conditions: what it names. -/
namespace Go.Proofs.YtkhebllmnagkmaaGreatDoor
open Go.RowKit
set_option linter.unusedVariables false

def recsOf (l : List Img) : List Rec := l.mapIdx fun i p => (p, decide (i + 1 = l.length))
theorem recsOf_length (l : List Img) : (recsOf l).length = l.length := by simp [recsOf]
theorem recsOf_get (l : List Img) (k : Nat) (p : Img) (h : l[k]? = some p) : (recsOf l)[k]? = some (p, decide (k + 1 = l.length)) := by
  unfold recsOf
  rw [List.getElem?_mapIdx, h]
  rfl
theorem infoR : (Tryz.prog.info? 107).map (fun i => (i.zero, i.size, i.bytes)) = some (some (.agg #[.int .u64 0, .string ⟨#[]⟩, .bool false]), 3, 32) := by kernel_rfl
set_option maxRecDepth 100000 in
set_option maxHeartbeats 4000000 in
theorem rof_any (A : Option Addr) (n c : Nat) (l : List Img) (w : World) (ho : w.ownsRow 0 105 2 (.slice A n c) n (encM l)) (hl : l.length = n) (h1 : 1 ≤ n) (hn : n ≤ 1048576) (h160 : ∀ p ∈ l, p.2.length = 160) :
    Calls Tryz.prog 38 #[.slice A n c] w fun e w' => ∃ A' c', e = .returned (.tuple #[.slice A' n c', .int .i64 0]) ∧ w'.ownsRow w.heap.size 107 3 (.slice A' n c') n (encR (recsOf l)) ∧ Below w.heap.size w w' := by
  obtain ⟨i0, ii0, hz0, hz1, hz2⟩ := info_parts infoR
  have g0 : ¬ (n : Int) = 0 := by omega
  have g0b : ((n : Int) == 0) = false := beq_eq_false_iff_ne.2 g0
  have hrl := recsOf_length l
  have HL := Lib.hid hl
  have HRL := Lib.hid hrl
  have H160 := Lib.hid h160
  clear hl hrl h160
  go_enter Tryz.func38, Tryz.ntmps38
  go_wp2
  go_loopw [4, 5] (fun vo ix wr => ∃ (k : Nat) (A' : Option Addr) (c' : Nat), k ≤ n ∧ ix = .int .i64 k ∧ vo = .slice A' k c' ∧ wr.ownsRow w.heap.size 107 3 (.slice A' k c') k (encR ((recsOf l).take k)) ∧ Below w.heap.size w wr) (fun _ ix _ => n - (intOf ix).toNat)
  case atStart => exact ⟨0, none, 0, by omega, rfl, rfl, World.ownsRow_nil _ _ _ _, Below.refl _ _⟩
  case round =>
    obtain ⟨k, A', c', hk, rfl, rfl, hor, hw⟩ := hrel
    by_cases hlt : k < n
    · obtain ⟨p, hp⟩ : ∃ p, l[k]? = some p := ⟨_, List.getElem?_eq_getElem (by have := HL.out; omega)⟩
      have hwo := own_keep ho (fun b e => hw.block b (World.ownsRow.lt ho b e).2)
      obtain ⟨g, rfl, hg, q0, q1⟩ := own_at hwo hlt p hp
      have h160 : p.2.length = 160 := H160.out p (List.mem_of_getElem? hp)
      have hlen : (ByteArray.mk p.2.toArray).size = 160 := by simp [ByteArray.size, h160]
      have hrk := recsOf_get l k p hp
      rw [HL.out] at hrk
      have htk := take_snoc (recsOf l) k _ hrk
      have henc := encR_append ((recsOf l).take k) [(p, decide (k + 1 = n))]
      rw [← htk] at henc
      have hone : ∀ (q : Bool), ∀ u ∈ [Value.int .u64 (p.1 : Int), .string ⟨p.2.toArray⟩, .bool q], u.oneCell' = true := by intro q u hu; simp only [List.mem_cons, List.not_mem_nil, or_false] at hu; rcases hu with rfl | rfl | rfl <;> rfl
      have i1 : (0 : Int) ≤ (k : Int) := by omega
      have i2 : (k : Int) < (n : Int) := by omega
      have hnews := fun q => Blk.rows (xs := [Value.int .u64 (p.1 : Int), .string ⟨p.2.toArray⟩, .bool q]) 1 3 (Blk.new wr 107 #[Value.int .u64 (p.1 : Int), .string ⟨p.2.toArray⟩, .bool q]) rfl
      have HM : Hid (k + 1 ≤ maxLen ∧ (k + 1) * 32 ≤ 140737488355328) := Lib.hid ⟨by unfold maxLen; omega, by omega⟩
      have lo := World.ownsRow.lt hor
      have HEN := Lib.hid henc
      have hws := hw.size
      clear henc htk hrk hp h160 hwo
      by_cases hke : k + 1 = n
      · have hki : (k : Int) + 1 = (n : Int) := by omega
        have hdd : decide (k + 1 = n) = true := decide_eq_true hke
        have hE := HEN.out
        rw [hdd] at hE
        have HEN := Lib.hid hE
        clear hE hdd
        go_wp2_with (first | (at_builtin; refine wpList_append_any _ rfl (.tmp 22) (.tmp 33) 99 rfl w.heap.size 107 i0 _ 3 32 Tryz.underlying99 ii0 hz0 hz1 hz2 rfl (by omega) (.slice A' k c') k (encR ((recsOf l).take k)) rfl (World.ownsRow.alloc hor _) _ (some ⟨wr.heap.size, 0, none⟩) 1 1 [_, _, _] rfl (hnews true) (hone true) HM.out.1 HM.out.2 (by rw [size_alloc']; omega) ?_; intro v7 w7 hown7 hg7 hat7; have y7 := (hw.alloc hw.size (.cells #[Value.int .u64 (p.1 : Int), .string ⟨p.2.toArray⟩, .bool true] 107)).grown hg7 (by rw [size_alloc']; omega) (fun b e => (lo b e).1); obtain ⟨A7, c7, rfl⟩ := own_shape hown7; clear hg7 hat7))
        go_roundw
        case rel => exact ⟨k + 1, A7, c7, by omega, by first | go_num | rw [show ((k + 1 : Nat) : Int) = (n : Int) by omega], by first | rfl | rw [hke], by rw [HEN.out]; exact hown7, y7⟩
        case measure => simp [intOf]; omega
      · have hki : ¬ (k : Int) + 1 = (n : Int) := by omega
        have hkb : ((k : Int) + 1 == (n : Int)) = false := beq_eq_false_iff_ne.2 hki
        have hdd : decide (k + 1 = n) = false := decide_eq_false hke
        have hE := HEN.out
        rw [hdd] at hE
        have HEN := Lib.hid hE
        clear hE hdd
        go_wp2_with (first | (at_builtin; refine wpList_append_any _ rfl (.tmp 22) (.tmp 33) 99 rfl w.heap.size 107 i0 _ 3 32 Tryz.underlying99 ii0 hz0 hz1 hz2 rfl (by omega) (.slice A' k c') k (encR ((recsOf l).take k)) rfl (World.ownsRow.alloc hor _) _ (some ⟨wr.heap.size, 0, none⟩) 1 1 [_, _, _] rfl (hnews false) (hone false) HM.out.1 HM.out.2 (by rw [size_alloc']; omega) ?_; intro v7 w7 hown7 hg7 hat7; have y7 := (hw.alloc hw.size (.cells #[Value.int .u64 (p.1 : Int), .string ⟨p.2.toArray⟩, .bool false] 107)).grown hg7 (by rw [size_alloc']; omega) (fun b e => (lo b e).1); obtain ⟨A7, c7, rfl⟩ := own_shape hown7; clear hg7 hat7))
        go_roundw
        case rel => exact ⟨k + 1, A7, c7, by omega, by first | go_num | rw [show ((k + 1 : Nat) : Int) = (n : Int) by omega], by first | rfl | rw [hke], by rw [HEN.out]; exact hown7, y7⟩
        case measure => simp [intOf]; omega
    · have hkn : k = n := by omega
      have hki : ¬ (k : Int) < (n : Int) := by omega
      rw [List.take_of_length_le (by rw [HRL.out, HL.out]; omega)] at hor
      subst hkn
      clear hlt
      go_wp2
      go_ret2
      exact ⟨A', c', rfl, hor, hw⟩
end Go.Proofs.YtkhebllmnagkmaaGreatDoor
