/- Contracts and lemmas under the statements of this seat, one behind the other. Conditions: what each names. -/
import Derived.Test.YtkhebllmnagkmaaGreatDoorG31
/- Contract of the reference's Append to a journal, where there is room. Conditions: what it names. -/
namespace Go.Proofs.YtkhebllmnagkmaaGreatDoor
open Go.RowKit
set_option linter.unusedVariables false

theorem results_row4 {P : Program} {fn : Func} {p q r u : Tmp} {tp tq tr : TypeId} (h : fn.results = #[.cell p tp, .cell q tq, .cell r tr, .tmp u]) (tmps : Array Value) (w : World) (gp gq gr : Nat) (t1 t2 t3 : TypeId) (cp cq cr : Array Value) (d1 d2 d3 : TypeDesc)
    (hp : tmps.getD p undef = .pointer (some ⟨gp, 0, none⟩)) (hq : tmps.getD q undef = .pointer (some ⟨gq, 0, none⟩)) (hr : tmps.getD r undef = .pointer (some ⟨gr, 0, none⟩)) (kp : Blk w gp t1 cp) (kq : Blk w gq t2 cq) (kr : Blk w gr t3 cr)
    (up : P.underlying tp = some d1) (uq : P.underlying tq = some d2) (ur : P.underlying tr = some d3) (e1 : (match d1 with | .struct _ | .array _ _ => true | _ => false) = true) (e2 : (match d2 with | .struct _ | .array _ _ => true | _ => false) = true) (e3 : (match d3 with | .struct _ | .array _ _ => true | _ => false) = true)
    (ip : (P.info? tp).map (·.size) = some cp.size) (iq : (P.info? tq).map (·.size) = some cq.size) (ir : (P.info? tr).map (·.size) = some cr.size) :
    (results fn tmps).run P w = .ok (.tuple #[.agg cp, .agg cq, .agg cr, tmps.getD u undef]) w := by
  have hp' : tmps[p]?.getD undef = .pointer (some ⟨gp, 0, none⟩) := by simpa using hp
  have hq' : tmps[q]?.getD undef = .pointer (some ⟨gq, 0, none⟩) := by simpa using hq
  have hr' : tmps[r]?.getD undef = .pointer (some ⟨gr, 0, none⟩) := by simpa using hr
  simp [results, h, hp', hq', hr', asAddr, run_loadVar_row w gp t1 tp cp (0, 0) d1 kp up e1 ip, run_loadVar_row w gq t2 tq cq (0, 0) d2 kq uq e2 iq, run_loadVar_row w gr t3 tr cr (0, 0) d3 kr ur e3 ir]
theorem wrapU64_le (x : Int) (h0 : 0 ≤ x) (h1 : x < 18446744073709551616) : IntKind.u64.wrap x = x := by rw [IntKind.wrap_u64]; omega
theorem st_count2 (start count c2 : Nat) (tag : List UInt8) : (stCells start count tag).toArray.setIfInBounds 1 (.int .u64 (c2 : Int)) = (stCells start c2 tag).toArray := rfl
set_option maxRecDepth 100000 in
set_option maxHeartbeats 4000000 in
theorem rappend_any (n nd cd nw cw no co : Nat) (Ad Aw Ao : Option Addr) (way : List (Nat × List UInt8)) (xo : List Value) (J : Jr) (l : List Img) (A : Option Addr) (ca : Nat) (w : World)
    (hw : w.ownsRow 0 142 2 (.slice Aw nw cw) nw (encW way)) (hn2 : nw + l.length ≤ 1048576) (ho : w.ownsRow 0 169 2 (.slice Ao no co) no xo) (hx : ∀ u ∈ xo, u.oneCell' = true) (hn3 : no + l.length ≤ 1048576)
    (hk : J.key.length = 32) (ht : J.tag.length = 32) (hI : w.ownsRow 0 105 2 (.slice A l.length ca) l.length (encM l)) (h1l : 1 ≤ l.length) (h160 : ∀ p ∈ l, p.2.length = 160) (h64 : ∀ p ∈ l, p.1 < 18446744073709551616)
    (h1 : 1 ≤ J.size) (h2 : J.first + J.size ≤ n) (hp : n ≤ 1048576) (h3 : J.start < J.size) (h4 : J.count + l.length ≤ J.size) (h5 : 1 ≤ J.next) (h6 : J.next + l.length ≤ J.limit) (h7 : J.limit ≤ 9223372036854775807) :
    Calls Tryz.prog 12 #[.agg #[.int .i64 (n : Int), .slice Ad nd cd, .slice Aw nw cw, .int .i64 (-1), .bool false, .slice Ao no co], .agg (rjCells J).toArray, .slice A l.length ca] w fun e w' => ∃ Aw2 cw2 Ao2 co2 xo2, e = .returned (.tuple #[.agg #[.int .i64 (n : Int), .slice Ad nd cd, .slice Aw2 (nw + l.length) cw2, .int .i64 (-1), .bool false, .slice Ao2 (no + l.length) co2], .agg (rjCells { J with next := J.next + l.length }).toArray, .agg (stCells J.start (J.count + l.length) (tagOf J.tag (slotsOf J l))).toArray, .int .i64 0]) ∧
      w'.ownsRow 0 142 2 (.slice Aw2 (nw + l.length) cw2) (nw + l.length) (encW (way ++ slotsOf J l)) ∧ w'.ownsRow 0 169 2 (.slice Ao2 (no + l.length) co2) (no + l.length) xo2 ∧ (∀ u ∈ xo2, u.oneCell' = true) ∧ Below w.heap.size w w' := by
  obtain ⟨W0, hW0⟩ : ∃ W0 : World, W0 = ((((w.alloc (.cells #[.int .i64 (n : Int), .slice Ad nd cd, .slice Aw nw cw, .int .i64 (-1), .bool false, .slice Ao no co] 33)).alloc (.cells (rjCells J).toArray 44)).alloc (.cells #[.int .i64 0, .slice none 0 0, .slice none 0 0, .int .i64 0, .bool false, .slice none 0 0] 33)).alloc (.cells Tryz.zeroCells44 44)).alloc (.cells st0.toArray 42) := ⟨_, rfl⟩
  have y0 : Below w.heap.size w W0 := by rw [hW0]; exact (((((Below.refl _ _).alloc (Nat.le_refl _) _).alloc (by simp) _).alloc (by simp; omega) _).alloc (by simp; omega) _).alloc (by simp; omega) _
  have hs0 : W0.heap.size = w.heap.size + 5 := by rw [hW0]; simp
  have kD0 : Blk W0 w.heap.size 33 #[.int .i64 (n : Int), .slice Ad nd cd, .slice Aw nw cw, .int .i64 (-1), .bool false, .slice Ao no co] := by rw [hW0]; exact ((((Blk.new_of rfl rfl).alloc _).alloc _).alloc _).alloc _
  have kJ0 : Blk W0 (w.heap.size + 1) 44 (rjCells J).toArray := by rw [hW0]; exact (((Blk.new_of (by simp) rfl).alloc _).alloc _).alloc _
  have kx0 : Blk W0 (w.heap.size + 2) 33 #[.int .i64 0, .slice none 0 0, .slice none 0 0, .int .i64 0, .bool false, .slice none 0 0] := by rw [hW0]; exact ((Blk.new_of (by simp) rfl).alloc _).alloc _
  have ky0 : Blk W0 (w.heap.size + 3) 44 Tryz.zeroCells44 := by rw [hW0]; exact (Blk.new_of (by simp) rfl).alloc _
  have kz0 : Blk W0 (w.heap.size + 4) 42 st0.toArray := by rw [hW0]; exact Blk.new_of (by simp) rfl
  have J0 : RJAt W0 (w.heap.size + 1) J := ⟨kJ0, hk, ht⟩
  have hof := rof_any A l.length ca l W0 (own_keep hI fun b e => y0.block b (World.ownsRow.lt hI b e).2) rfl h1l (by omega) h160
  have hstl := stCells_length J.start J.count J.tag
  rw [ht] at hstl
  have hst1 := stCells_one J.start J.count J.tag
  have hsti : (Tryz.prog.info? 42).map (·.size) = some (stCells J.start J.count J.tag).length := by rw [hstl]; kernel_rfl
  have hsti2 : (Tryz.prog.info? 42).map (·.size) = some (stCells J.start J.count J.tag).toArray.size := by rw [List.size_toArray, hstl]; kernel_rfl
  have hstz : st0.toArray.size = (stCells J.start J.count J.tag).toArray.size := by rw [List.size_toArray, List.size_toArray, hstl]; rfl
  rw [hW0] at hof
  have HW0 := Lib.hid hW0
  have HS0 := Lib.hid hs0
  clear hW0 hs0
  have d1 : ¬ (J.size : Int) - (J.count : Int) < (l.length : Int) := by omega
  have d2 : ¬ (J.limit : Int) < (J.next : Int) := by omega
  have d3 : ¬ (J.limit : Int) - (J.next : Int) < (l.length : Int) := by omega
  have e3 : IntKind.u64.wrap ((J.size : Int) - (J.count : Int)) = (J.size : Int) - (J.count : Int) := wrapU64_le _ (by omega) (by omega)
  have e4 : IntKind.u64.wrap ((J.limit : Int) - (J.next : Int)) = (J.limit : Int) - (J.next : Int) := wrapU64_le _ (by omega) (by omega)
  have e5 : IntKind.u64.wrap (l.length : Int) = (l.length : Int) := wrapU64_le _ (by omega) (by omega)
  go_enter Tryz.func12, Tryz.ntmps12
  go_wp2_with (first | (go_at_call 38; refine hof.mono ?_; rintro e w1 ⟨A1, c1, rfl, o1, b1⟩; rw [← HW0.out] at o1 b1; have hs0 := HS0.out; have J1 := J0.under b1; have c33 := J1.c33; have c35 := J1.c35; have c68 := J1.c68; have c69 := J1.c69; have hst := J1.st) | ((with_reducible refine wpList_load_mid (op := ⟨some 63, _, _, _, _, _⟩) rfl 42 _ rfl (w.heap.size + 1) 34 rfl (stCells J.start J.count J.tag) _ hst Tryz.underlying42 rfl hsti ?_)) | ((refine wpList_store_blk (o := ⟨none, .store 42 (.tmp 13) (.tmp 63), _, _, _, _⟩) rfl 42 (.tmp 13) (.tmp 63) rfl w1.heap.size (stCells J.start J.count J.tag).toArray rfl rfl 42 st0.toArray (Blk.new_of rfl rfl) hsti2 hstz hst1 ?_); intro w3 k3 g3 s3))
  have s1a : ∀ o : Obj, (w1.alloc o).heap.size = w1.heap.size + 1 := fun o => size_alloc' _ _
  have hb1 := b1.size
  have s3' : w3.heap.size = w1.heap.size + 1 := s3.trans (s1a _)
  have y1 : Below w.heap.size w w1 := y0.trans (b1.mono y0.size)
  have y3 : Below w.heap.size w w3 := (y1.alloc y1.size _).grown g3 (by rw [s1a]; have := y1.size; omega) (fun k e => by injection e with e; have := y1.size; omega)
  have k13 : ∀ j, j < w1.heap.size → w3.heap[j]? = w1.heap[j]? := fun j hj => (g3.block j (by rw [s1a]; omega) (fun e => by injection e with e; omega)).trans (Below.heap_alloc _ _ j hj)
  have kp3 : ∀ j, j < W0.heap.size → w3.heap[j]? = W0.heap[j]? := fun j hj => (k13 j (by omega)).trans (b1.block j hj)
  have kD3 : Blk w3 w.heap.size 33 #[.int .i64 (n : Int), .slice Ad nd cd, .slice Aw nw cw, .int .i64 (-1), .bool false, .slice Ao no co] := (kp3 _ (by omega)).trans kD0
  have J3 : RJAt w3 (w.heap.size + 1) J := J0.keep (kp3 _ (by omega))
  have o3 := own_keep o1 (fun b e => k13 b (World.ownsRow.lt o1 b e).2)
  have lo3 : ∀ b, (Value.slice A1 l.length c1).ownBlock = some b → W0.heap.size ≤ b ∧ b < w1.heap.size := World.ownsRow.lt o1
  have hw3 := own_keep hw (fun b e => y3.block b (World.ownsRow.lt hw b e).2)
  have ho3 := own_keep ho (fun b e => y3.block b (World.ownsRow.lt ho b e).2)
  have hbt : W0.heap.size ≤ w1.heap.size := hb1
  have hsl := slotsOf_length J l
  clear hof b1 g3 s3 y1 hst c33 c35 c68 c69 e3 e4 e5 d1 d2 d3 J1 hstl hst1 hsti hsti2 hstz kD0 kJ0 J0 hb1 k13 o1
  generalize w1.heap.size = bt at *
  have HSL := Lib.hid hsl
  clear hsl
  go_loopw [14] (fun ix wr => ∃ (k : Nat) (Aw2 : Option Addr) (cw2 : Nat) (Ao2 : Option Addr) (co2 : Nat) (xo2 : List Value), k ≤ l.length ∧ ix = .int .i64 k ∧ Blk wr w.heap.size 33 #[.int .i64 (n : Int), .slice Ad nd cd, .slice Aw2 (nw + k) cw2, .int .i64 (-1), .bool false, .slice Ao2 (no + k) co2] ∧ wr.ownsRow 0 142 2 (.slice Aw2 (nw + k) cw2) (nw + k) (encW (way ++ (slotsOf J l).take k)) ∧
    wr.ownsRow 0 169 2 (.slice Ao2 (no + k) co2) (no + k) xo2 ∧ (∀ u ∈ xo2, u.oneCell' = true) ∧ RJAt wr (w.heap.size + 1) { J with next := J.next + k } ∧ Blk wr bt 42 (stCells J.start (J.count + k) (tagOf J.tag ((slotsOf J l).take k))).toArray ∧
    (∀ j, w.heap.size + 1 < j → j < bt → wr.heap[j]? = w3.heap[j]?) ∧ Below w.heap.size w wr ∧ w3.heap.size ≤ wr.heap.size) (fun ix _ => l.length - (intOf ix).toNat)
  case atStart => exact ⟨0, Aw, cw, Ao, co, xo, by omega, rfl, kD3, by rw [List.take_zero, List.append_nil]; exact hw3, ho3, hx, J3, k3, fun j _ _ => rfl, y3, Nat.le_refl _⟩
  case round =>
    obtain ⟨k, Aw2, cw2, Ao2, co2, xo2, hkl, rfl, kD, hwr, hor, hx2, Jr, kt, hkeep, hwb, hsw⟩ := hrel
    by_cases hlt : k < l.length
    · obtain ⟨p, hpk⟩ : ∃ p, l[k]? = some p := ⟨_, List.getElem?_eq_getElem hlt⟩
      have o3r := own_keep (w' := wr) o3 (fun b e => hkeep b (by have := lo3 b e; have := HS0.out; omega) (lo3 b e).2)
      have hrg := recsOf_get l k p hpk
      obtain ⟨g, rfl, hg, q0, q1, q2⟩ := ownR_at o3r hlt _ hrg
      simp only at q0 q1 q2
      have hby := h160 _ (List.mem_of_getElem? hpk)
      have hx64 := h64 _ (List.mem_of_getElem? hpk)
      have hsg := slotsOf_get J l k _ hpk
      have htk := take_snoc (slotsOf J l) k _ hsg
      have htl := tagOf_length J.tag ((slotsOf J l).take k) ht
      have hmod : (J.start + (J.count + k)) % J.size < J.size := Nat.mod_lt _ (by omega)
      have hpm : (((J.start + (J.count + k)) % J.size : Nat) : Int) = ((J.start : Int) + ((J.count + k : Nat) : Int)) % (J.size : Int) := by simp
      obtain ⟨place, hplace⟩ : ∃ place, place = placeAt J k := ⟨_, rfl⟩
      obtain ⟨N, hN⟩ : ∃ N, N = J.next + k := ⟨_, rfl⟩
      obtain ⟨C, hC⟩ : ∃ C, C = J.count + k := ⟨_, rfl⟩
      rw [← hC] at hpm hmod
      have hpi : (J.first : Int) + ((J.start : Int) + (C : Int)) % (J.size : Int) = (place : Int) := by rw [hplace, ← hpm, hC]; unfold placeAt; simp
      have hplt : place < n := by rw [hplace]; unfold placeAt; rw [← hC]; omega
      have hmi : ((J.start : Int) + (C : Int)) % (J.size : Int) < (J.size : Int) := by rw [← hpm]; omega
      have hmj : (0 : Int) ≤ ((J.start : Int) + (C : Int)) % (J.size : Int) := by rw [← hpm]; omega
      have hsz0 : ¬ (J.size : Int) = 0 := by omega
      have hp32 : place < 4294967296 := by omega
      have hp64 : (place : Int) ≤ 1048576 := by omega
      have hsti : (J.start : Int) ≤ 1048576 := by omega
      have hCi : (C : Int) ≤ 2097152 := by omega
      have hNi : N < 9223372036854775807 := by omega
      have hN1 : N ≠ 0 := by omega
      rw [← hN] at Jr
      rw [← hC] at kt
      rw [← hplace, ← hN] at htk
      have hput := fun W => rrput_any p.1 p.2 (decide (k + 1 = l.length)) W hby hx64
      have hpll := recB_length p.1 p.2 (decide (k + 1 = l.length))
      rw [hby] at hpll
      have hseal := fun W => refSeal_any J.key (recB p.1 p.2 (decide (k + 1 = l.length))) place N W (.inr hpll) hk hp32 hN1 (by omega)
      have hsll := sealB_length J.key place N (recB p.1 p.2 (decide (k + 1 = l.length)))
      have c32 := Jr.c32
      have c33 := Jr.c33
      have t0 : wr.cell? ⟨bt, 0, none⟩ = some (.int .u64 (J.start : Int)) := kt.cell 0
      have t1 : wr.cell? ⟨bt, 1, none⟩ = some (.int .u64 (C : Int)) := kt.cell 1
      simp only at c32 c33
      have HTK := Lib.hid htk
      have HPM := Lib.hid hpm
      have HC := Lib.hid hC
      have HN := Lib.hid hN
      clear htk hpm hrg hsg hby hx64 hpll hplace hC hN
      generalize hslot : sealB J.key place N (recB p.1 p.2 (decide (k + 1 = l.length))) = slot at *
      generalize recB p.1 p.2 (decide (k + 1 = l.length)) = plain at *
      generalize hlast : decide (k + 1 = l.length) = last at *
      obtain ⟨x, b⟩ := p
      simp only at hput q0 q1 q2
      clear hslot hlast
      have hwa : IntKind.u64.wrap ((J.start : Int) + (C : Int)) = (J.start : Int) + (C : Int) := wrapU64_le _ (by omega) (by omega)
      have hsz1 : ¬ J.size = 0 := by omega
      have htm : ((J.start : Int) + (C : Int)).tmod (J.size : Int) = ((J.start : Int) + (C : Int)) % (J.size : Int) := Int.tmod_eq_emod_of_nonneg (by omega)
      have hsz2 : ((J.size : Int) == 0) = false := beq_eq_false_iff_ne.2 hsz0
      have hw2 : IntKind.i64.wrap (((J.start : Int) + (C : Int)) % (J.size : Int)) = ((J.start : Int) + (C : Int)) % (J.size : Int) := wrapI_le _ hmj (by omega)
      have hw3 : IntKind.i64.wrap ((J.first : Int) + ((J.start : Int) + (C : Int)) % (J.size : Int)) = (place : Int) := by rw [hpi]; exact wrapI_le _ (by omega) (by omega)
      go_wp2
      go_region_held3 (fun w' => w'.cell? ⟨w.heap.size + 1, 32, none⟩ = some (.int .i64 (J.first : Int)) ∧ w'.cell? ⟨w.heap.size + 1, 33, none⟩ = some (.int .u64 (J.size : Int)) ∧ w'.cell? ⟨bt, 0, none⟩ = some (.int .u64 (J.start : Int)) ∧ w'.cell? ⟨bt, 1, none⟩ = some (.int .u64 (C : Int))) (exact ⟨c32, c33, t0, t1⟩) (fail)
      clear hwa hsz1 htm hsz2 hw2 hw3 hmi hmj hsz0 hpi hsti hmod c32 c33 t0 t1
      obtain ⟨W1, hW1⟩ : ∃ W1 : World, W1 = wr.drew := ⟨_, rfl⟩
      have s1 : W1.heap.size = wr.heap.size := by rw [hW1]; rfl
      have e01 : ∀ j : Nat, W1.heap[j]? = wr.heap[j]? := fun j => by rw [hW1]; rfl
      have J1 : RJAt W1 (w.heap.size + 1) { J with next := N } := Jr.keep (e01 _)
      have kD1 : Blk W1 w.heap.size 33 #[.int .i64 (n : Int), .slice Ad nd cd, .slice Aw2 (nw + k) cw2, .int .i64 (-1), .bool false, .slice Ao2 (no + k) co2] := (e01 _).trans kD
      have kt1 : Blk W1 bt 42 (stCells J.start C (tagOf J.tag ((slotsOf J l).take k))).toArray := (e01 _).trans kt
      have q01 : W1.cell? ⟨g, k * 3, none⟩ = some (.int .u64 (x : Int)) := by rw [hW1]; exact q0
      have q11 : W1.cell? ⟨g, k * 3 + 1, none⟩ = some (.string ⟨b.toArray⟩) := by rw [hW1]; exact q1
      have q21 : W1.cell? ⟨g, k * 3 + 2, none⟩ = some (.bool last) := by rw [hW1]; exact q2
      have y1 : Below w.heap.size w W1 := by rw [hW1]; exact hwb.drew
      rw [← hW1]
      have hw1s := y1.size
      have i1' : (0 : Int) ≤ (k : Int) := by omega
      have i2' : (k : Int) < (l.length : Int) := by omega
      have ex : ((N : Int) + 1) = ((N + 1 : Nat) : Int) := by simp
      have ey : ((C : Int) + 1) = ((C + 1 : Nat) : Int) := by simp
      have hNw : IntKind.u64.wrap ((N : Int) + 1) = (N : Int) + 1 := wrapU64_le _ (by omega) (by omega)
      have hCw : IntKind.u64.wrap ((C : Int) + 1) = (C : Int) + 1 := wrapU64_le _ (by omega) (by omega)
      have hki : (Tryz.prog.info? 23).map (·.size) = some (bs J.key).length := by rw [bs_length, hk]; kernel_rfl
      have HKI := Lib.hid hki
      have HEX := Lib.hid ex
      have HEY := Lib.hid ey
      have HTL := Lib.hid htl
      have HSLL := Lib.hid hsll
      have HE01 := Lib.hid e01
      have hbtw : bt < W1.heap.size := kt1.lt
      have kJr := Jr.blk.kind
      have hnw : ∀ b, (Value.slice Aw2 (nw + k) cw2).ownBlock = some b → b < wr.heap.size ∧ b ≠ w.heap.size + 1 := fun b e => ⟨(World.ownsRow.lt hwr b e).2, fun e2 => by subst e2; exact absurd ((own_kind hwr e).uniq kJr) (by decide)⟩
      have hno : ∀ b, (Value.slice Ao2 (no + k) co2).ownBlock = some b → b < wr.heap.size ∧ b ≠ w.heap.size + 1 := fun b e => ⟨(World.ownsRow.lt hor b e).2, fun e2 => by subst e2; exact absurd ((own_kind hor e).uniq kJr) (by decide)⟩
      have hlk := fun W => refLink_any (tagOf J.tag ((slotsOf J l).take k)) slot place W htl hp32 (by omega)
      have hll := linkB_length (tagOf J.tag ((slotsOf J l).take k)) place slot
      have htg : tagOf J.tag ((slotsOf J l).take (k + 1)) = linkB (tagOf J.tag ((slotsOf J l).take k)) place slot := by rw [HTK.out, tagOf_snoc]
      have HTG := Lib.hid htg
      clear htg
      generalize linkB (tagOf J.tag ((slotsOf J l).take k)) place slot = lk at *
      generalize tagOf J.tag ((slotsOf J l).take k) = tag at *
      have hti : (Tryz.prog.info? 23).map (·.size) = some (bs tag).length := by rw [bs_length, htl]; kernel_rfl
      have hib : (Tryz.prog.info? 23).map (·.size) = some (bs lk).toArray.size := by rw [List.size_toArray, bs_length, hll]; kernel_rfl
      have hob : (bs lk).toArray.all (·.oneCell') = true := bs_all _
      have HTI := Lib.hid hti
      have HIB := Lib.hid hib
      have HOB := Lib.hid hob
      have HLL := Lib.hid hll
      clear hti hib hob hll
      clear hki ex ey hW1 q0 q1 q2 Jr kD kt o3 o3r htl e01
      go_wp2_with (first | (go_at_call 39; (with_reducible refine (hput _).mono ?_); rintro e w5 ⟨rfl, b5⟩; have J5 := J1.under b5; have c68 := J5.c68; have hky := J5.key_; have s5 := b5.size) | ((with_reducible refine wpList_load_mid (op := ⟨some 92, _, _, _, _, _⟩) rfl 23 _ rfl (w.heap.size + 1) 0 rfl (bs J.key) _ hky Tryz.underlying23 rfl HKI.out ?_)) | (go_at_call 40; (with_reducible refine (hseal _).mono ?_); rintro e w6 ⟨rfl, b6⟩; have J6 := J5.under b6; have q68 := J6.c68; have f68 := J6.blk.frozen 68; have s6 := b6.size; have kD6 := (kD1.below b5 kD1.lt).below b6 (by omega); have kD6s := kD6.far (p := ⟨w.heap.size + 1, 68, none⟩) (by show w.heap.size ≠ w.heap.size + 1; omega) (.int .u64 ((N : Int) + 1)); have kt6 := (kt1.below b5 kt1.lt).below b6 (by omega); have kt6s := kt6.far (p := ⟨w.heap.size + 1, 68, none⟩) (by show bt ≠ w.heap.size + 1; have := HS0.out; omega) (.int .u64 ((N : Int) + 1)); have J6s : RJAt (w6.setCell ⟨w.heap.size + 1, 68, none⟩ (.int .u64 ((N : Int) + 1))) (w.heap.size + 1) { J with next := N + 1 } := ⟨(by have h := J6.blk.set_ 68 (.int .u64 ((N + 1 : Nat) : Int)); rw [rj_next { J with next := N } _ hk ht] at h; rw [HEX.out]; exact h), hk, ht⟩; have y6 := (y1.trans (b5.mono y1.size)).trans (b6.mono (by omega)); have y6s := y6.setCell (p := ⟨w.heap.size + 1, 68, none⟩) (Nat.le_add_right _ _) (.int .u64 ((N : Int) + 1)); have e6s : ∀ j : Nat, j < wr.heap.size → j ≠ w.heap.size + 1 → (w6.setCell ⟨w.heap.size + 1, 68, none⟩ (.int .u64 ((N : Int) + 1))).heap[j]? = wr.heap[j]? := fun j hj hne => (Below.heap_setCell _ _ _ _ hne).trans ((b6.block j (by omega)).trans ((b5.block j (by omega)).trans (HE01.out j))); have hw6s := own_keep (w' := (w6.setCell ⟨w.heap.size + 1, 68, none⟩ (.int .u64 ((N : Int) + 1)))) hwr (fun b e => e6s b (hnw b e).1 (hnw b e).2); have ho6s := own_keep (w' := (w6.setCell ⟨w.heap.size + 1, 68, none⟩ (.int .u64 ((N : Int) + 1)))) hor (fun b e => e6s b (hno b e).1 (hno b e).2); have hwrt := rwrite_any n place nd cd (nw + k) cw2 (no + k) co2 Ad Aw2 Ao2 slot _ xo2 (w6.setCell ⟨w.heap.size + 1, 68, none⟩ (.int .u64 ((N : Int) + 1))) hw6s (by omega) ho6s hx2 (by omega) hplt HSLL.out; have z6s : (w6.setCell ⟨w.heap.size + 1, 68, none⟩ (.int .u64 ((N : Int) + 1))).heap.size = w6.heap.size := (by simp [World.setCell]); have Z6S := Lib.hid z6s; clear c68 hky z6s) | ((with_reducible refine wpList_load_blk (o := ⟨some 106, _, _, _, _, _⟩) rfl 33 _ rfl w.heap.size rfl 33 _ _ kD6s Tryz.underlying33 rfl (by kernel_rfl) ?_)) | (go_at_call 29; (with_reducible refine hwrt.mono ?_); rintro e w7 ⟨A7, c7, B7, d7, x7, rfl, o7, p7, ox7, b7⟩; have kD7 := kD6s.below b7 kD6s.lt; have s7 := b7.size; clear hwrt q68 f68) | ((with_reducible refine wpList_store_blk (o := ⟨none, .store 33 (.tmp 3) (.tmp 110), _, _, _, _⟩) rfl 33 (.tmp 3) (.tmp 110) rfl w.heap.size #[.int .i64 (n : Int), .slice Ad nd cd, .slice A7 (nw + k + 1) c7, .int .i64 (-1), .bool false, .slice B7 (no + k + 1) d7] rfl rfl 33 _ kD7 (by kernel_rfl) (by simp) (by simp [Value.oneCell']) ?_); intro w8 k8 g8 s8; have kt8 := (kt6s.below b7 kt6s.lt).grown g8 (by intro e; injection e with e; have := HS0.out; omega); have t81 : w8.cell? ⟨bt, 1, none⟩ = some (.int .u64 (C : Int)) := kt8.cell 1; have f81 := kt8.frozen 1; have kt8s : Blk (w8.setCell ⟨bt, 1, none⟩ (.int .u64 ((C : Int) + 1))) bt 42 (stCells J.start (C + 1) tag).toArray := (by have h := kt8.set_ 1 (.int .u64 ((C + 1 : Nat) : Int)); rw [st_count2] at h; rw [HEY.out]; exact h); have rg8 : (w8.setCell ⟨bt, 1, none⟩ (.int .u64 ((C : Int) + 1))).rangeAt bt 2 (bs tag) := (fun j v hj => by refine (kt8s.cell (2 + j)).trans ?_; rw [List.getElem?_toArray]; unfold stCells; rw [List.getElem?_append_right (by simp), List.length_cons, List.length_singleton, Nat.add_sub_cancel_left]; exact hj); have S8 := Lib.hid s8; clear s8) | ((with_reducible refine wpList_load_mid (op := ⟨some 123, _, _, _, _, _⟩) rfl 23 _ rfl bt 2 rfl (bs tag) _ rg8 Tryz.underlying23 rfl HTI.out ?_)) | (go_at_call 41; (with_reducible refine (hlk _).mono ?_); rintro e w9 ⟨rfl, b9⟩; have kt9 := kt8s.below b9 kt8s.lt; have th9 : w9.there bt 2 (bs lk).toArray.size := kt9.there_mid (by rw [List.size_toArray, List.size_toArray, stCells_length, bs_length, HLL.out, HTL.out]; exact Nat.le_refl _)) | ((with_reducible refine wpList_store_mid (op := ⟨none, .store 23 (.tmp 128) (.tmp 127), _, _, _, _⟩) rfl 23 (.tmp 128) (.tmp 127) rfl bt 2 (bs lk).toArray rfl rfl th9 HIB.out HOB.out ?_); rw [List.toList_toArray]))
      go_roundw
      case rel =>
        have h0 := HS0.out
        have z6 : (w6.setCell ⟨w.heap.size + 1, 68, none⟩ (.int .u64 ((N : Int) + 1))).heap.size = w6.heap.size := Z6S.out
        have s8 := S8.out
        have k10 := Blk.put (g := bt) (t := 42) (bs lk) [.int .u64 (J.start : Int), .int .u64 ((C + 1 : Nat) : Int)] (bs tag) [] w9 (by rw [bs_length, bs_length, HLL.out, HTL.out]) (by rw [List.append_nil]; exact kt9)
        rw [List.append_nil] at k10
        have g10 : w9.grownBy (w9.setCells bt 2 (bs lk)) (some bt) := grownBy_setCells _ _ _ (World.grownBy.refl _ _)
        have z8 : (w8.setCell ⟨bt, 1, none⟩ (.int .u64 ((C : Int) + 1))).heap.size = w8.heap.size := by simp [World.setCell]
        have s9 : w8.heap.size ≤ w9.heap.size := by have h := b9.size; rw [z8] at h; exact h
        have e8 : ∀ j : Nat, j < w8.heap.size → j ≠ bt → (w9.setCells bt 2 (bs lk)).heap[j]? = w8.heap[j]? := fun j hj hne => (g10.block j (by omega) (fun e => by injection e with e; omega)).trans ((b9.block j (by rw [z8]; exact hj)).trans (Below.heap_setCell _ _ _ _ hne))
        have e7 : ∀ j : Nat, j < w7.heap.size → j ≠ bt → j ≠ w.heap.size → (w9.setCells bt 2 (bs lk)).heap[j]? = w7.heap[j]? := fun j hj h1 h2 => (e8 j (by omega) h1).trans (g8.block j hj (fun e => by injection e with e; omega))
        have er : ∀ j : Nat, j < wr.heap.size → j ≠ bt → j ≠ w.heap.size → j ≠ w.heap.size + 1 → (w9.setCells bt 2 (bs lk)).heap[j]? = wr.heap[j]? := fun j hj h1 h2 h3 => (e7 j (by omega) h1 h2).trans ((b7.block j (by omega)).trans (e6s j hj h3))
        have y7 : Below w.heap.size w w7 := y6s.trans (b7.mono (by omega))
        have y8 : Below w.heap.size w w8 := y7.grown g8 y7.size (fun k e => by injection e with e; omega)
        have y9 := (y8.setCell (p := ⟨bt, 1, none⟩) (by show w.heap.size ≤ bt; omega) (.int .u64 ((C : Int) + 1))).trans (b9.mono (by rw [z8]; exact y8.size))
        have y10 := y9.grown g10 y9.size (fun k e => by injection e with e; omega)
        have l7 := World.ownsRow.lt o7
        have l7p := World.ownsRow.lt p7
        have eN : N + 1 = J.next + (k + 1) := by have := HN.out; omega
        have eC : C + 1 = J.count + (k + 1) := by have := HC.out; omega
        refine ⟨k + 1, A7, c7, B7, d7, x7, by omega, by go_num, (e8 _ (by omega) (by omega)).trans k8, ?_, ?_, ox7, ?_, ?_, fun j h1 h2 => (er j (by omega) (by omega) (by omega) (by omega)).trans (hkeep j h1 h2), y10, ?_⟩
        · rw [HTK.out, ← List.append_assoc]
          exact ownsRow_lower (own_keep o7 (fun b e => e7 b (l7 b e).2 (by have := (l7 b e).1; omega) (by have := (l7 b e).1; omega))) (Nat.zero_le _)
        · exact ownsRow_lower (own_keep p7 (fun b e => e7 b (l7p b e).2 (by have := (l7p b e).1; omega) (by have := (l7p b e).1; omega))) (Nat.zero_le _)
        · rw [← eN]
          exact (J6s.under b7).keep (e7 _ (J6s.under b7).blk.lt (by omega) (by omega))
        · rw [HTG.out, ← eC]
          exact k10
        · have := g10.size
          omega
      case measure => simp [intOf]; omega
    · have hkk : k = l.length := by omega
      clear hlt
      subst hkk
      have htf : (slotsOf J l).take l.length = slotsOf J l := List.take_of_length_le (by rw [HSL.out]; exact Nat.le_refl _)
      rw [htf] at hwr kt
      have h0 := HS0.out
      have kx : Blk wr (w.heap.size + 2) 33 ([.int .i64 0, .slice none 0 0, .slice none 0 0, .int .i64 0, .bool false, .slice none 0 0] : List Value).toArray := (hkeep _ (by omega) (by omega)).trans ((kp3 _ (by omega)).trans kx0)
      have ky : Blk wr (w.heap.size + 3) 44 Tryz.zeroCells44 := (hkeep _ (by omega) (by omega)).trans ((kp3 _ (by omega)).trans ky0)
      have kz : Blk wr (w.heap.size + 4) 42 st0.toArray := (hkeep _ (by omega) (by omega)).trans ((kp3 _ (by omega)).trans kz0)
      have kJ := Jr.blk
      have jl1 := rjCells_length { J with next := J.next + l.length } hk ht
      have jo1 := rjCells_one { J with next := J.next + l.length }
      have sl1 := stCells_length J.start (J.count + l.length) (tagOf J.tag (slotsOf J l))
      rw [tagOf_length J.tag (slotsOf J l) ht] at sl1
      have so1 := stCells_one J.start (J.count + l.length) (tagOf J.tag (slotsOf J l))
      have hlz : (Tryz.zeroCells44).toList.length = 70 := by kernel_rfl
      obtain ⟨dl, hdl⟩ : ∃ dl : List Value, dl = [.int .i64 (n : Int), .slice Ad nd cd, .slice Aw2 (nw + l.length) cw2, .int .i64 (-1), .bool false, .slice Ao2 (no + l.length) co2] := ⟨_, rfl⟩
      have kDl : Blk wr w.heap.size 33 dl.toArray := by rw [hdl]; exact kD
      have dl1 : dl.length = 6 := by rw [hdl]; rfl
      have do1 : ∀ v ∈ dl, v.oneCell' = true := by rw [hdl]; intro u hu; simp only [List.mem_cons, List.not_mem_nil, or_false] at hu; rcases hu with rfl | rfl | rfl | rfl | rfl | rfl <;> rfl
      have HDL := Lib.hid hdl
      clear hdl kD
      generalize hjl : rjCells { J with next := J.next + l.length } = jl at *
      generalize hsl2 : stCells J.start (J.count + l.length) (tagOf J.tag (slotsOf J l)) = sl at *
      have hjo : ∀ v ∈ jl, v.oneCell' = true := fun v hv => Array.all_eq_true_iff_forall_mem.1 jo1 v (by simpa using hv)
      have hso : ∀ v ∈ sl, v.oneCell' = true := fun v hv => Array.all_eq_true_iff_forall_mem.1 so1 v (by simpa using hv)
      have uD := Tryz.underlying33
      have uJ := Tryz.underlying44
      have uS := Tryz.underlying42
      have iD : (Tryz.prog.info? 33).map (·.size) = some dl.length := by rw [dl1]; kernel_rfl
      have iJ : (Tryz.prog.info? 44).map (·.size) = some jl.length := by rw [jl1]; kernel_rfl
      have iS : (Tryz.prog.info? 42).map (·.size) = some sl.length := by rw [sl1]; kernel_rfl
      obtain ⟨u0, hu0⟩ : ∃ u0 : World, u0 = wr.drew := ⟨_, rfl⟩
      have e0 : ∀ j : Nat, u0.heap[j]? = wr.heap[j]? := fun j => by rw [hu0]; rfl
      have z0 : u0.heap.size = wr.heap.size := by rw [hu0]; rfl
      have hwu : Below w.heap.size w u0 := by rw [hu0]; exact hwb.drew
      have a0D : Blk u0 w.heap.size 33 dl.toArray := (e0 _).trans kDl
      have a0J : Blk u0 (w.heap.size + 1) 44 jl.toArray := (e0 _).trans kJ
      have a0S : Blk u0 bt 42 sl.toArray := (e0 _).trans kt
      have a0x : Blk u0 (w.heap.size + 2) 33 ([.int .i64 0, .slice none 0 0, .slice none 0 0, .int .i64 0, .bool false, .slice none 0 0] : List Value).toArray := (e0 _).trans kx
      have a0y : Blk u0 (w.heap.size + 3) 44 (Tryz.zeroCells44).toList.toArray := by rw [Array.toArray_toList]; exact (e0 _).trans ky
      have a0z : Blk u0 (w.heap.size + 4) 42 st0.toArray := (e0 _).trans kz
      have g1 : u0.grownBy (u0.setCells (w.heap.size + 2) 0 dl) (some (w.heap.size + 2)) := grownBy_setCells _ _ _ (World.grownBy.refl _ _)
      have p1 : Blk (u0.setCells (w.heap.size + 2) 0 dl) (w.heap.size + 2) 33 dl.toArray := by
        have h := Blk.put (t := 33) dl [] ([.int .i64 0, .slice none 0 0, .slice none 0 0, .int .i64 0, .bool false, .slice none 0 0] : List Value) [] u0 (by rw [dl1]; rfl) (by simpa using a0x)
        simpa using h
      obtain ⟨u1, hu1⟩ : ∃ u1 : World, u1 = u0.setCells (w.heap.size + 2) 0 dl := ⟨_, rfl⟩
      rw [← hu1] at g1 p1
      have e1 : ∀ j : Nat, j < u0.heap.size → j ≠ w.heap.size + 2 → u1.heap[j]? = u0.heap[j]? := fun j hj hne => g1.block j hj (fun e => by injection e with e; omega)
      have a1D : Blk u1 w.heap.size 33 dl.toArray := (e1 _ a0D.lt (by omega)).trans a0D
      have a1J : Blk u1 (w.heap.size + 1) 44 jl.toArray := (e1 _ a0J.lt (by omega)).trans a0J
      have a1S : Blk u1 bt 42 sl.toArray := (e1 _ a0S.lt (by omega)).trans a0S
      have a1y : Blk u1 (w.heap.size + 3) 44 (Tryz.zeroCells44).toList.toArray := (e1 _ a0y.lt (by omega)).trans a0y
      have a1z : Blk u1 (w.heap.size + 4) 42 st0.toArray := (e1 _ a0z.lt (by omega)).trans a0z
      have g2 : u1.grownBy (u1.setCells (w.heap.size + 3) 0 jl) (some (w.heap.size + 3)) := grownBy_setCells _ _ _ (World.grownBy.refl _ _)
      have p2 : Blk (u1.setCells (w.heap.size + 3) 0 jl) (w.heap.size + 3) 44 jl.toArray := by
        have h := Blk.put (t := 44) jl [] (Tryz.zeroCells44).toList [] u1 (by rw [jl1, hlz]) (by rw [List.append_nil]; exact a1y)
        rw [List.append_nil] at h
        exact h
      obtain ⟨u2, hu2⟩ : ∃ u2 : World, u2 = u1.setCells (w.heap.size + 3) 0 jl := ⟨_, rfl⟩
      rw [← hu2] at g2 p2
      have e2 : ∀ j : Nat, j < u1.heap.size → j ≠ w.heap.size + 3 → u2.heap[j]? = u1.heap[j]? := fun j hj hne => g2.block j hj (fun e => by injection e with e; omega)
      have a2D : Blk u2 w.heap.size 33 dl.toArray := (e2 _ a1D.lt (by omega)).trans a1D
      have a2J : Blk u2 (w.heap.size + 1) 44 jl.toArray := (e2 _ a1J.lt (by omega)).trans a1J
      have a2S : Blk u2 bt 42 sl.toArray := (e2 _ a1S.lt (by omega)).trans a1S
      have a2x : Blk u2 (w.heap.size + 2) 33 dl.toArray := (e2 _ p1.lt (by omega)).trans p1
      have a2z : Blk u2 (w.heap.size + 4) 42 st0.toArray := (e2 _ a1z.lt (by omega)).trans a1z
      have g3 : u2.grownBy (u2.setCells (w.heap.size + 4) 0 sl) (some (w.heap.size + 4)) := grownBy_setCells _ _ _ (World.grownBy.refl _ _)
      have p3 : Blk (u2.setCells (w.heap.size + 4) 0 sl) (w.heap.size + 4) 42 sl.toArray := by
        have h := Blk.put (t := 42) sl [] st0 [] u2 (by rw [sl1]; rfl) (by rw [List.append_nil]; exact a2z)
        rw [List.append_nil] at h
        exact h
      obtain ⟨u3, hu3⟩ : ∃ u3 : World, u3 = u2.setCells (w.heap.size + 4) 0 sl := ⟨_, rfl⟩
      rw [← hu3] at g3 p3
      have e3 : ∀ j : Nat, j < u2.heap.size → j ≠ w.heap.size + 4 → u3.heap[j]? = u2.heap[j]? := fun j hj hne => g3.block j hj (fun e => by injection e with e; omega)
      have a3D : Blk u3 w.heap.size 33 dl.toArray := (e3 _ a2D.lt (by omega)).trans a2D
      have a3J : Blk u3 (w.heap.size + 1) 44 jl.toArray := (e3 _ a2J.lt (by omega)).trans a2J
      have a3S : Blk u3 bt 42 sl.toArray := (e3 _ a2S.lt (by omega)).trans a2S
      have a3x : Blk u3 (w.heap.size + 2) 33 dl.toArray := (e3 _ a2x.lt (by omega)).trans a2x
      have a3y : Blk u3 (w.heap.size + 3) 44 jl.toArray := (e3 _ p2.lt (by omega)).trans p2
      have er3 : ∀ j : Nat, j < wr.heap.size → j ≠ w.heap.size + 2 → j ≠ w.heap.size + 3 → j ≠ w.heap.size + 4 → u3.heap[j]? = wr.heap[j]? := fun j hj h1 h2 h3 => by
        have hz1 := g1.size
        have hz2 := g2.size
        exact (e3 j (by omega) h3).trans ((e2 j (by omega) h2).trans ((e1 j (by omega) h1).trans (e0 j)))
      have yF : Below w.heap.size w u3 := ((hwu.grown g1 hwu.size (fun k e => by injection e with e; omega)).grown g2 (Nat.le_trans hwu.size g1.size) (fun k e => by injection e with e; omega)).grown g3 (Nat.le_trans (Nat.le_trans hwu.size g1.size) g2.size) (fun k e => by injection e with e; omega)
      have nW : ∀ b, (Value.slice Aw2 (nw + l.length) cw2).ownBlock = some b → b ≠ w.heap.size + 2 ∧ b ≠ w.heap.size + 3 ∧ b ≠ w.heap.size + 4 := fun b e => ⟨fun h => by subst h; exact absurd ((own_kind hwr e).uniq kx.kind) (by decide), fun h => by subst h; exact absurd ((own_kind hwr e).uniq ky.kind) (by decide), fun h => by subst h; exact absurd ((own_kind hwr e).uniq kz.kind) (by decide)⟩
      have nO : ∀ b, (Value.slice Ao2 (no + l.length) co2).ownBlock = some b → b ≠ w.heap.size + 2 ∧ b ≠ w.heap.size + 3 ∧ b ≠ w.heap.size + 4 := fun b e => ⟨fun h => by subst h; exact absurd ((own_kind hor e).uniq kx.kind) (by decide), fun h => by subst h; exact absurd ((own_kind hor e).uniq ky.kind) (by decide), fun h => by subst h; exact absurd ((own_kind hor e).uniq kz.kind) (by decide)⟩
      have oW := own_keep (w' := u3) hwr (fun b e => er3 b (World.ownsRow.lt hwr b e).2 (nW b e).1 (nW b e).2.1 (nW b e).2.2)
      have oO := own_keep (w' := u3) hor (fun b e => er3 b (World.ownsRow.lt hor b e).2 (nO b e).1 (nO b e).2.1 (nO b e).2.2)
      have th1 : u0.there (w.heap.size + 2) 0 dl.length := a0x.there (by rw [dl1]; exact Nat.le_refl _)
      have th2 : u1.there (w.heap.size + 3) 0 jl.length := a1y.there (by rw [jl1, List.size_toArray, hlz]; exact Nat.le_refl _)
      have th3 : u2.there (w.heap.size + 4) 0 sl.length := a2z.there (by rw [sl1]; exact Nat.le_refl _)
      have S0 : u0.rangeAt w.heap.size 0 dl ∧ u0.rangeAt (w.heap.size + 1) 0 jl ∧ u0.rangeAt bt 0 sl := ⟨Blk.range a0D, Blk.range a0J, Blk.range a0S⟩
      have S1 : u1.rangeAt w.heap.size 0 dl ∧ u1.rangeAt (w.heap.size + 1) 0 jl ∧ u1.rangeAt bt 0 sl := ⟨Blk.range a1D, Blk.range a1J, Blk.range a1S⟩
      have S2 : u2.rangeAt w.heap.size 0 dl ∧ u2.rangeAt (w.heap.size + 1) 0 jl ∧ u2.rangeAt bt 0 sl := ⟨Blk.range a2D, Blk.range a2J, Blk.range a2S⟩
      have S3 : u3.rangeAt w.heap.size 0 dl ∧ u3.rangeAt (w.heap.size + 1) 0 jl ∧ u3.rangeAt bt 0 sl := ⟨Blk.range a3D, Blk.range a3J, Blk.range a3S⟩
      have hu1' : u1 = u0.setCells (w.heap.size + 1 + 1) 0 dl := hu1
      have hu2' : u2 = u1.setCells (w.heap.size + 1 + 1 + 1) 0 jl := hu2
      have hu3' : u3 = u2.setCells (w.heap.size + 1 + 1 + 1 + 1) 0 sl := hu3
      clear a0x a0y a0z a1y a1z a2D a2J a2S a2x a2z g1 g2 g3 e1 e2 e3 p1 p2 kx ky kz kJ kDl kt er3 nW nO e0
      go_wp2
      refine wp_region_held_drew (S := fun w' => w'.rangeAt w.heap.size 0 dl ∧ w'.rangeAt (w.heap.size + 1) 0 jl ∧ w'.rangeAt bt 0 sl) (by kernel_rfl) (by rw [← hu0]; exact S0) (fun _ => ?_)
      rw [← hu0]
      refine wpAnyH_take (i := 0) (oi := ⟨some 129, _, _, _, _, _⟩) (v := .agg dl.toArray) rfl (by kernel_rfl) (by kernel_rfl) (by kernel_rfl) (fun _ _ _ h => h) (yieldsIf_load_mid (by rfl) 33 _ rfl w.heap.size 0 (by rfl) dl _ (fun W h => h.1) uD rfl iD) S0 ?_
      simp only [Act.put, List.setIfInBounds_toArray, List.set_cons_zero, List.set_cons_succ]
      refine wpAnyH_take (i := 1) (oi := ⟨some 130, _, _, _, _, _⟩) (v := .agg jl.toArray) rfl (by kernel_rfl) (by kernel_rfl) (by kernel_rfl) (fun _ _ _ h => h) (yieldsIf_load_mid (by rfl) 44 _ rfl (w.heap.size + 1) 0 (by rfl) jl _ (fun W h => h.2.1) uJ rfl iJ) S0 ?_
      simp only [Act.put, List.setIfInBounds_toArray, List.set_cons_zero, List.set_cons_succ]
      refine wpAnyH_take (i := 2) (oi := ⟨some 131, _, _, _, _, _⟩) (v := .agg sl.toArray) rfl (by kernel_rfl) (by kernel_rfl) (by kernel_rfl) (fun _ _ _ h => h) (yieldsIf_load_mid (by rfl) 42 _ rfl bt 0 (by rfl) sl _ (fun W h => h.2.2) uS rfl iS) S0 ?_
      simp only [Act.put, List.setIfInBounds_toArray, List.set_cons_zero, List.set_cons_succ]
      refine wpAnyH_ready (rs := [3]) (by kernel_rfl) (by simp) ?_
      refine AllReadyH.cons (o := ⟨none, .store 33 (.tmp 6) (.tmp 129), _, _, _, _⟩) rfl (fun K' hK => ?_) AllReadyH.nil
      rw [if_pos (by rfl)]
      refine wp_store_mid _ _ _ rfl _ _ (List.toArray _) rfl rfl ?_ ?_ (all_oneCell_toArray do1) ?_
      · simpa using th1
      · rw [List.size_toArray]; exact iD
      simp only [Act.put]
      refine hK.out _ _ (by rw [← hu1']; exact S1) (fun _ => ?_)
      clear hK
      rw [← hu1']
      refine wpAnyH_ready (rs := [4]) (by kernel_rfl) (by simp) ?_
      refine AllReadyH.cons (o := ⟨none, .store 44 (.tmp 7) (.tmp 130), _, _, _, _⟩) rfl (fun K' hK => ?_) AllReadyH.nil
      rw [if_pos (by rfl)]
      refine wp_store_mid _ _ _ rfl _ _ (List.toArray _) rfl rfl ?_ ?_ jo1 ?_
      · simpa using th2
      · rw [List.size_toArray]; exact iJ
      simp only [Act.put]
      refine hK.out _ _ (by rw [← hu2']; exact S2) (fun _ => ?_)
      clear hK
      rw [← hu2']
      refine wpAnyH_ready (rs := [5]) (by kernel_rfl) (by simp) ?_
      refine AllReadyH.cons (o := ⟨none, .store 42 (.tmp 8) (.tmp 131), _, _, _, _⟩) rfl (fun K' hK => ?_) AllReadyH.nil
      rw [if_pos (by rfl)]
      refine wp_store_mid _ _ _ rfl _ _ (List.toArray _) rfl rfl ?_ ?_ so1 ?_
      · simpa using th3
      · rw [List.size_toArray]; exact iS
      simp only [Act.put]
      refine hK.out _ _ (by rw [← hu3']; exact S3) (fun _ => ?_)
      clear hK
      rw [← hu3']
      refine wpAnyH_take (i := 6) (oi := ⟨some 9, _, _, _, _, _⟩) (v := .int .i64 0) rfl (by kernel_rfl) (by kernel_rfl) (by kernel_rfl) (fun _ _ _ h => h) (Or.inl ⟨by rfl, by intro W hS; go_simp⟩) S3 ?_
      simp only [Act.put, List.setIfInBounds_toArray, List.set_cons_zero, List.set_cons_succ]
      refine wpAnyH_done (by kernel_rfl) ?_ _
      go_wp2
      refine bodyPost_ret (results_row4 rfl _ _ (w.heap.size + 2) (w.heap.size + 3) (w.heap.size + 4) 33 44 42 _ _ _ _ _ _ rfl rfl rfl a3x a3y p3 uD uJ uS rfl rfl rfl (by rw [List.size_toArray]; exact iD) (by rw [List.size_toArray]; exact iJ) (by rw [List.size_toArray]; exact iS)) rfl ?_
      exact ⟨Aw2, cw2, Ao2, co2, xo2, by rw [HDL.out, hjl, hsl2]; rfl, oW, oO, hx2, yF⟩
end Go.Proofs.YtkhebllmnagkmaaGreatDoor
