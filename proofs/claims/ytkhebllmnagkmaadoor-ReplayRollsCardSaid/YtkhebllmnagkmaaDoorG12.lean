/- Contracts and lemmas under the statements of this seat, one behind the other. Conditions: what each names. -/
import Derived.Test.YtkhebllmnagkmaaDoorG11
/- Contracts of the disk's Restore. Conditions: what each names. -/
namespace Go.Proofs.YtkhebllmnagkmaaDoor
open Go.RowKit
set_option linter.unusedVariables false

theorem rodd_no (A : Option Addr) (c : Nat) (w : World) : Calls Tryd.prog 43 #[.slice A 192 c] w fun e w' => e = .returned (.bool false) ∧ w = w' := by
  go_enter Tryd.func43, Tryd.ntmps43
  go_wp2
  go_ret
  exact ⟨rfl, rfl⟩
set_option maxRecDepth 100000 in
set_option maxHeartbeats 1000000 in
theorem rindex_no (g n c : Nat) (xs : List Value) (l : List (List UInt8)) (w : World) (hr : Reads w w.heap.size 1 (some ⟨g, 0, none⟩) n xs) (hl : l.length = n) (hi : RowB w xs l) (h192 : ∀ p ∈ l, p.length = 192) (hn : n ≤ 1048576) :
    Calls Tryd.prog 64 #[.slice (some ⟨g, 0, none⟩) n c, .func (.func 43) #[] #[]] w fun e w' => e = .returned (.int .i64 (-1)) ∧ Below w.heap.size w w' := by
  have eg := enters_of Tryd.func43 (by kernel_rfl) rfl
  go_enter Tryd.func64, Tryd.ntmps64
  go_wp2
  go_loopw [8] (fun ix wr => ∃ k : Nat, k ≤ n ∧ ix = .int .i64 k ∧ Below w.heap.size w wr) (fun ix _ => n - (intOf ix).toNat)
  case atStart => exact ⟨0, by omega, rfl, Below.refl _ _⟩
  case round =>
    obtain ⟨k, hk, rfl, hw⟩ := hrel
    by_cases hlt : k < n
    · have hpk : l[k]? = some (l[k]'(by omega)) := List.getElem?_eq_getElem (by omega)
      obtain ⟨v, u1, A', c', hv, _⟩ := hi k _ hpk
      rw [h192 _ (List.getElem_mem _)] at hv
      subst hv
      obtain ⟨ad, e, hb, hc⟩ := hr.2 (by omega)
      injection e with e
      subst e
      have d2 := hc _ _ u1
      rw [add_head] at d2
      have e2 : wr.cell? ⟨g, k, none⟩ = some (.slice A' 192 c') := (hw.cell (p := ⟨g, k, none⟩) hb).trans d2
      clear d2 u1 hc hpk hi h192
      go_wp2_with (refine (rodd_no A' c' _).mono ?_; rintro e w' ⟨rfl, rfl⟩)
      go_roundw
      case rel => exact ⟨k + 1, by omega, by go_num, hw⟩
      case measure => simp [intOf]; omega
    · have hps : n ≤ k := by omega
      clear hk
      go_wp2
      go_ret
      exact ⟨rfl, hw⟩
theorem rcontains_no (g n c : Nat) (xs : List Value) (l : List (List UInt8)) (w : World) (hr : Reads w w.heap.size 1 (some ⟨g, 0, none⟩) n xs) (hl : l.length = n) (hi : RowB w xs l) (h192 : ∀ p ∈ l, p.length = 192) (hn : n ≤ 1048576) :
    Calls Tryd.prog 44 #[.slice (some ⟨g, 0, none⟩) n c, .func (.func 43) #[] #[]] w fun e w' => e = .returned (.bool false) ∧ Below w.heap.size w w' := by
  have h := rindex_no g n c xs l w hr hl hi h192 hn
  clear hr hl hi h192
  go_enter Tryd.func44, Tryd.ntmps44
  go_wp2_with (go_at_call 64; refine h.mono ?_; rintro e w' ⟨rfl, b1⟩)
  go_ret
  exact ⟨rfl, b1⟩
theorem drestore_nil (g : Nat) (F : Nat → Prop) (D : Dk) (w : World) (hD : Disk w g F D) (h0 : 0 < D.places.length) : Calls Tryd.prog 24 #[.pointer (some ⟨g, 0, none⟩), .slice none 0 0] w fun e w' => e = .returned (.int .i64 1) ∧ w = w' := by
  obtain ⟨vp, vu, vo, xp, xu, xo, h⟩ := hD
  obtain ⟨Ap, cp, hvp⟩ := own_shape h.op
  subst hvp
  have c0 : w.cell? ⟨g, 0, none⟩ = some (.slice Ap D.places.length cp) := h.blk.cell 0
  have n0 : ¬ (0 : Int) = (D.places.length : Int) := by omega
  have n1 : ((0 : Int) == (D.places.length : Int)) = false := by rw [beq_eq_false_iff_ne]; omega
  have n2 : ¬ D.places.length = 0 := by omega
  have n3 : ¬ D.places = [] := by rintro h; rw [h] at h0; simp at h0
  have n4 : ((0 : Int) != (D.places.length : Int)) = true := by rw [bne_iff_ne]; omega
  clear h
  go_enter Tryd.func24, Tryd.ntmps24
  go_wp2
  go_ret
  exact ⟨rfl, rfl⟩
theorem overlay_step {α : Type} (l ps : List α) (k : Nat) (x : α) (hx : l[k]? = some x) (hp : ps.length = l.length) : (l.take k ++ ps.drop k).set k x = l.take (k + 1) ++ ps.drop (k + 1) := by
  have hk : k < l.length := (List.getElem?_eq_some_iff.1 hx).1
  have hl : (l.take k).length = k := by rw [List.length_take]; omega
  rw [List.set_append_right _ _ (by omega), hl, Nat.sub_self, List.take_add_one, hx, List.append_assoc]
  congr 1
  rw [List.drop_eq_getElem_cons (by omega : k < ps.length)]
  rfl
set_option maxRecDepth 100000 in
set_option maxHeartbeats 4000000 in
theorem drestore_any (g gl c : Nat) (F : Nat → Prop) (D : Dk) (xs : List Value) (l : List (List UInt8)) (w : World) (hD : Disk w g F D) (hr : Reads w w.heap.size 1 (some ⟨gl, 0, none⟩) l.length xs) (hi : RowB w xs l) (hn : D.places.length = l.length) (h192 : ∀ p ∈ l, p.length = 192) (hgl : ¬ F gl)
    (h0 : 0 < l.length) (hpl : l.length ≤ 1048576) :
    Calls Tryd.prog 24 #[.pointer (some ⟨g, 0, none⟩), .slice (some ⟨gl, 0, none⟩) l.length c] w fun e w' => e = .returned (.int .i64 0) ∧ Disk w' g F { D with places := l, way := [] } ∧ Only F w w' := by
  have hcon := rcontains_no gl l.length c xs l w hr rfl hi h192 hpl
  obtain ⟨vp, vu, vo, xp, xu, xo, h⟩ := hD
  obtain ⟨gp, cp, hvp⟩ : ∃ gp cp, vp = .slice (some ⟨gp, 0, none⟩) D.places.length cp := by
    rcases h.op.2 with ⟨_, h0'⟩ | ⟨g', cap', cur, hv, _⟩
    · omega
    · exact ⟨g', cap', hv⟩
  subst hvp
  rw [hn] at h
  have c0 : w.cell? ⟨g, 0, none⟩ = some (.slice (some ⟨gp, 0, none⟩) l.length cp) := h.blk.cell 0
  have n1 : ((l.length : Int) != (l.length : Int)) = false := by simp
  have H := Lib.hid h
  have HN := Lib.hid hn
  have hlg := (hr.2 h0)
  obtain ⟨ad, e, hglt, hcl⟩ := hlg
  injection e with e
  subst e
  clear h hn
  go_enter Tryd.func24, Tryd.ntmps24
  go_wp2_with (go_at_call 44; refine hcon.mono ?_; rintro e w1 ⟨rfl, b1⟩)
  clear c0 hcon n1
  go_loopw [27] (fun ix wr => ∃ (k : Nat) (xp' : List Value), k ≤ l.length ∧ ix = .int .i64 k ∧ DiskAt wr g F { D with places := l.take k ++ D.places.drop k } (.slice (some ⟨gp, 0, none⟩) l.length cp) vu vo xp' xu xo ∧ Only F w wr) (fun ix _ => l.length - (intOf ix).toNat)
  case atStart => exact ⟨0, xp, by omega, rfl, H.out.under b1, Only.of_below b1⟩
  case round =>
    obtain ⟨k, xp', hk, rfl, hd, hO⟩ := hrel
    by_cases hlt : k < l.length
    · have hpk : l[k]? = some l[k] := List.getElem?_eq_getElem hlt
      have hdl : (l.take k ++ D.places.drop k).length = l.length := by rw [List.length_append, List.length_take, List.length_drop, HN.out]; omega
      obtain ⟨v, u1, hsl0⟩ := hi k _ hpk
      have hsl := hsl0.only hO
      have hbl := h192 _ (List.getElem_mem hlt)
      have hov := overlay_step l D.places k _ hpk HN.out
      obtain ⟨A', c', hv, hcap, hrd⟩ := hsl.reads
      subst hv
      have q0 : wr.cell? ⟨gl, k, none⟩ = some (.slice A' l[k].length c') := by have h := hcl _ _ u1; rw [add_head] at h; exact (World.cell?_of_block (a := ⟨gl, k, none⟩) (hO.block gl hglt (.inl hgl))).trans h
      generalize l[k] = p at *
      have hclo := clone_any A' p.length c' p wr.drew hrd (by omega)
      have s0 : wr.drew.cell? ⟨g, 0, none⟩ = some (.slice (some ⟨gp, 0, none⟩) l.length cp) := hd.blk.cell 0
      have HD := Lib.hid hd.drew
      have HOV := Lib.hid hov
      have HDL := Lib.hid hdl
      have hgs := hd.blk.lt
      have ip : (k : Int) < (l.length : Int) := by omega
      have jp : (0 : Int) ≤ (k : Int) := by omega
      clear hov hdl hrd hsl hsl0 u1 hpk hd hbl
      have hop := HD.out.op
      have hop' : wr.drew.ownsRow 0 34 1 (.slice (some ⟨gp, 0, none⟩) l.length cp) l.length xp' := by
        have h2 : wr.drew.ownsRow 0 34 1 (.slice (some ⟨gp, 0, none⟩) l.length cp) (l.take k ++ D.places.drop k).length xp' := hop
        rwa [HDL.out] at h2
      have hxl : xp'.length = l.length := by have := hop'.1; omega
      have kgp : Kind wr.drew gp 34 := own_kind hop rfl
      have tc : wr.drew.cell? ⟨gp, k, none⟩ = some (xp'[k]'(by omega)) := by rw [World.ownsRow.cellAt hop' k (by omega), List.getElem?_eq_getElem (by omega)]
      have tf : wr.drew.frozen? ⟨gp, k, none⟩ = false := World.ownsRow.frozenAt hop' k
      have n1 : gp ≠ g := fun e => by subst e; exact absurd (kgp.uniq HD.out.blk.kind) (by decide)
      have lgp := kgp.lt
      generalize xp'[k]'(by omega) = old at *
      clear hop hop' hxl
      go_wp2
      go_region_held3 (fun w' => w'.cell? ⟨g, 0, none⟩ = some (.slice (some ⟨gp, 0, none⟩) l.length cp)) (first | (exact s0) | (exact s3) | (exact s2)) (first | (go_at_call 26; refine hclo.mono ?_; rintro e w2 ⟨v2, rfl, hv2, b2⟩; obtain ⟨A2, cc2, rfl⟩ := hv2.shape; have s2 := (b2.cell (p := ⟨g, 0, none⟩) hgs).trans s0; have tc2 := (b2.cell (p := ⟨gp, k, none⟩) lgp).trans tc; have tf2 := (b2.frozen (p := ⟨gp, k, none⟩) lgp).trans tf; have s3 := (World.cell?_of_block (a := ⟨g, 0, none⟩) (Below.heap_setCell w2 ⟨gp, k, none⟩ (.slice A2 p.length cc2) g n1.symm)).trans s2))
      have hd2 := HD.out.under b2
      have hN := hd2.setPlace (i := k) (v := .slice A2 p.length cc2) (b := p) HDL.out.symm hv2.isSl
      have hO2 : Only F w (w2.setCell ⟨gp, k, none⟩ (.slice A2 p.length cc2)) := (hO.drew.under b2).setCell (p := ⟨gp, k, none⟩) (.inl (hd2.fp gp rfl)) (own_kind hd2.op rfl) (by decide) _
      have hov := HOV.out
      have hN2 : DiskAt (w2.setCell ⟨gp, k, none⟩ (.slice A2 p.length cc2)) g F { D with places := l.take (k + 1) ++ D.places.drop (k + 1) } (.slice (some ⟨gp, 0, none⟩) l.length cp) vu vo (xp'.set k (.slice A2 p.length cc2)) xu xo := by rw [← hov]; exact hN
      clear hclo s0 s2 s3 tc tc2 tf tf2 hov hN hd2
      go_wp2
      go_roundw
      case rel => exact ⟨k + 1, _, by omega, by go_num, hN2, hO2⟩
      case measure => simp [intOf]; omega
    · have hkk : k = l.length := by omega
      have hps : l.length ≤ k := by omega
      rw [hkk, List.take_length, List.drop_of_length_le (by rw [HN.out]; exact Nat.le_refl _), List.append_nil] at hd
      have f0 : wr.cell? ⟨g, 1, none⟩ = some vu := hd.blk.cell 1
      have f1 := hd.blk.frozen 1
      have hN := hd.noWay
      have hON := hO.setCell (p := ⟨g, 1, none⟩) (.inl hd.fg) hd.blk.kind (by decide) (.slice none 0 0)
      clear hkk hk hlt hd
      go_wp2
      go_ret
      exact ⟨rfl, ⟨_, _, _, _, _, _, hN⟩, hON⟩
end Go.Proofs.YtkhebllmnagkmaaDoor
