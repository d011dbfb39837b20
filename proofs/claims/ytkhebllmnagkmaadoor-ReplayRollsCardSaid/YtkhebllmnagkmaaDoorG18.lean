/- Contracts and lemmas under the statements of this seat, one behind the other. Conditions: what each names. -/
import Derived.Test.YtkhebllmnagkmaaDoorG17
import Derived.Laws.StructEq
/- Contracts of the reference's Same and SameAll, of rows that are the same. Conditions: what each names. -/
namespace Go.Proofs.YtkhebllmnagkmaaDoor
open Go.RowKit
set_option linter.unusedVariables false

theorem run_neq_I (w : World) (x : Int) (s : ByteArray) : (binOp .neq 60 (.agg #[.int .u64 x, .string s]) (.agg #[.int .u64 x, .string s])).run Tryd.prog w = .ok (.bool false) w := by
  have h60 := Tryd.underlying60
  have h33 := Tryd.underlying33
  have h9 := Tryd.underlying9
  simp [go_sem]
theorem own_at {w : World} {base : Nat} {A : Option Addr} {n c : Nat} {l : List Img} (h : w.ownsRow base 60 2 (.slice A n c) n (encM l)) {k : Nat} (hk : k < n) (p : Img) (hp : l[k]? = some p) : ∃ g, A = some ⟨g, 0, none⟩ ∧ g < w.heap.size ∧ w.cell? ⟨g, k * 2, none⟩ = some (.int .u64 (p.1 : Int)) ∧ w.cell? ⟨g, k * 2 + 1, none⟩ = some (.string ⟨p.2.toArray⟩) := by
  obtain ⟨g, cap, hv, _, hlt⟩ := h.form (by omega)
  injection hv with hA
  obtain ⟨h1, h2⟩ := encM_get l k p hp
  have hc := World.ownsRow.cells h (g := g) (by rw [hA]; rfl)
  have e1 := hc _ _ h1
  have e2 := hc _ _ h2
  rw [add_head] at e1 e2
  exact ⟨g, hA, hlt, by rw [Nat.mul_comm]; exact e1, by rw [Nat.mul_comm]; exact e2⟩
set_option maxRecDepth 100000 in
theorem same_yes (A B : Option Addr) (n ca cb ba bb : Nat) (l : List Img) (w : World) (ha : w.ownsRow ba 60 2 (.slice A n ca) n (encM l)) (hb : w.ownsRow bb 60 2 (.slice B n cb) n (encM l)) (hn : n ≤ 1048576) :
    Calls Tryd.prog 12 #[.slice A n ca, .slice B n cb] w fun e w' => e = .returned (.bool true) ∧ ∃ m, w' = w.drewN m := by
  have hl : l.length = n := by have := ha.1; rw [encM_length] at this; omega
  have hneq := run_neq_I
  have HL := Lib.hid hl
  have HA := Lib.hid ha
  have HB := Lib.hid hb
  clear hl ha hb
  go_enter Tryd.func12, Tryd.ntmps12
  go_wp2
  go_loopw [5] (fun ix wr => ∃ (k m : Nat), k ≤ n ∧ ix = .int .i64 k ∧ wr = w.drewN m) (fun ix _ => n - (intOf ix).toNat)
  case atStart => exact ⟨0, 0, by omega, rfl, rfl⟩
  case round =>
    obtain ⟨k, m, hk, rfl, rfl⟩ := hrel
    by_cases hlt : k < n
    · have hkl : k < l.length := by rw [HL.out]; exact hlt
      obtain ⟨g, rfl, hg, a0, a1⟩ := own_at HA.out hlt _ (List.getElem?_eq_getElem hkl)
      obtain ⟨g', rfl, hg', b0, b1⟩ := own_at HB.out hlt _ (List.getElem?_eq_getElem hkl)
      generalize l[k]'hkl = p at *
      obtain ⟨x, b⟩ := p
      simp only at a0 a1 b0 b1
      have i1 : (0 : Int) ≤ (k : Int) := by omega
      have i2 : (k : Int) < (n : Int) := by omega
      have q0 : (w.drewN (m + 1)).cell? ⟨g, k * 2, none⟩ = some (.int .u64 (x : Int)) := a0
      have q1 : (w.drewN (m + 1)).cell? ⟨g, k * 2 + 1, none⟩ = some (.string ⟨b.toArray⟩) := a1
      have q2 : (w.drewN (m + 1)).cell? ⟨g', k * 2, none⟩ = some (.int .u64 (x : Int)) := b0
      have q3 : (w.drewN (m + 1)).cell? ⟨g', k * 2 + 1, none⟩ = some (.string ⟨b.toArray⟩) := b1
      clear hkl
      go_wp2
      go_region_held3 (fun w' => w'.cell? ⟨g, k * 2, none⟩ = some (.int .u64 (x : Int)) ∧ w'.cell? ⟨g, k * 2 + 1, none⟩ = some (.string ⟨b.toArray⟩) ∧ w'.cell? ⟨g', k * 2, none⟩ = some (.int .u64 (x : Int)) ∧ w'.cell? ⟨g', k * 2 + 1, none⟩ = some (.string ⟨b.toArray⟩)) (exact ⟨q0, q1, q2, q3⟩) (fail)
      go_wp2
      exact ⟨⟨k + 1, m + 1, by omega, by go_num, rfl⟩, by simp [intOf]; omega⟩
    · have hps : n ≤ k := by omega
      go_wp2
      go_ret
      exact ⟨rfl, m, rfl⟩
theorem rows_at {w : World} {base b2 : Nat} {A : Option Addr} {n c : Nat} {ys : List Value} {ll : List (List Img)} (h : w.ownsRow base 26 1 (.slice A n c) n ys) (hR : RowMs w b2 ys ll) {k : Nat} (hk : k < n) (l : List Img) (hl : ll[k]? = some l) :
    ∃ g A' c', A = some ⟨g, 0, none⟩ ∧ w.cell? ⟨g, k, none⟩ = some (.slice A' l.length c') ∧ w.ownsRow b2 60 2 (.slice A' l.length c') l.length (encM l) := by
  obtain ⟨g, cap, hv, _, hlt⟩ := h.form (by omega)
  injection hv with hA
  obtain ⟨A', c', h1, h2⟩ := hR k l hl
  have hc := World.ownsRow.cells h (g := g) (by rw [hA]; rfl)
  have e1 := hc _ _ h1
  rw [add_head] at e1
  exact ⟨g, A', c', hA, e1, h2⟩
set_option maxRecDepth 100000 in
theorem sameAll_yes (A B : Option Addr) (n ca cb ba bb ba2 bb2 : Nat) (ys zs : List Value) (ll : List (List Img)) (w : World) (hl : ll.length = n) (ha : w.ownsRow ba 26 1 (.slice A n ca) n ys) (hra : RowMs w ba2 ys ll) (hb : w.ownsRow bb 26 1 (.slice B n cb) n zs) (hrb : RowMs w bb2 zs ll) (hn : n ≤ 1048576) (hn2 : ∀ l ∈ ll, l.length ≤ 1048576) :
    Calls Tryd.prog 20 #[.slice A n ca, .slice B n cb] w fun e w' => e = .returned (.bool true) ∧ ∃ m, w' = w.drewN m := by
  have HL := Lib.hid hl
  have HA := Lib.hid ha
  have HB := Lib.hid hb
  clear hl ha hb
  go_enter Tryd.func20, Tryd.ntmps20
  go_wp2
  go_loopw [5] (fun ix wr => ∃ (k m : Nat), k ≤ n ∧ ix = .int .i64 k ∧ wr = w.drewN m) (fun ix _ => n - (intOf ix).toNat)
  case atStart => exact ⟨0, 0, by omega, rfl, rfl⟩
  case round =>
    obtain ⟨k, m, hk, rfl, rfl⟩ := hrel
    by_cases hlt : k < n
    · have hkl : k < ll.length := by rw [HL.out]; exact hlt
      have hlen := hn2 _ (List.getElem_mem hkl)
      obtain ⟨g, A1, c1, rfl, a0, o1⟩ := rows_at HA.out hra hlt _ (List.getElem?_eq_getElem hkl)
      obtain ⟨g', A2, c2, rfl, b0, o2⟩ := rows_at HB.out hrb hlt _ (List.getElem?_eq_getElem hkl)
      generalize ll[k]'hkl = l at *
      have i1 : (0 : Int) ≤ (k : Int) := by omega
      have i2 : (k : Int) < (n : Int) := by omega
      have q0 : (w.drewN (m + 1)).cell? ⟨g, k, none⟩ = some (.slice A1 l.length c1) := a0
      have q1 : (w.drewN (m + 1)).cell? ⟨g', k, none⟩ = some (.slice A2 l.length c2) := b0
      have hsm := same_yes A1 A2 l.length c1 c2 ba2 bb2 l (w.drewN (m + 1)) o1 o2 hlen
      clear hkl a0 b0 o1 o2
      go_wp2
      go_region_held3 (fun w' => w'.cell? ⟨g, k, none⟩ = some (.slice A1 l.length c1) ∧ w'.cell? ⟨g', k, none⟩ = some (.slice A2 l.length c2)) (exact ⟨q0, q1⟩) (first | (go_at_call 12; refine hsm.mono ?_; rintro e w' ⟨rfl, m', rfl⟩))
      go_wp2
      exact ⟨⟨k + 1, m + 1 + m', by omega, by go_num, rfl⟩, by simp [intOf]; omega⟩
    · have hps : n ≤ k := by omega
      go_wp2
      go_ret
      exact ⟨rfl, m, rfl⟩
end Go.Proofs.YtkhebllmnagkmaaDoor
/- Contracts of the reference's Put and Latest, of layer 14. Conditions: what each names. -/
namespace Go.Proofs.YtkhebllmnagkmaaDoor
open Go.RowKit
set_option linter.unusedVariables false

theorem putI_split (l : List Img) (x : Img) (j : Nat) (hj : j ≤ l.length) (h : ∀ i p, i < j → l[i]? = some p → p.1 < x.1) (h2 : ∀ p, l[j]? = some p → ¬ p.1 < x.1) :
    putI l x = l.take j ++ [x] ++ (if (l[j]?.map (·.1)) = some x.1 then l.drop (j + 1) else l.drop j) := by
  induction l generalizing j with
  | nil => simp at hj; subst hj; simp [putI]
  | cons p r ih =>
    cases j with
    | zero =>
      have hn := h2 p rfl
      unfold putI
      rw [if_neg hn]
      by_cases he : p.1 = x.1
      · rw [if_pos he]; simp [he]
      · rw [if_neg he]; simp [he]
    | succ j =>
      have hlt := h 0 p (by omega) rfl
      unfold putI
      rw [if_pos hlt, ih j (by simpa using hj) (fun i q hi hq => h (i + 1) q (by omega) (by simpa using hq)) (fun q hq => h2 q (by simpa using hq))]
      simp
theorem encM_take (l : List Img) (j : Nat) : encM (l.take j) = (encM l).take (j * 2) := by
  induction l generalizing j with
  | nil => simp [encM]
  | cons p l ih =>
    cases j with
    | zero => simp [encM]
    | succ j =>
      have e : ∀ l, encM (p :: l) = .int .u64 (p.1 : Int) :: strB p.2 :: encM l := fun _ => rfl
      rw [List.take_succ_cons, e, e, ih, show (j + 1) * 2 = j * 2 + 1 + 1 by omega]
      rfl
theorem encM_drop (l : List Img) (j : Nat) : encM (l.drop j) = (encM l).drop (j * 2) := by
  induction l generalizing j with
  | nil => simp [encM]
  | cons p l ih =>
    cases j with
    | zero => simp
    | succ j =>
      have e : encM (p :: l) = .int .u64 (p.1 : Int) :: strB p.2 :: encM l := rfl
      rw [List.drop_succ_cons, e, ih, show (j + 1) * 2 = j * 2 + 1 + 1 by omega]
      rfl
theorem encM_one {l : List Img} : ∀ u ∈ encM l, u.oneCell' = true := by
  induction l with
  | nil => intro u hu; cases hu
  | cons p l ih =>
    intro u hu
    have e : encM (p :: l) = .int .u64 (p.1 : Int) :: strB p.2 :: encM l := rfl
    rw [e] at hu
    rcases List.mem_cons.1 hu with rfl | hu
    · rfl
    · rcases List.mem_cons.1 hu with rfl | hu
      · rfl
      · exact ih u hu
theorem Reads.first {w : World} {B size n : Nat} {A : Option Addr} {xs : List Value} (h : Reads w B size A n xs) (k : Nat) (hk : k ≤ n) : Reads w B size A k (xs.take (k * size)) := by
  refine ⟨by rw [List.length_take, h.1, Nat.min_eq_left (Nat.mul_le_mul_right _ hk)], fun hk0 => ?_⟩
  obtain ⟨ad, e, hb, hc⟩ := h.2 (by omega)
  refine ⟨ad, e, hb, fun j u hu => hc j u ?_⟩
  rw [List.getElem?_take] at hu
  split at hu
  · exact hu
  · cases hu
theorem own_cap' {w : World} {base n c : Nat} {A : Option Addr} {e : TypeId} {xs : List Value} (h : w.ownsRow base e 2 (.slice A n c) n xs) : n ≤ c := by
  rcases h.2 with ⟨hv, h0⟩ | ⟨g, cap, cur, hv, _, _, hc, _⟩
  · omega
  · injection hv with _ _ e
    omega
theorem own_zero {w : World} {base n : Nat} {e : TypeId} {v : Value} {xs : List Value} (h : w.ownsRow base e 2 v (0 + n) ([] ++ xs)) : w.ownsRow base e 2 v n xs := by simpa using h
theorem tail_reads {w w' : World} {ba n c j : Nat} {A : Option Addr} {l : List Img} (h : w.ownsRow ba 60 2 (.slice A n c) n (encM l)) (hb : Below w.heap.size w w') (hj : j ≤ n) : Reads w' w'.heap.size 2 (if c = j then A else A.map (·.add (j * 2))) (n - j) (encM (l.drop j)) := by
  rw [encM_drop]
  exact (((Reads.of_own h).cut hj (own_cap' h)).below hb).more hb.size
theorem own_putI {w : World} {base j n K : Nat} {A : Option Addr} {c x : Nat} {b : List UInt8} {l : List Img} (h : w.ownsRow base 60 2 (.slice A (j + 1 + (n - K)) c) (j + 1 + (n - K)) (((encM l).take (j * 2) ++ [Value.int .u64 (x : Int), .string ⟨b.toArray⟩]) ++ encM (l.drop K))) (hp : putI l (x, b) = l.take j ++ [(x, b)] ++ l.drop K) (hl : l.length = n) (hj : j ≤ n) (hK : K ≤ n) (b' : Nat) (hb : b' ≤ base) :
    (putI l (x, b)).length = j + 1 + (n - K) ∧ w.ownsRow b' 60 2 (.slice A (putI l (x, b)).length c) (putI l (x, b)).length (encM (putI l (x, b))) := by
  have hlen : (putI l (x, b)).length = j + 1 + (n - K) := by rw [hp]; simp [hl, Nat.min_eq_left hj]; omega
  have hM : encM (putI l (x, b)) = ((encM l).take (j * 2) ++ [Value.int .u64 (x : Int), .string ⟨b.toArray⟩]) ++ encM (l.drop K) := by rw [hp, encM_append, encM_append, encM_take]; rfl
  rw [hlen, hM]
  exact ⟨rfl, ownsRow_lower h hb⟩
theorem own_zero' {w : World} {base j d : Nat} {A : Option Addr} {c : Nat} {xs : List Value} (hd : d = 0) (h : w.ownsRow base 60 2 (.slice A (j + 1 + 0) c) (j + 1 + 0) xs) : w.ownsRow base 60 2 (.slice A (j + 1 + d) c) (j + 1 + d) xs := by rw [hd]; exact h
theorem ret_sl {A : Option Addr} {n m c : Nat} (h : n = m) : Ending.returned (.slice A n c) = .returned (.slice A m c) := by rw [h]
set_option maxRecDepth 100000 in
set_option maxHeartbeats 4000000 in
theorem refPut_any (A : Option Addr) (n c ba : Nat) (l : List Img) (x : Nat) (b : List UInt8) (w : World) (ha : w.ownsRow ba 60 2 (.slice A n c) n (encM l)) (hn : n ≤ 1048576) :
    Calls Tryd.prog 21 #[.slice A n c, .agg #[.int .u64 (x : Int), .string ⟨b.toArray⟩]] w fun e w' => ∃ A' c', e = .returned (.slice A' (putI l (x, b)).length c') ∧ w'.ownsRow w.heap.size 60 2 (.slice A' (putI l (x, b)).length c') (putI l (x, b)).length (encM (putI l (x, b))) ∧ Below w.heap.size w w' := by
  obtain ⟨i0, ii0, hz0, hz1, hz2⟩ := info_parts info60
  have hl : l.length = n := by have := ha.1; rw [encM_length] at this; omega
  obtain ⟨W0, hW0⟩ : ∃ W0 : World, W0 = w.alloc (.cells #[.int .u64 (x : Int), .string ⟨b.toArray⟩] 60) := ⟨_, rfl⟩
  have y0 : Below w.heap.size w W0 := by rw [hW0]; exact (Below.refl _ _).alloc (Nat.le_refl _) _
  have k0 : Blk W0 w.heap.size 60 #[.int .u64 (x : Int), .string ⟨b.toArray⟩] := by rw [hW0]; exact Blk.new_of rfl rfl
  have a0 : W0.ownsRow ba 60 2 (.slice A n c) n (encM l) := own_keep ha fun k e => y0.block k (World.ownsRow.lt ha k e).2
  have hs0 : W0.heap.size = w.heap.size + 1 := by rw [hW0]; simp
  have HW0 := Lib.hid hW0
  have HL := Lib.hid hl
  have HA := Lib.hid a0
  have HS0 := Lib.hid hs0
  have hb0 : w.heap.size < W0.heap.size := by omega
  clear hW0 hl ha a0 hs0
  go_enter Tryd.func21, Tryd.ntmps21
  go_wp2
  rw [← HW0.out]
  go_loopw [5] (fun ix wr => ∃ (j m : Nat), j ≤ n ∧ ix = .int .i64 j ∧ (∀ i p, i < j → l[i]? = some p → p.1 < x) ∧ wr = W0.drewN m) (fun ix _ => n - (intOf ix).toNat)
  case atStart => exact ⟨0, 0, by omega, rfl, fun i p hi => by omega, rfl⟩
  case round =>
    obtain ⟨j, m, hj, rfl, hall, rfl⟩ := hrel
    have HALL := Lib.hid hall
    clear hall
    by_cases hlt : j < n
    · have hjl : j < l.length := by rw [HL.out]; exact hlt
      have hpj : l[j]? = some (l[j]'hjl) := List.getElem?_eq_getElem hjl
      obtain ⟨g, rfl, hg, c0, c1⟩ := own_at HA.out hlt _ hpj
      have HPJ := Lib.hid hpj
      generalize l[j]'hjl = p at *
      obtain ⟨y, by'⟩ := p
      simp only at c0 c1
      have i1 : (0 : Int) ≤ (j : Int) := by omega
      have i2 : (j : Int) < (n : Int) := by omega
      have dj : decide (j < n) = true := decide_eq_true hlt
      have q0 : (W0.drewN (m + 1)).cell? ⟨g, j * 2, none⟩ = some (.int .u64 (y : Int)) := c0
      have q1 : (W0.drewN (m + 1)).cell? ⟨w.heap.size, 0, none⟩ = some (.int .u64 (x : Int)) := k0.cell 0
      clear hpj hjl c0 c1
      by_cases hyx : y < x
      · have hd : decide (y < x) = true := decide_eq_true hyx
        go_wp2
        go_region_held3 (fun w' => w'.cell? ⟨g, j * 2, none⟩ = some (.int .u64 (y : Int)) ∧ w'.cell? ⟨w.heap.size, 0, none⟩ = some (.int .u64 (x : Int))) (exact ⟨q0, q1⟩) (fail)
        go_wp2
        refine ⟨⟨j + 1, m + 1, by omega, by go_num, fun i p hi hp => ?_, rfl⟩, by simp [intOf]; omega⟩
        rcases Nat.lt_succ_iff_lt_or_eq.1 hi with h | h
        · exact HALL.out i p h hp
        · subst h
          rw [HPJ.out] at hp
          cases hp
          exact hyx
      · have hd : decide (y < x) = false := decide_eq_false hyx
        have BD : ∀ k, Below W0.heap.size W0 (W0.drewN k) := fun k => below_drewN (Below.refl _ _) k
        have XC0 := Lib.hid (show ∀ W, Below W0.heap.size W0 W → W.cell? ⟨w.heap.size, 0, none⟩ = some (.int .u64 (x : Int)) from fun W h => (h.cell (p := ⟨w.heap.size, 0, none⟩) hb0).trans (k0.cell 0))
        have XC1 := Lib.hid (show ∀ W, Below W0.heap.size W0 W → W.cell? ⟨w.heap.size, 1, none⟩ = some (.string ⟨b.toArray⟩) from fun W h => (h.cell (p := ⟨w.heap.size, 1, none⟩) hb0).trans (k0.cell 1))
        have hone1 : ∀ u ∈ (encM l).take (j * 2), u.oneCell' = true := fun u hu => encM_one u (List.mem_of_mem_take hu)
        have hone2 : ∀ u ∈ [Value.int .u64 (x : Int), .string ⟨b.toArray⟩], u.oneCell' = true := by intro u hu; simp only [List.mem_cons, List.not_mem_nil, or_false] at hu; rcases hu with rfl | rfl <;> rfl
        have hm1 : 0 + j ≤ maxLen := by unfold maxLen; omega
        have hm2 : (0 + j) * 24 ≤ 140737488355328 := by omega
        have hm3 : j + 1 ≤ maxLen := by unfold maxLen; omega
        have hm4 : (j + 1) * 24 ≤ 140737488355328 := by omega
        have hr1 := fun k => ((Reads.of_own HA.out).first j hj).drewN k
        have hbase : ∀ k, W0.heap.size ≤ (W0.drewN k).heap.size := fun k => Nat.le_refl _
        have hnc : n ≤ c := own_cap' HA.out
        have XY := Lib.hid (show ∀ W, Below W0.heap.size W0 W → W.cell? ⟨g, j * 2, none⟩ = some (.int .u64 (y : Int)) from fun W h => (h.cell (p := ⟨g, j * 2, none⟩) hg).trans q0)
        by_cases heq : y = x
        · have he1 : decide (y = x) = true := decide_eq_true heq
          have he2 : ((y : Int) == (x : Int)) = true := by rw [beq_iff_eq]; omega
          have HP := Lib.hid (show putI l (x, b) = l.take j ++ [(x, b)] ++ l.drop (j + 1) from by rw [putI_split l (x, b) j (by rw [HL.out]; exact hj) HALL.out (fun p hp => by rw [HPJ.out] at hp; cases hp; exact hyx), HPJ.out]; simp [heq])
          by_cases hcj : c = j + 1
          · have hcj2 := hcj.symm; clear hcj; subst hcj2
            have hz0 : n - (j + 1) = 0 := by omega
            have HZ := Lib.hid hz0
            have hm5z : j + 1 + 0 ≤ maxLen := by unfold maxLen; omega
            have hm6z : (j + 1 + 0) * 24 ≤ 140737488355328 := by omega
            clear hz0
            have hK : j + 1 ≤ n := by omega
            have hone3 : ∀ u ∈ encM (l.drop (j + 1)), u.oneCell' = true := encM_one
            have hm5 : j + 1 + (n - (j + 1)) ≤ maxLen := by unfold maxLen; omega
            have hm6 : (j + 1 + (n - (j + 1))) * 24 ≤ 140737488355328 := by omega
            have HRT := Lib.hid (show ∀ W, Below W0.heap.size W0 W → Reads W W.heap.size 2 (some ⟨g, 0, none⟩) (0) (encM (l.drop (j + 1))) from fun W h => by have h1 := tail_reads HA.out h hK; rw [HZ.out] at h1; rw [if_pos rfl] at h1; exact h1)
            go_wp2
            go_region_held3 (fun w' => w'.cell? ⟨g, j * 2, none⟩ = some (.int .u64 (y : Int)) ∧ w'.cell? ⟨w.heap.size, 0, none⟩ = some (.int .u64 (x : Int))) (exact ⟨q0, q1⟩) (fail)
            go_wp2_with (first | (at_builtin; refine wpList_append_any _ rfl (.tmp 23) (.tmp 26) 26 rfl W0.heap.size 60 i0 _ 2 24 Tryd.underlying26 ii0 hz0 hz1 hz2 rfl (by omega) (.slice none 0 0) 0 [] rfl (World.ownsRow_nil _ _ _ _) _ _ j _ _ rfl (hr1 _) hone1 hm1 hm2 (hbase _) ?_; intro v5 w5 hown5 hg5 hat5; have ho5 := own_zero hown5; obtain ⟨A5, c5, rfl⟩ := own_shape ho5; have B5 := (BD _).grown hg5 (Nat.le_refl _) (fun bk e => by cases e); have hs5 := B5.size; have x0 := XC0.out w5 B5; have x1 := XC1.out w5 B5; have hnews2 := Blk.rows (xs := [Value.int .u64 (x : Int), .string ⟨b.toArray⟩]) 1 2 (Blk.new w5 60 #[Value.int .u64 (x : Int), .string ⟨b.toArray⟩]) rfl; have hbase2 : W0.heap.size ≤ (w5.alloc (.cells #[Value.int .u64 (x : Int), .string ⟨b.toArray⟩] 60)).heap.size := (by rw [size_alloc']; omega)) | (at_builtin; refine wpList_append_any _ rfl (.tmp 28) (.tmp 30) 26 rfl W0.heap.size 60 i0 _ 2 24 Tryd.underlying26 ii0 hz0 hz1 hz2 rfl (by omega) (.slice A5 j c5) j ((encM l).take (j * 2)) rfl (World.ownsRow.alloc ho5 _) _ (some ⟨w5.heap.size, 0, none⟩) 1 1 [_, _] rfl hnews2 hone2 hm3 hm4 hbase2 ?_; intro v6 w6 ho6 hg6 hat6; obtain ⟨A6, c6, rfl⟩ := own_shape ho6; have B6 := (B5.alloc hs5 _).grown hg6 hbase2 (fun bk e => (World.ownsRow.lt ho5 bk e).1); have hs6 := B6.size; have z1 := XC0.out w6.drew B6.drew))
            have z0 := XY.out w6.drew B6.drew
            go_region_held3 (fun w' => w'.cell? ⟨g, j * 2, none⟩ = some (.int .u64 (y : Int)) ∧ w'.cell? ⟨w.heap.size, 0, none⟩ = some (.int .u64 (x : Int))) (exact ⟨z0, z1⟩) (fail)
            have hr3 := HRT.out w6.drew B6.drew
            go_wp2_with (first | (at_builtin; refine wpList_append_any _ rfl (.tmp 48) (.tmp 51) 26 rfl W0.heap.size 60 i0 _ 2 24 Tryd.underlying26 ii0 hz0 hz1 hz2 rfl (by omega) (.slice A6 (j + 1) c6) (j + 1) ((encM l).take (j * 2) ++ [Value.int .u64 (x : Int), .string ⟨b.toArray⟩]) rfl ho6 _ _ _ _ _ rfl hr3 hone3 hm5z hm6z hs6 ?_; intro v7 w7 ho7 hg7 hat7; obtain ⟨A7, c7, rfl⟩ := own_shape ho7))
            go_ret
            have ho7' := own_zero' HZ.out ho7
            obtain ⟨e1, e2⟩ := own_putI ho7' HP.out HL.out hj hK w.heap.size (Nat.le_of_lt hb0)
            exact ⟨A7, c7, ret_sl (by have hz := HZ.out; omega), e2, y0.trans ((B6.drew.grown hg7 hs6 (fun bk e => (World.ownsRow.lt ho6 bk e).1)).mono (Nat.le_of_lt hb0))⟩
          · have hcj' := Lib.hid hcj
            have HZ := Lib.hid (trivial : True)
            have hK : j + 1 ≤ n := by omega
            have hone3 : ∀ u ∈ encM (l.drop (j + 1)), u.oneCell' = true := encM_one
            have hm5 : j + 1 + (n - (j + 1)) ≤ maxLen := by unfold maxLen; omega
            have hm6 : (j + 1 + (n - (j + 1))) * 24 ≤ 140737488355328 := by omega
            have HRT := Lib.hid (show ∀ W, Below W0.heap.size W0 W → Reads W W.heap.size 2 (some ⟨g, (j + 1) * 2, none⟩) (n - (j + 1)) (encM (l.drop (j + 1))) from fun W h => by have h1 := tail_reads HA.out h hK; rw [if_neg hcj'.out] at h1; rw [Option.map_some, add_head] at h1; exact h1)
            go_wp2
            go_region_held3 (fun w' => w'.cell? ⟨g, j * 2, none⟩ = some (.int .u64 (y : Int)) ∧ w'.cell? ⟨w.heap.size, 0, none⟩ = some (.int .u64 (x : Int))) (exact ⟨q0, q1⟩) (fail)
            go_wp2_with (first | (at_builtin; refine wpList_append_any _ rfl (.tmp 23) (.tmp 26) 26 rfl W0.heap.size 60 i0 _ 2 24 Tryd.underlying26 ii0 hz0 hz1 hz2 rfl (by omega) (.slice none 0 0) 0 [] rfl (World.ownsRow_nil _ _ _ _) _ _ j _ _ rfl (hr1 _) hone1 hm1 hm2 (hbase _) ?_; intro v5 w5 hown5 hg5 hat5; have ho5 := own_zero hown5; obtain ⟨A5, c5, rfl⟩ := own_shape ho5; have B5 := (BD _).grown hg5 (Nat.le_refl _) (fun bk e => by cases e); have hs5 := B5.size; have x0 := XC0.out w5 B5; have x1 := XC1.out w5 B5; have hnews2 := Blk.rows (xs := [Value.int .u64 (x : Int), .string ⟨b.toArray⟩]) 1 2 (Blk.new w5 60 #[Value.int .u64 (x : Int), .string ⟨b.toArray⟩]) rfl; have hbase2 : W0.heap.size ≤ (w5.alloc (.cells #[Value.int .u64 (x : Int), .string ⟨b.toArray⟩] 60)).heap.size := (by rw [size_alloc']; omega)) | (at_builtin; refine wpList_append_any _ rfl (.tmp 28) (.tmp 30) 26 rfl W0.heap.size 60 i0 _ 2 24 Tryd.underlying26 ii0 hz0 hz1 hz2 rfl (by omega) (.slice A5 j c5) j ((encM l).take (j * 2)) rfl (World.ownsRow.alloc ho5 _) _ (some ⟨w5.heap.size, 0, none⟩) 1 1 [_, _] rfl hnews2 hone2 hm3 hm4 hbase2 ?_; intro v6 w6 ho6 hg6 hat6; obtain ⟨A6, c6, rfl⟩ := own_shape ho6; have B6 := (B5.alloc hs5 _).grown hg6 hbase2 (fun bk e => (World.ownsRow.lt ho5 bk e).1); have hs6 := B6.size; have z1 := XC0.out w6.drew B6.drew))
            have z0 := XY.out w6.drew B6.drew
            go_region_held3 (fun w' => w'.cell? ⟨g, j * 2, none⟩ = some (.int .u64 (y : Int)) ∧ w'.cell? ⟨w.heap.size, 0, none⟩ = some (.int .u64 (x : Int))) (exact ⟨z0, z1⟩) (fail)
            have hr3 := HRT.out w6.drew B6.drew
            go_wp2_with (first | (at_builtin; refine wpList_append_any _ rfl (.tmp 48) (.tmp 51) 26 rfl W0.heap.size 60 i0 _ 2 24 Tryd.underlying26 ii0 hz0 hz1 hz2 rfl (by omega) (.slice A6 (j + 1) c6) (j + 1) ((encM l).take (j * 2) ++ [Value.int .u64 (x : Int), .string ⟨b.toArray⟩]) rfl ho6 _ _ _ _ _ rfl hr3 hone3 hm5 hm6 hs6 ?_; intro v7 w7 ho7 hg7 hat7; obtain ⟨A7, c7, rfl⟩ := own_shape ho7))
            go_ret
            have ho7' := ho7
            obtain ⟨e1, e2⟩ := own_putI ho7' HP.out HL.out hj hK w.heap.size (Nat.le_of_lt hb0)
            exact ⟨A7, c7, ret_sl (by have hz := HZ.out; omega), e2, y0.trans ((B6.drew.grown hg7 hs6 (fun bk e => (World.ownsRow.lt ho6 bk e).1)).mono (Nat.le_of_lt hb0))⟩
        · have he1 : decide (y = x) = false := decide_eq_false heq
          have he2 : ((y : Int) == (x : Int)) = false := by rw [beq_eq_false_iff_ne]; omega
          have HP := Lib.hid (show putI l (x, b) = l.take j ++ [(x, b)] ++ l.drop j from by rw [putI_split l (x, b) j (by rw [HL.out]; exact hj) HALL.out (fun p hp => by rw [HPJ.out] at hp; cases hp; exact hyx), HPJ.out]; simp [heq])
          have hcj : ¬ c = j := by omega
          have hcj' := Lib.hid hcj
          have HZ := Lib.hid (trivial : True)
          have hK : j ≤ n := by omega
          have hone3 : ∀ u ∈ encM (l.drop (j)), u.oneCell' = true := encM_one
          have hm5 : j + 1 + (n - (j)) ≤ maxLen := by unfold maxLen; omega
          have hm6 : (j + 1 + (n - (j))) * 24 ≤ 140737488355328 := by omega
          have HRT := Lib.hid (show ∀ W, Below W0.heap.size W0 W → Reads W W.heap.size 2 (some ⟨g, (j) * 2, none⟩) (n - (j)) (encM (l.drop (j))) from fun W h => by have h1 := tail_reads HA.out h hK; rw [if_neg hcj'.out] at h1; rw [Option.map_some, add_head] at h1; exact h1)
          go_wp2
          go_region_held3 (fun w' => w'.cell? ⟨g, j * 2, none⟩ = some (.int .u64 (y : Int)) ∧ w'.cell? ⟨w.heap.size, 0, none⟩ = some (.int .u64 (x : Int))) (exact ⟨q0, q1⟩) (fail)
          go_wp2_with (first | (at_builtin; refine wpList_append_any _ rfl (.tmp 23) (.tmp 26) 26 rfl W0.heap.size 60 i0 _ 2 24 Tryd.underlying26 ii0 hz0 hz1 hz2 rfl (by omega) (.slice none 0 0) 0 [] rfl (World.ownsRow_nil _ _ _ _) _ _ j _ _ rfl (hr1 _) hone1 hm1 hm2 (hbase _) ?_; intro v5 w5 hown5 hg5 hat5; have ho5 := own_zero hown5; obtain ⟨A5, c5, rfl⟩ := own_shape ho5; have B5 := (BD _).grown hg5 (Nat.le_refl _) (fun bk e => by cases e); have hs5 := B5.size; have x0 := XC0.out w5 B5; have x1 := XC1.out w5 B5; have hnews2 := Blk.rows (xs := [Value.int .u64 (x : Int), .string ⟨b.toArray⟩]) 1 2 (Blk.new w5 60 #[Value.int .u64 (x : Int), .string ⟨b.toArray⟩]) rfl; have hbase2 : W0.heap.size ≤ (w5.alloc (.cells #[Value.int .u64 (x : Int), .string ⟨b.toArray⟩] 60)).heap.size := (by rw [size_alloc']; omega)) | (at_builtin; refine wpList_append_any _ rfl (.tmp 28) (.tmp 30) 26 rfl W0.heap.size 60 i0 _ 2 24 Tryd.underlying26 ii0 hz0 hz1 hz2 rfl (by omega) (.slice A5 j c5) j ((encM l).take (j * 2)) rfl (World.ownsRow.alloc ho5 _) _ (some ⟨w5.heap.size, 0, none⟩) 1 1 [_, _] rfl hnews2 hone2 hm3 hm4 hbase2 ?_; intro v6 w6 ho6 hg6 hat6; obtain ⟨A6, c6, rfl⟩ := own_shape ho6; have B6 := (B5.alloc hs5 _).grown hg6 hbase2 (fun bk e => (World.ownsRow.lt ho5 bk e).1); have hs6 := B6.size; have z1 := XC0.out w6.drew B6.drew))
          have z0 := XY.out w6.drew B6.drew
          go_region_held3 (fun w' => w'.cell? ⟨g, j * 2, none⟩ = some (.int .u64 (y : Int)) ∧ w'.cell? ⟨w.heap.size, 0, none⟩ = some (.int .u64 (x : Int))) (exact ⟨z0, z1⟩) (fail)
          have hr3 := HRT.out w6.drew B6.drew
          go_wp2_with (first | (at_builtin; refine wpList_append_any _ rfl (.tmp 48) (.tmp 51) 26 rfl W0.heap.size 60 i0 _ 2 24 Tryd.underlying26 ii0 hz0 hz1 hz2 rfl (by omega) (.slice A6 (j + 1) c6) (j + 1) ((encM l).take (j * 2) ++ [Value.int .u64 (x : Int), .string ⟨b.toArray⟩]) rfl ho6 _ _ _ _ _ rfl hr3 hone3 hm5 hm6 hs6 ?_; intro v7 w7 ho7 hg7 hat7; obtain ⟨A7, c7, rfl⟩ := own_shape ho7))
          go_ret
          have ho7' := ho7
          obtain ⟨e1, e2⟩ := own_putI ho7' HP.out HL.out hj hK w.heap.size (Nat.le_of_lt hb0)
          exact ⟨A7, c7, ret_sl (by have hz := HZ.out; omega), e2, y0.trans ((B6.drew.grown hg7 hs6 (fun bk e => (World.ownsRow.lt ho6 bk e).1)).mono (Nat.le_of_lt hb0))⟩
    · have hjn : j = n := by omega
      have hps : n ≤ j := by omega
      have dj : decide (j < n) = false := decide_eq_false hlt
      have dji : decide ((j : Int) < (n : Int)) = false := decide_eq_false (by omega)
      have HJN := Lib.hid hjn
      clear hjn hlt
      have BD : ∀ k, Below W0.heap.size W0 (W0.drewN k) := fun k => below_drewN (Below.refl _ _) k
      have XC0 := Lib.hid (show ∀ W, Below W0.heap.size W0 W → W.cell? ⟨w.heap.size, 0, none⟩ = some (.int .u64 (x : Int)) from fun W h => (h.cell (p := ⟨w.heap.size, 0, none⟩) hb0).trans (k0.cell 0))
      have XC1 := Lib.hid (show ∀ W, Below W0.heap.size W0 W → W.cell? ⟨w.heap.size, 1, none⟩ = some (.string ⟨b.toArray⟩) from fun W h => (h.cell (p := ⟨w.heap.size, 1, none⟩) hb0).trans (k0.cell 1))
      have hone1 : ∀ u ∈ (encM l).take (j * 2), u.oneCell' = true := fun u hu => encM_one u (List.mem_of_mem_take hu)
      have hone2 : ∀ u ∈ [Value.int .u64 (x : Int), .string ⟨b.toArray⟩], u.oneCell' = true := by intro u hu; simp only [List.mem_cons, List.not_mem_nil, or_false] at hu; rcases hu with rfl | rfl <;> rfl
      have hm1 : 0 + j ≤ maxLen := by unfold maxLen; omega
      have hm2 : (0 + j) * 24 ≤ 140737488355328 := by omega
      have hm3 : j + 1 ≤ maxLen := by unfold maxLen; omega
      have hm4 : (j + 1) * 24 ≤ 140737488355328 := by omega
      have hr1 := fun k => ((Reads.of_own HA.out).first j hj).drewN k
      have hbase : ∀ k, W0.heap.size ≤ (W0.drewN k).heap.size := fun k => Nat.le_refl _
      have hnc : n ≤ c := own_cap' HA.out
      have HP := Lib.hid (show putI l (x, b) = l.take j ++ [(x, b)] ++ l.drop j from by rw [putI_split l (x, b) j (by rw [HL.out]; omega) HALL.out (fun p hp => by rw [List.getElem?_eq_none (by rw [HL.out]; omega)] at hp; cases hp), List.getElem?_eq_none (by rw [HL.out]; omega)]; rfl)
      by_cases hcj : c = j
      · have hcj2 := hcj.symm; clear hcj; subst hcj2
        have hz0 : n - (j) = 0 := by omega
        have HZ := Lib.hid hz0
        have hm5z : j + 1 + 0 ≤ maxLen := by unfold maxLen; omega
        have hm6z : (j + 1 + 0) * 24 ≤ 140737488355328 := by omega
        clear hz0
        have hK : j ≤ n := by omega
        have hone3 : ∀ u ∈ encM (l.drop (j)), u.oneCell' = true := encM_one
        have hm5 : j + 1 + (n - (j)) ≤ maxLen := by unfold maxLen; omega
        have hm6 : (j + 1 + (n - (j))) * 24 ≤ 140737488355328 := by omega
        have HRT := Lib.hid (show ∀ W, Below W0.heap.size W0 W → Reads W W.heap.size 2 A (0) (encM (l.drop (j))) from fun W h => by have h1 := tail_reads HA.out h hK; rw [HZ.out] at h1; rw [if_pos rfl] at h1; exact h1)
        go_wp2
        go_quiet (fail)
        go_wp2_with (first | (at_builtin; refine wpList_append_any _ rfl (.tmp 23) (.tmp 26) 26 rfl W0.heap.size 60 i0 _ 2 24 Tryd.underlying26 ii0 hz0 hz1 hz2 rfl (by omega) (.slice none 0 0) 0 [] rfl (World.ownsRow_nil _ _ _ _) _ _ j _ _ rfl (hr1 _) hone1 hm1 hm2 (hbase _) ?_; intro v5 w5 hown5 hg5 hat5; have ho5 := own_zero hown5; obtain ⟨A5, c5, rfl⟩ := own_shape ho5; have B5 := (BD _).grown hg5 (Nat.le_refl _) (fun bk e => by cases e); have hs5 := B5.size; have x0 := XC0.out w5 B5; have x1 := XC1.out w5 B5; have hnews2 := Blk.rows (xs := [Value.int .u64 (x : Int), .string ⟨b.toArray⟩]) 1 2 (Blk.new w5 60 #[Value.int .u64 (x : Int), .string ⟨b.toArray⟩]) rfl; have hbase2 : W0.heap.size ≤ (w5.alloc (.cells #[Value.int .u64 (x : Int), .string ⟨b.toArray⟩] 60)).heap.size := (by rw [size_alloc']; omega)) | (at_builtin; refine wpList_append_any _ rfl (.tmp 28) (.tmp 30) 26 rfl W0.heap.size 60 i0 _ 2 24 Tryd.underlying26 ii0 hz0 hz1 hz2 rfl (by omega) (.slice A5 j c5) j ((encM l).take (j * 2)) rfl (World.ownsRow.alloc ho5 _) _ (some ⟨w5.heap.size, 0, none⟩) 1 1 [_, _] rfl hnews2 hone2 hm3 hm4 hbase2 ?_; intro v6 w6 ho6 hg6 hat6; obtain ⟨A6, c6, rfl⟩ := own_shape ho6; have B6 := (B5.alloc hs5 _).grown hg6 hbase2 (fun bk e => (World.ownsRow.lt ho5 bk e).1); have hs6 := B6.size; have z1 := XC0.out w6.drew B6.drew))
        go_quiet (fail)
        have hr3 := HRT.out w6.drew B6.drew
        go_wp2_with (first | (at_builtin; refine wpList_append_any _ rfl (.tmp 48) (.tmp 51) 26 rfl W0.heap.size 60 i0 _ 2 24 Tryd.underlying26 ii0 hz0 hz1 hz2 rfl (by omega) (.slice A6 (j + 1) c6) (j + 1) ((encM l).take (j * 2) ++ [Value.int .u64 (x : Int), .string ⟨b.toArray⟩]) rfl ho6 _ _ _ _ _ rfl hr3 hone3 hm5z hm6z hs6 ?_; intro v7 w7 ho7 hg7 hat7; obtain ⟨A7, c7, rfl⟩ := own_shape ho7))
        go_ret
        have ho7' := own_zero' HZ.out ho7
        obtain ⟨e1, e2⟩ := own_putI ho7' HP.out HL.out hj hK w.heap.size (Nat.le_of_lt hb0)
        exact ⟨A7, c7, ret_sl (by have hz := HZ.out; omega), e2, y0.trans (((below_drewN B6 _).grown hg7 hs6 (fun bk e => (World.ownsRow.lt ho6 bk e).1)).mono (Nat.le_of_lt hb0))⟩
      · have hcj' := Lib.hid hcj
        obtain ⟨g, rfl⟩ : ∃ g, A = some ⟨g, 0, none⟩ := by
          rcases HA.out.2 with ⟨hv, h0⟩ | ⟨g', cap', cur, hv, _⟩
          · injection hv with _ _ e; omega
          · injection hv with e; exact ⟨g', e⟩
        have hz0 : n - (j) = 0 := by omega
        have HZ := Lib.hid hz0
        have hm5z : j + 1 + 0 ≤ maxLen := by unfold maxLen; omega
        have hm6z : (j + 1 + 0) * 24 ≤ 140737488355328 := by omega
        clear hz0
        have hK : j ≤ n := by omega
        have hone3 : ∀ u ∈ encM (l.drop (j)), u.oneCell' = true := encM_one
        have hm5 : j + 1 + (n - (j)) ≤ maxLen := by unfold maxLen; omega
        have hm6 : (j + 1 + (n - (j))) * 24 ≤ 140737488355328 := by omega
        have HRT := Lib.hid (show ∀ W, Below W0.heap.size W0 W → Reads W W.heap.size 2 (some ⟨g, j * 2, none⟩) (0) (encM (l.drop (j))) from fun W h => by have h1 := tail_reads HA.out h hK; rw [HZ.out] at h1; rw [if_neg hcj'.out] at h1; rw [Option.map_some, add_head] at h1; exact h1)
        go_wp2
        go_quiet (fail)
        go_wp2_with (first | (at_builtin; refine wpList_append_any _ rfl (.tmp 23) (.tmp 26) 26 rfl W0.heap.size 60 i0 _ 2 24 Tryd.underlying26 ii0 hz0 hz1 hz2 rfl (by omega) (.slice none 0 0) 0 [] rfl (World.ownsRow_nil _ _ _ _) _ _ j _ _ rfl (hr1 _) hone1 hm1 hm2 (hbase _) ?_; intro v5 w5 hown5 hg5 hat5; have ho5 := own_zero hown5; obtain ⟨A5, c5, rfl⟩ := own_shape ho5; have B5 := (BD _).grown hg5 (Nat.le_refl _) (fun bk e => by cases e); have hs5 := B5.size; have x0 := XC0.out w5 B5; have x1 := XC1.out w5 B5; have hnews2 := Blk.rows (xs := [Value.int .u64 (x : Int), .string ⟨b.toArray⟩]) 1 2 (Blk.new w5 60 #[Value.int .u64 (x : Int), .string ⟨b.toArray⟩]) rfl; have hbase2 : W0.heap.size ≤ (w5.alloc (.cells #[Value.int .u64 (x : Int), .string ⟨b.toArray⟩] 60)).heap.size := (by rw [size_alloc']; omega)) | (at_builtin; refine wpList_append_any _ rfl (.tmp 28) (.tmp 30) 26 rfl W0.heap.size 60 i0 _ 2 24 Tryd.underlying26 ii0 hz0 hz1 hz2 rfl (by omega) (.slice A5 j c5) j ((encM l).take (j * 2)) rfl (World.ownsRow.alloc ho5 _) _ (some ⟨w5.heap.size, 0, none⟩) 1 1 [_, _] rfl hnews2 hone2 hm3 hm4 hbase2 ?_; intro v6 w6 ho6 hg6 hat6; obtain ⟨A6, c6, rfl⟩ := own_shape ho6; have B6 := (B5.alloc hs5 _).grown hg6 hbase2 (fun bk e => (World.ownsRow.lt ho5 bk e).1); have hs6 := B6.size; have z1 := XC0.out w6.drew B6.drew))
        go_quiet (fail)
        have hr3 := HRT.out w6.drew B6.drew
        go_wp2_with (first | (at_builtin; refine wpList_append_any _ rfl (.tmp 48) (.tmp 51) 26 rfl W0.heap.size 60 i0 _ 2 24 Tryd.underlying26 ii0 hz0 hz1 hz2 rfl (by omega) (.slice A6 (j + 1) c6) (j + 1) ((encM l).take (j * 2) ++ [Value.int .u64 (x : Int), .string ⟨b.toArray⟩]) rfl ho6 _ _ _ _ _ rfl hr3 hone3 hm5z hm6z hs6 ?_; intro v7 w7 ho7 hg7 hat7; obtain ⟨A7, c7, rfl⟩ := own_shape ho7))
        go_ret
        have ho7' := own_zero' HZ.out ho7
        obtain ⟨e1, e2⟩ := own_putI ho7' HP.out HL.out hj hK w.heap.size (Nat.le_of_lt hb0)
        exact ⟨A7, c7, ret_sl (by have hz := HZ.out; omega), e2, y0.trans (((below_drewN B6 _).grown hg7 hs6 (fun bk e => (World.ownsRow.lt ho6 bk e).1)).mono (Nat.le_of_lt hb0))⟩
end Go.Proofs.YtkhebllmnagkmaaDoor
/- Contract of the reference's Latest, of layer 14. Conditions: what it names. -/
namespace Go.Proofs.YtkhebllmnagkmaaDoor
open Go.RowKit
set_option linter.unusedVariables false

theorem putI_len (l : List Img) (x : Img) : (putI l x).length ≤ l.length + 1 := by
  induction l with
  | nil => simp [putI]
  | cons p r ih =>
    unfold putI
    split
    · simp; omega
    · split <;> simp
theorem latest_len (l : List Img) : (latest l).length ≤ l.length := by
  refine snoc_induction (P := fun l => (latest l).length ≤ l.length) (by simp [latest]) (fun l x ih => ?_) l
  rw [latest_snoc, List.length_append, List.length_singleton]
  have := putI_len (latest l) x
  omega
theorem flat_take_le (ll : List (List Img)) (k : Nat) : (ll.take k).flatten.length ≤ ll.flatten.length := by
  have h := congrArg List.length (congrArg List.flatten (List.take_append_drop k ll))
  rw [List.flatten_append, List.length_append] at h
  omega
set_option maxRecDepth 100000 in
set_option maxHeartbeats 4000000 in
theorem refLatest_any (A : Option Addr) (n c b1 b2 : Nat) (ys : List Value) (ll : List (List Img)) (w : World) (hl : ll.length = n) (ha : w.ownsRow b1 26 1 (.slice A n c) n ys) (hR : RowMs w b2 ys ll) (hn : n ≤ 1048576) (hm : ll.flatten.length ≤ 1048575) :
    Calls Tryd.prog 9 #[.slice A n c] w fun e w' => ∃ A' c', e = .returned (.slice A' (latest ll.flatten).length c') ∧ w'.ownsRow w.heap.size 60 2 (.slice A' (latest ll.flatten).length c') (latest ll.flatten).length (encM (latest ll.flatten)) ∧ Below w.heap.size w w' := by
  have HL := Lib.hid hl
  have HA := Lib.hid ha
  clear hl ha
  go_enter Tryd.func9, Tryd.ntmps9
  go_wp2
  go_loopw [3, 4] (fun vo ix wr => ∃ (k : Nat) (A' : Option Addr) (c' : Nat), k ≤ n ∧ ix = .int .i64 k ∧ vo = .slice A' (latest (ll.take k).flatten).length c' ∧ wr.ownsRow w.heap.size 60 2 (.slice A' (latest (ll.take k).flatten).length c') (latest (ll.take k).flatten).length (encM (latest (ll.take k).flatten)) ∧ Below w.heap.size w wr) (fun _ ix _ => n - (intOf ix).toNat)
  case atStart => exact ⟨0, none, 0, by omega, rfl, rfl, World.ownsRow_nil _ _ _ _, Below.refl _ _⟩
  case round =>
    obtain ⟨k, A', c', hk, rfl, rfl, hor, hw⟩ := hrel
    obtain ⟨wo, rfl⟩ : ∃ wo : World, wo = wr := ⟨_, rfl⟩
    by_cases hlt : k < n
    · have hkl : k < ll.length := by rw [HL.out]; exact hlt
      obtain ⟨g, A1, c1, rfl, a0, o1⟩ := rows_at HA.out hR hlt _ (List.getElem?_eq_getElem hkl)
      have hgl := (World.ownsRow.lt HA.out g rfl).2
      have htk : (ll.take (k + 1)).flatten = (ll.take k).flatten ++ ll[k]'hkl := by rw [List.take_succ_eq_append_getElem hkl, List.flatten_append, List.flatten_singleton]
      have hfl := flat_take_le ll (k + 1)
      rw [htk, List.length_append] at hfl
      generalize ll[k]'hkl = l at *
      generalize (ll.take k).flatten = fl at *
      have HTK := Lib.hid htk
      have XA := Lib.hid (show ∀ W, Below w.heap.size w W → W.cell? ⟨g, k, none⟩ = some (.slice A1 l.length c1) from fun W h => (h.cell (p := ⟨g, k, none⟩) hgl).trans a0)
      have XO := Lib.hid (show ∀ W, Below w.heap.size w W → W.ownsRow b2 60 2 (.slice A1 l.length c1) l.length (encM l) from fun W h => own_keep o1 fun bk e => h.block bk (World.ownsRow.lt o1 bk e).2)
      clear htk hkl a0 o1
      go_wp2
      go_loopw [3, 5] (fun vo ix wr => ∃ (j : Nat) (A' : Option Addr) (c' : Nat), j ≤ l.length ∧ ix = .int .i64 j ∧ vo = .slice A' (latest (fl ++ l.take j)).length c' ∧ wr.ownsRow w.heap.size 60 2 (.slice A' (latest (fl ++ l.take j)).length c') (latest (fl ++ l.take j)).length (encM (latest (fl ++ l.take j))) ∧ Below w.heap.size w wr) (fun _ ix _ => l.length - (intOf ix).toNat)
      case atStart => exact ⟨0, A', c', by omega, rfl, by rw [List.take_zero, List.append_nil], by rw [List.take_zero, List.append_nil]; exact hor, hw⟩
      case round =>
        clear hor
        obtain ⟨j, A', c', hj, rfl, rfl, hor, hwr⟩ := hrel
        have q0 := XA.out wr hwr
        by_cases hlj : j < l.length
        · have hpj : l[j]? = some (l[j]'hlj) := List.getElem?_eq_getElem hlj
          obtain ⟨g1, rfl, _, e0, e1⟩ := own_at (XO.out wr hwr) hlj _ hpj
          have htj := take_snoc l j _ hpj
          have hll := latest_len (fl ++ l.take j)
          have hb : (fl ++ l.take j).length ≤ 1048575 := by rw [List.length_append, List.length_take]; omega
          generalize l[j]'hlj = p at *
          obtain ⟨x, b⟩ := p
          simp only at e0 e1
          have hst : latest (fl ++ l.take (j + 1)) = putI (latest (fl ++ l.take j)) (x, b) := by rw [htj, ← List.append_assoc, latest_snoc]
          have hput := refPut_any A' (latest (fl ++ l.take j)).length c' w.heap.size (latest (fl ++ l.take j)) x b wr hor (by omega)
          have hws := hwr.size
          have HST := Lib.hid hst
          have HTJ := Lib.hid htj
          clear hst htj hpj hor hll hb
          generalize latest (fl ++ l.take j) = L at *
          go_wp2_with (first | (go_at_call 21; refine hput.mono ?_; rintro e w3 ⟨A3, c3, rfl, ho3, b3⟩))
          go_roundw
          case rel => exact ⟨j + 1, A3, c3, by omega, by go_num, by rw [HST.out], by rw [HST.out]; exact ownsRow_lower ho3 hws, hwr.trans (b3.mono hws)⟩
          case measure => simp [intOf]; omega
        · have hps : l.length ≤ j := by omega
          have hfin : fl ++ l.take j = (ll.take (k + 1)).flatten := by rw [List.take_of_length_le hps, HTK.out]
          rw [hfin] at hor
          have HF := Lib.hid hfin
          clear hfin
          go_wp2
          go_roundw
          case rel => exact ⟨k + 1, A', c', by omega, by go_num, by rw [HF.out], hor, hwr⟩
          case measure => simp [intOf]; omega
    · have hkk : k = n := by omega
      have hps : n ≤ k := by omega
      have hfl : (ll.take k).flatten = ll.flatten := by rw [List.take_of_length_le (by rw [HL.out]; omega)]
      rw [hfl] at hor
      have HF := Lib.hid hfl
      clear hfl
      go_wp2
      go_ret
      exact ⟨A', c', ret_sl (by first | rfl | rw [HF.out]), hor, hw⟩
end Go.Proofs.YtkhebllmnagkmaaDoor
