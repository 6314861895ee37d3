/-
  Vectors and threads of finite numbers, as the program and as the reference ask.
  A thread is one: as the program and as the reference ask.
  A thread handed on if it is one.
-/
import Derived.Test.YtglnfccglgladaaDoorOwnK
import Derived.Test.YtglnfccglgladaaDoorFinite
namespace Go.Proofs.YtglnfccglgladaaDoor
open Go.RowKit
set_option linter.unusedVariables false

def vFin (p : V3) : Bool := finB p.1 && finB p.2.1 && finB p.2.2
/-- A box of three numbers. -/
def Box3 (W : World) (b x y z : Nat) : Prop := W.heap[b]? = some (.cells #[.float .f32 x, .float .f32 y, .float .f32 z] 26 (0, 0))
theorem Box3.lt {W : World} {b x y z : Nat} (h : Box3 W b x y z) : b < W.heap.size := (Array.getElem?_eq_some_iff.1 h).1
theorem Box3.after {W W' : World} {b x y z : Nat} (h : Box3 W b x y z) (k : Below W.heap.size W W') : Box3 W' b x y z := (k.block b h.lt).trans h
theorem Box3.new (W : World) (x y z : Nat) : Box3 (W.alloc (.cells #[.float .f32 x, .float .f32 y, .float .f32 z] 26)) W.heap.size x y z := heap_alloc_new W _
theorem Box3.facts {W : World} {b x y z : Nat} (h : Box3 W b x y z) : W.cell? ⟨b, 0, none⟩ = some (.float .f32 x) ∧ W.cell? ⟨b, 1, none⟩ = some (.float .f32 y) ∧ W.cell? ⟨b, 2, none⟩ = some (.float .f32 z) :=
  ⟨cell_of_block h rfl, cell_of_block h rfl, cell_of_block h rfl⟩

set_option maxRecDepth 100000 in
theorem l01VFinite_c (p : V3) (w : World) : Calls Tryd.prog 149 #[v3A p] w fun e w' => e = .returned (.bool (vFin p)) ∧ Below w.heap.size w w' := by
  obtain ⟨x, y, z⟩ := p
  obtain ⟨fx, hx⟩ : ∃ b, finB x = b := ⟨_, rfl⟩
  obtain ⟨fy, hy⟩ : ∃ b, finB y = b := ⟨_, rfl⟩
  obtain ⟨fz, hz⟩ : ∃ b, finB z = b := ⟨_, rfl⟩
  have V : Hid (vFin (x, y, z) = (fx && fy && fz)) := Lib.hid (by simp only [vFin, hx, hy, hz])
  have HX := Lib.hid hx
  have HY := Lib.hid hy
  have HZ := Lib.hid hz
  clear hx hy hz
  unfold v3A
  simp only []
  have arm : True := trivial
  cases fx <;> cases fy
  all_goals
    go_enter Tryd.func149, Tryd.ntmps149
    go_wp2_with fail
    have b0 := Lib.hid (Box3.new w x y z)
    have d0 := Lib.hid (below1 w (.cells #[.float .f32 x, .float .f32 y, .float .f32 z] 26))
    refine (specFinite_c x _).mono ?_
    rintro e w1 ⟨rfl, hw⟩
    have b1 := Lib.hid (b0.out.after hw)
    have d1 := Lib.hid (bthen d0.out hw)
    clear hw b0 d0
    obtain ⟨k0, k1, k2⟩ := b1.out.facts
    rw [HX.out]
    go_wp2_with (go_at_call 96; first
      | (with_reducible refine (specFinite_c y _).mono ?_; rintro e w2 ⟨rfl, hw⟩; have b2 := Lib.hid (b1.out.after hw); have d2 := Lib.hid (bthen d1.out hw); clear hw k0 k1 k2; obtain ⟨k0, k1, k2⟩ := b2.out.facts; rw [HY.out])
      | (with_reducible refine (specFinite_c z _).mono ?_; rintro e w3 ⟨rfl, hw⟩; have d3 := Lib.hid (bthen d2.out hw); clear hw k0 k1 k2; rw [HZ.out]))
    go_ret
  · exact ⟨by rw [V.out]; rfl, d1.out⟩
  · exact ⟨by rw [V.out]; rfl, d1.out⟩
  · exact ⟨by rw [V.out]; rfl, d2.out⟩
  · exact ⟨by rw [V.out]; rfl, d3.out⟩

set_option maxRecDepth 100000 in
theorem finiteVector_c (p : V3) (w : World) : Calls Tryd.prog 156 #[v3A p] w fun e w' => e = .returned (.bool (vFin p)) ∧ Below w.heap.size w w' := by
  obtain ⟨x, y, z⟩ := p
  have V : Hid (vFin (x, y, z) = (finB x && (finB y && finB z))) := Lib.hid (by simp [vFin, Bool.and_assoc])
  have n0 := finite_c (c := 3) (nums_new (w.alloc (.cells #[.float .f32 x, .float .f32 y, .float .f32 z] 26)) [x, y, z] (by simp)) (by simp)
  rw [World.size_alloc] at n0
  have N := Lib.hid n0
  clear n0
  unfold v3A
  simp only []
  go_enter Tryd.func156, Tryd.ntmps156
  go_wp2_with (go_at_call 95; refine N.out.mono ?_; rintro e w1 ⟨rfl, hw⟩)
  go_ret
  exact ⟨by rw [V.out]; rfl, bthen (below2 _ _ _) hw⟩
theorem isThread1_c (p : V3) (w : World) : Calls Tryd.prog 155 #[v3A p] w fun e w' => e = .returned (.bool (!vFin p)) ∧ Below w.heap.size w w' := by
  have N := Lib.hid (fun w => finiteVector_c p w)
  obtain ⟨x, y, z⟩ := p
  unfold v3A at *
  simp only [] at *
  go_enter Tryd.func155, Tryd.ntmps155
  go_wp2_with (go_at_call 156; refine (N.out _).mono ?_; rintro e w1 ⟨rfl, hw⟩)
  go_ret
  exact ⟨rfl, bthen (below1 _ _) hw⟩

theorem allP_next {α : Type} {xs : List α} {p : α → Bool} {k : Nat} (hk : k < xs.length) (h : p xs[k] = true) (ha : (xs.take k).all p = true) : (xs.take (k + 1)).all p = true := by
  rw [take_next' _ _ hk, List.all_append, ha]
  simp [h]
theorem allP_bad {α : Type} {xs : List α} {p : α → Bool} {k : Nat} (hk : k < xs.length) (h : p xs[k] = false) : xs.all p = false := by
  rw [Bool.eq_false_iff]
  intro ha
  rw [List.all_eq_true] at ha
  have := ha _ (List.getElem_mem hk)
  rw [h] at this
  cases this
set_option maxRecDepth 100000 in
theorem indexVec_c {w : World} {b c : Nat} {vs : List V3} (h : VNums w b vs) (hl : vs.length ≤ 1000000000) :
    Calls Tryd.prog 164 #[.slice (some ⟨b, 0, none⟩) vs.length c, .func (.func 155) #[] #[]] w fun e w' => (∃ i : Int, e = .returned (.int .i64 i) ∧ decide (0 ≤ i) = !(vs.all vFin)) ∧ Below w.heap.size w w' := by
  have HV := Lib.hid h
  clear h
  generalize hn : vs.length = n at hl
  have HN := Lib.hid hn
  clear hn
  have hn0 : (0 : Int) ≤ n := by omega
  have hn1 : (n : Int) ≤ 1000000000 := by omega
  go_enter Tryd.func164, Tryd.ntmps164
  go_wp2
  go_loopw [8] (fun i wr => ∃ k : Nat, k ≤ n ∧ i = .int .i64 k ∧ Hid (Below w.heap.size w wr) ∧ Hid ((vs.take k).all vFin = true)) (fun i _ => n - (intOf i).toNat)
  case atStart => exact ⟨0, Nat.zero_le _, rfl, Lib.hid (Below.refl _ _), Lib.hid rfl⟩
  case round =>
    obtain ⟨k, hk, rfl, hbel, hall⟩ := hrel
    by_cases hlt : k < n
    · have hkx : k < vs.length := by rw [HN.out]; exact hlt
      obtain ⟨⟨x, y, z⟩, hx⟩ : ∃ p, vs[k] = p := ⟨_, rfl⟩
      obtain ⟨c0, c1, c2⟩ := (HV.out.after hbel.out).2 k (x, y, z) (by rw [List.getElem?_eq_getElem hkx, hx])
      simp only [] at c0 c1 c2
      have C := Lib.hid (fun w => isThread1_c (x, y, z) w)
      unfold v3A at C
      simp only [] at C
      cases hf : vFin (x, y, z) with
      | false =>
        have hbad : Hid (vs.all vFin = false) := Lib.hid (allP_bad hkx (by rw [hx]; exact hf))
        rw [hf] at C
        clear hx hf
        go_wp2_with (go_at_call 155; refine (C.out _).mono ?_; rintro e w1 ⟨rfl, hw⟩; have hb1 := Lib.hid (bthen hbel.out hw); clear hw)
        exact bodyPost_ret (v := .int .i64 k) (by simp [results, Tryd.results164, go_sem]) rfl ⟨⟨k, rfl, by rw [hbad.out]; simp⟩, hb1.out⟩
      | true =>
        have hnext := Lib.hid (allP_next (p := vFin) hkx (by rw [hx]; exact hf) hall.out)
        rw [hf] at C
        clear hx hf
        go_wp2_with (go_at_call 155; refine (C.out _).mono ?_; rintro e w1 ⟨rfl, hw⟩; have hb1 := Lib.hid (bthen hbel.out hw); clear hw)
        go_roundw
        case rel => exact ⟨k + 1, by omega, by simp, hb1, hnext⟩
        case measure => simp [intOf]; omega
    · have htk : vs.take k = vs := List.take_of_length_le (by rw [HN.out]; omega)
      rw [htk] at hall
      go_wp2
      exact bodyPost_ret (v := .int .i64 (-1)) (by simp [results, Tryd.results164, go_sem]) rfl ⟨⟨-1, rfl, by rw [hall.out]; rfl⟩, hbel.out⟩
theorem containsVec_c {w : World} {b c : Nat} {vs : List V3} (h : VNums w b vs) (hl : vs.length ≤ 1000000000) :
    Calls Tryd.prog 154 #[.slice (some ⟨b, 0, none⟩) vs.length c, .func (.func 155) #[] #[]] w fun e w' => e = .returned (.bool (!(vs.all vFin))) ∧ Below w.heap.size w w' := by
  have H := Lib.hid (indexVec_c (c := c) h hl)
  generalize vs.length = n at H
  clear h hl
  go_enter Tryd.func154, Tryd.ntmps154
  go_wp2_with (go_at_call 164; refine H.out.mono ?_; rintro e w1 ⟨⟨i, rfl, hi⟩, hw⟩)
  go_ret
  exact ⟨by rw [← hi]; rfl, hw⟩

abbrev Thr : Type := List V3 × Nat
def thrB (t : Thr) : Bool := decide (3 ≤ t.1.length) && decide (t.1.length ≤ 32) && t.1.all vFin && finB t.2

def BoxT (W : World) (b g n c s : Nat) : Prop := W.heap[b]? = some (.cells #[.slice (some ⟨g, 0, none⟩) n c, .float .f32 s] 91 (0, 0))
theorem BoxT.lt {W : World} {b g n c s : Nat} (h : BoxT W b g n c s) : b < W.heap.size := (Array.getElem?_eq_some_iff.1 h).1
theorem BoxT.after {W W' : World} {b g n c s : Nat} (h : BoxT W b g n c s) (k : Below W.heap.size W W') : BoxT W' b g n c s := (k.block b h.lt).trans h
theorem BoxT.new (W : World) (g n c s : Nat) : BoxT (W.alloc (.cells #[.slice (some ⟨g, 0, none⟩) n c, .float .f32 s] 91)) W.heap.size g n c s := heap_alloc_new W _
theorem BoxT.facts {W : World} {b g n c s : Nat} (h : BoxT W b g n c s) : W.cell? ⟨b, 0, none⟩ = some (.slice (some ⟨g, 0, none⟩) n c) ∧ W.cell? ⟨b, 1, none⟩ = some (.float .f32 s) :=
  ⟨cell_of_block h rfl, cell_of_block h rfl⟩

set_option maxRecDepth 100000 in
set_option maxHeartbeats 2000000 in
theorem isThread_c {w : World} {b c s : Nat} {vs : List V3} (h : VNums w b vs) (hl : vs.length ≤ 1000000000) :
    Calls Tryd.prog 140 #[.agg #[.slice (some ⟨b, 0, none⟩) vs.length c, .float .f32 s]] w fun e w' => e = .returned (.bool (thrB (vs, s))) ∧ Below w.heap.size w w' := by
  have H := Lib.hid (containsVec_c (c := c) (h.after (below1 w (.cells #[.slice (some ⟨b, 0, none⟩) vs.length c, .float .f32 s] 91))) hl)
  obtain ⟨fa, ha⟩ : ∃ x, vs.all vFin = x := ⟨_, rfl⟩
  obtain ⟨fs, hs⟩ : ∃ x, finB s = x := ⟨_, rfl⟩
  have V : Hid (thrB (vs, s) = (decide (3 ≤ vs.length) && decide (vs.length ≤ 32) && fa && fs)) := Lib.hid (by simp only [thrB, ha, hs])
  have HS := Lib.hid hs
  rw [ha] at H
  clear h ha hs
  generalize vs.length = n at *
  have hn0 : (0 : Int) ≤ n := by omega
  have hn1 : (n : Int) ≤ 1000000000 := by omega
  clear hl
  rcases (show n < 3 ∨ 32 < n ∨ (3 ≤ n ∧ n ≤ 32) by omega) with hq | hq | ⟨hq, hq2⟩
  · have r1 : Hid (thrB (vs, s) = false) := Lib.hid (by rw [V.out, decide_eq_false (by omega : ¬ 3 ≤ n)]; rfl)
    have q1 : ¬ (3 : Int) ≤ n := by omega
    clear hq
    go_enter Tryd.func140, Tryd.ntmps140
    go_wp2_with fail
    refine H.out.mono ?_
    rintro e w1 ⟨rfl, hw⟩
    have b1 := Lib.hid ((BoxT.new w b n c s).after hw)
    have d1 := Lib.hid (bthen (below1 _ _) hw)
    clear hw H
    obtain ⟨k0, k1⟩ := b1.out.facts
    go_wp2_with (go_at_call 87; go_in)
    go_ret
    exact ⟨by rw [r1.out]; rfl, d1.out⟩
  · have r1 : Hid (thrB (vs, s) = false) := Lib.hid (by rw [V.out, decide_eq_false (by omega : ¬ n ≤ 32)]; simp)
    have q1 : (3 : Int) ≤ n := by omega
    have q2 : ¬ (n : Int) ≤ 32 := by omega
    clear hq
    go_enter Tryd.func140, Tryd.ntmps140
    go_wp2_with fail
    refine H.out.mono ?_
    rintro e w1 ⟨rfl, hw⟩
    have b1 := Lib.hid ((BoxT.new w b n c s).after hw)
    have d1 := Lib.hid (bthen (below1 _ _) hw)
    clear hw H
    obtain ⟨k0, k1⟩ := b1.out.facts
    go_wp2_with (go_at_call 87; go_in)
    go_ret
    exact ⟨by rw [r1.out]; rfl, d1.out⟩
  · have r1 : Hid (thrB (vs, s) = (fa && fs)) := Lib.hid (by rw [V.out, decide_eq_true hq, decide_eq_true hq2]; rfl)
    have q1 : (3 : Int) ≤ n := by omega
    have q2 : (n : Int) ≤ 32 := by omega
    clear hq hq2
    cases fa
    · go_enter Tryd.func140, Tryd.ntmps140
      go_wp2_with fail
      refine H.out.mono ?_
      rintro e w1 ⟨rfl, hw⟩
      have b1 := Lib.hid ((BoxT.new w b n c s).after hw)
      have d1 := Lib.hid (bthen (below1 _ _) hw)
      clear hw H
      obtain ⟨k0, k1⟩ := b1.out.facts
      go_wp2_with (go_at_call 87; go_in)
      go_ret
      exact ⟨by rw [r1.out]; rfl, d1.out⟩
    · go_enter Tryd.func140, Tryd.ntmps140
      go_wp2_with fail
      refine H.out.mono ?_
      rintro e w1 ⟨rfl, hw⟩
      have b1 := Lib.hid ((BoxT.new w b n c s).after hw)
      have d1 := Lib.hid (bthen (below1 _ _) hw)
      clear hw H
      obtain ⟨k0, k1⟩ := b1.out.facts
      go_wp2_with (first
        | (go_at_call 87; go_in)
        | (go_at_call 103; refine (isFinite_c s _).mono ?_; rintro e w2 ⟨rfl, hw⟩; have d2 := Lib.hid (bthen d1.out hw); clear hw; rw [HS.out]))
      go_ret
      exact ⟨by rw [r1.out]; cases fs <;> rfl, d2.out⟩

set_option maxRecDepth 100000 in
set_option maxHeartbeats 2000000 in
theorem l06Is_c {w : World} {b o g c s : Nat} {vs : List V3} (h : VNums w g vs) (k0 : w.cell? ⟨b, o, none⟩ = some (.slice (some ⟨g, 0, none⟩) vs.length c)) (k1 : w.cell? ⟨b, o + 1, none⟩ = some (.float .f32 s)) (hb : b < w.heap.size) (hl : vs.length ≤ 1000000000) :
    Calls Tryd.prog 136 #[.pointer (some ⟨b, o, none⟩)] w fun e w' => e = .returned (.bool (thrB (vs, s))) ∧ Below w.heap.size w w' := by
  obtain ⟨fs, hs⟩ : ∃ x, finB s = x := ⟨_, rfl⟩
  have V : Hid (thrB (vs, s) = (decide (3 ≤ vs.length) && decide (vs.length ≤ 32) && vs.all vFin && fs)) := Lib.hid (by simp only [thrB, hs])
  have HS := Lib.hid hs
  have HV := Lib.hid h
  obtain ⟨n, hn⟩ : ∃ n, vs.length = n := ⟨_, rfl⟩
  rw [hn] at k0 hl V
  have HN := Lib.hid hn
  clear h hs hn
  have hn0 : (0 : Int) ≤ n := by omega
  have hn1 : (n : Int) ≤ 1000000000 := by omega
  clear hl
  rcases (show n < 3 ∨ 32 < n ∨ (3 ≤ n ∧ n ≤ 32) by omega) with hq | hq | ⟨hq, hq2⟩
  · have r1 : Hid (thrB (vs, s) = false) := Lib.hid (by rw [V.out, decide_eq_false (by omega : ¬ 3 ≤ n)]; rfl)
    have q1 : (n : Int) < 3 := by omega
    clear hq
    go_enter Tryd.func136, Tryd.ntmps136
    go_wp2
    go_ret
    exact ⟨by rw [r1.out]; rfl, Below.refl _ _⟩
  · have r1 : Hid (thrB (vs, s) = false) := Lib.hid (by rw [V.out, decide_eq_false (by omega : ¬ n ≤ 32)]; simp)
    have q1 : ¬ (n : Int) < 3 := by omega
    have q2 : (32 : Int) < n := by omega
    clear hq
    go_enter Tryd.func136, Tryd.ntmps136
    go_wp2
    go_ret
    exact ⟨by rw [r1.out]; rfl, Below.refl _ _⟩
  · have r1 : Hid (thrB (vs, s) = (vs.all vFin && fs)) := Lib.hid (by rw [V.out, decide_eq_true hq, decide_eq_true hq2]; rfl)
    have q1 : ¬ (n : Int) < 3 := by omega
    have q2 : ¬ (32 : Int) < n := by omega
    clear hq hq2
    have K0 := Lib.hid k0
    have HB := Lib.hid hb
    cases fs
    · go_enter Tryd.func136, Tryd.ntmps136
      go_wp2_with (go_at_call 96; refine (specFinite_c s _).mono ?_; rintro e w2 ⟨rfl, hw⟩; have d2 := Lib.hid hw; clear hw; rw [HS.out])
      go_ret
      exact ⟨by rw [r1.out]; simp, d2.out⟩
    · go_enter Tryd.func136, Tryd.ntmps136
      go_wp2_with (go_at_call 96; refine (specFinite_c s _).mono ?_; rintro e w2 ⟨rfl, hw⟩; have d2 := Lib.hid hw; clear hw k0 k1; rw [HS.out])
      go_loopw [3] (fun i wr => ∃ k : Nat, k ≤ n ∧ i = .int .i64 k ∧ Hid (Below w.heap.size w wr) ∧ Hid ((vs.take k).all vFin = true)) (fun i _ => n - (intOf i).toNat)
      case atStart => exact ⟨0, Nat.zero_le _, rfl, d2, Lib.hid rfl⟩
      case round =>
        obtain ⟨k, hk, rfl, hbel, hall⟩ := hrel
        have k0 : wr.cell? ⟨b, o, none⟩ = some (.slice (some ⟨g, 0, none⟩) n c) := by rw [hbel.out.cell (p := ⟨b, o, none⟩) HB.out]; exact K0.out
        by_cases hlt : k < n
        · have hkx : k < vs.length := by rw [HN.out]; exact hlt
          obtain ⟨⟨x, y, z⟩, hx⟩ : ∃ p, vs[k] = p := ⟨_, rfl⟩
          obtain ⟨c0, c1, c2⟩ := (HV.out.after hbel.out).2 k (x, y, z) (by rw [List.getElem?_eq_getElem hkx, hx])
          simp only [] at c0 c1 c2
          have C := Lib.hid (fun w => l01VFinite_c (x, y, z) w)
          unfold v3A at C
          simp only [] at C
          cases hf : vFin (x, y, z) with
          | false =>
            have hbad : Hid (vs.all vFin = false) := Lib.hid (allP_bad hkx (by rw [hx]; exact hf))
            rw [hf] at C
            clear hx hf
            go_wp2_with (go_at_call 149; refine (C.out _).mono ?_; rintro e w1 ⟨rfl, hw⟩; have hb1 := Lib.hid (bthen hbel.out hw); clear hw)
            exact bodyPost_ret (v := .bool false) (by simp [results, Tryd.results136, go_sem]) rfl ⟨by rw [r1.out, hbad.out]; rfl, hb1.out⟩
          | true =>
            have hnext := Lib.hid (allP_next (p := vFin) hkx (by rw [hx]; exact hf) hall.out)
            rw [hf] at C
            clear hx hf
            go_wp2_with (go_at_call 149; refine (C.out _).mono ?_; rintro e w1 ⟨rfl, hw⟩; have hb1 := Lib.hid (bthen hbel.out hw); clear hw)
            go_roundw
            case rel => exact ⟨k + 1, by omega, by simp, hb1, hnext⟩
            case measure => simp [intOf]; omega
        · have htk : vs.take k = vs := List.take_of_length_le (by rw [HN.out]; omega)
          rw [htk] at hall
          go_wp2
          exact bodyPost_ret (v := .bool true) (by simp [results, Tryd.results136, go_sem]) rfl ⟨by rw [r1.out, hall.out]; rfl, hbel.out⟩

/-- A thread, as a value: its points lie in block g. -/
def thrV (g c : Nat) (t : Thr) : Value := .agg #[.slice (some ⟨g, 0, none⟩) t.1.length c, .float .f32 t.2]
abbrev thr0 : Value := .agg #[.slice none 0 0, .float .f32 0]

theorem two_facts {w : World} {g : Nat} {v0 v1 : Value} {t : TypeId} (hb : w.heap[g]? = some (.cells #[v0, v1] t (0, 0))) :
    (w.cell? ⟨g, 0, none⟩ = some v0 ∧ w.cell? ⟨g, 1, none⟩ = some v1) ∧ (w.frozen? ⟨g, 0, none⟩ = false ∧ w.frozen? ⟨g, 1, none⟩ = false) ∧ g < w.heap.size := by
  have c0 : w.cell? ⟨g, 0, none⟩ = some v0 := by simp [World.cell?, hb]
  exact ⟨⟨c0, by simp [World.cell?, hb]⟩, ⟨by simp [World.frozen?, hb], by simp [World.frozen?, hb]⟩, World.block_lt_of_cell? w _ c0⟩

set_option maxRecDepth 100000 in
theorem told_c {w : World} {g c s : Nat} {vs : List V3} (h : VNums w g vs) (hl : vs.length ≤ 1000000000) :
    Calls Tryd.prog 119 #[.slice (some ⟨g, 0, none⟩) vs.length c, .float .f32 s] w fun e w' => e = .returned (.tuple #[if thrB (vs, s) then thrV g c (vs, s) else thr0, .bool (thrB (vs, s))]) ∧ Below w.heap.size w w' := by
  have I := fun (o1 o2 : Obj) => isThread_c (c := c) (s := s) (h.after (below2 w o1 o2)) hl
  have I := Lib.hid I
  unfold thrV
  simp only []
  generalize hT : thrB (vs, s) = T at *
  generalize vs.length = n at *
  clear h hl hT
  cases T
  all_goals
    go_enter Tryd.func119, Tryd.ntmps119
    go_wp2_with fail
    refine (I.out _ _).mono ?_
    rintro e w1 ⟨rfl, hw⟩
    have z1 := hw.size
    simp only [World.size_alloc] at z1
    obtain ⟨⟨r0, r1⟩, ⟨f0, f1⟩, hrl⟩ := two_facts ((hw.block w.heap.size (by simp; omega)).trans ((heap_alloc_old _ _ (h := by simp)).trans (heap_alloc_new w (.cells #[.slice none 0 0, .float .f32 0] 91))))
    obtain ⟨⟨t0, t1⟩, _, htl⟩ := two_facts ((hw.block (w.heap.size + 1) (by simp)).trans (by have := heap_alloc_new (w.alloc (.cells #[.slice none 0 0, .float .f32 0] 91)) (.cells #[.slice (some ⟨g, 0, none⟩) n c, .float .f32 s] 91); rwa [World.size_alloc] at this))
    have hB := Lib.hid (bthen (below2 w _ _) hw)
    clear hw I
    go_wp2
  · exact bodyPost_ret (v := .tuple #[thr0, .bool false]) (by simp [results, Tryd.results119, go_sem, *]) rfl ⟨rfl, by repeat (first | exact hB.out | refine bset ?_ (by simp <;> omega) _)⟩
  · exact bodyPost_ret (v := .tuple #[.agg #[.slice (some ⟨g, 0, none⟩) n c, .float .f32 s], .bool true]) (by simp [results, Tryd.results119, go_sem, *]) rfl ⟨rfl, by repeat (first | exact hB.out | refine bset ?_ (by simp <;> omega) _)⟩

set_option maxRecDepth 100000 in
theorem give_c {w : World} {g c s : Nat} {vs : List V3} (h : VNums w g vs) (hl : vs.length ≤ 1000000000) :
    Calls Tryd.prog 135 #[.agg #[.slice (some ⟨g, 0, none⟩) vs.length c, .float .f32 s]] w fun e w' => e = .returned (.tuple #[if thrB (vs, s) then thrV g c (vs, s) else thr0, .bool (thrB (vs, s))]) ∧ Below w.heap.size w w' := by
  have I := fun (o2 : Obj) => l06Is_c (b := w.heap.size) (o := 0) (c := c) (s := s) (w := (w.alloc (.cells #[.slice (some ⟨g, 0, none⟩) vs.length c, .float .f32 s] 91)).alloc o2) (h.after (below2 w _ o2))
    (by have := (BoxT.new w g vs.length c s).after (below1 _ o2); exact this.facts.1) (by have := (BoxT.new w g vs.length c s).after (below1 _ o2); exact this.facts.2) (by simp; omega) hl
  have I := Lib.hid I
  unfold thrV
  simp only []
  generalize hT : thrB (vs, s) = T at *
  generalize vs.length = n at *
  clear h hl hT
  cases T
  all_goals
    go_enter Tryd.func135, Tryd.ntmps135
    go_wp2_with fail
    refine (I.out _).mono ?_
    rintro e w1 ⟨rfl, hw⟩
    have z1 := hw.size
    simp only [World.size_alloc] at z1
    obtain ⟨⟨t0, t1⟩, _, htl⟩ := two_facts ((hw.block w.heap.size (by simp; omega)).trans ((heap_alloc_old _ _ (h := by simp)).trans (heap_alloc_new w (.cells #[.slice (some ⟨g, 0, none⟩) n c, .float .f32 s] 91))))
    obtain ⟨⟨r0, r1⟩, ⟨f0, f1⟩, hrl⟩ := two_facts ((hw.block (w.heap.size + 1) (by simp)).trans (by have := heap_alloc_new (w.alloc (.cells #[.slice (some ⟨g, 0, none⟩) n c, .float .f32 s] 91)) (.cells #[.slice none 0 0, .float .f32 0] 91); rwa [World.size_alloc] at this))
    have hB := Lib.hid (bthen (below2 w _ _) hw)
    clear hw I
    go_wp2
  · exact bodyPost_ret (v := .tuple #[thr0, .bool false]) (by simp [results, Tryd.results135, go_sem, *]) rfl ⟨rfl, by repeat (first | exact hB.out | refine bset ?_ (by simp <;> omega) _)⟩
  · exact bodyPost_ret (v := .tuple #[.agg #[.slice (some ⟨g, 0, none⟩) n c, .float .f32 s], .bool true]) (by simp [results, Tryd.results135, go_sem, *]) rfl ⟨rfl, by repeat (first | exact hB.out | refine bset ?_ (by simp <;> omega) _)⟩
end Go.Proofs.YtglnfccglgladaaDoor
