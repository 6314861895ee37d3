/-
  The same lists of complex numbers, number by number, as the law looks.
-/
import Derived.Test.YtglnfccglgladaaDoorCxSame
import Derived.Test.YtglnfccglgladaaDoorDraw9
namespace Go.Proofs.YtglnfccglgladaaDoor
open Go.RowKit
set_option linter.unusedVariables false

def CxEq (p q : Nat × Nat) : Prop := bitsOf p.1 = bitsOf q.1 ∧ bitsOf p.2 = bitsOf q.2

set_option maxRecDepth 100000 in
set_option maxHeartbeats 2000000 in
theorem b10same_c {w : World} {b1 b2 c1 c2 : Nat} {ps qs : List (Nat × Nat)} (hl : ps.length = qs.length) (hn : ps.length ≤ 1000)
    (h1 : ∀ j x, (ps.map cxV)[j]? = some x → w.cell? ⟨b1, j, none⟩ = some x) (h2 : ∀ j x, (qs.map cxV)[j]? = some x → w.cell? ⟨b2, j, none⟩ = some x)
    (hb1 : b1 < w.heap.size) (hb2 : b2 < w.heap.size) (hp : ∀ p ∈ ps, Cx32 p) (hq : ∀ p ∈ qs, Cx32 p)
    (he : ∀ (j : Nat) (h : j < ps.length) (h' : j < qs.length), CxEq ps[j] qs[j]) :
    Calls Tryd.prog 44 #[.slice (some ⟨b1, 0, none⟩) ps.length c1, .slice (some ⟨b2, 0, none⟩) qs.length c2] w fun e w' => e = .returned (.bool true) ∧ Below w.heap.size w w' := by
  obtain ⟨n, hn'⟩ : ∃ n, ps.length = n := ⟨_, rfl⟩
  have hm : qs.length = n := by rw [← hl, hn']
  rw [hn', hm]
  rw [hn'] at hn
  have HN := Lib.hid hn'
  have HM := Lib.hid hm
  have H1 := Lib.hid h1
  have H2 := Lib.hid h2
  have HP := Lib.hid hp
  have HQ := Lib.hid hq
  have HE := Lib.hid he
  have HB1 := Lib.hid hb1
  have HB2 := Lib.hid hb2
  have hn0 : (0 : Int) ≤ n := by omega
  have hn1 : (n : Int) ≤ 1000 := by omega
  clear h1 h2 hp hq he hn' hm hl hb1 hb2
  go_enter Tryd.func44, Tryd.ntmps44
  go_wp2
  go_loopw [13] (fun i wr => ∃ k : Nat, k ≤ n ∧ i = .int .i64 k ∧ Hid (Below w.heap.size w wr)) (fun i _ => n - (intOf i).toNat)
  case atStart => exact ⟨0, Nat.zero_le _, rfl, Lib.hid (Below.refl _ _)⟩
  case round =>
    obtain ⟨k, hk, rfl, hbel⟩ := hrel
    by_cases hlt : k < n
    · have hkp : k < ps.length := by rw [HN.out]; exact hlt
      have hkq : k < qs.length := by rw [HM.out]; exact hlt
      obtain ⟨⟨x, y⟩, hx⟩ : ∃ p, ps[k] = p := ⟨_, rfl⟩
      obtain ⟨⟨u, v⟩, hu⟩ : ∃ p, qs[k] = p := ⟨_, rfl⟩
      have d1 : wr.cell? ⟨b1, k, none⟩ = some (.complex .f32 x y) := by
        rw [hbel.out.cell (p := ⟨b1, k, none⟩) HB1.out]; exact H1.out k _ (by simp [hkp, hx, cxV])
      have d2 : wr.cell? ⟨b2, k, none⟩ = some (.complex .f32 u v) := by
        rw [hbel.out.cell (p := ⟨b2, k, none⟩) HB2.out]; exact H2.out k _ (by simp [hkq, hu, cxV])
      have l1 : b1 < wr.heap.size := World.block_lt_of_cell? wr _ d1
      have l2 : b2 < wr.heap.size := World.block_lt_of_cell? wr _ d2
      have hP := HP.out _ (List.getElem_mem hkp)
      have hQ := HQ.out _ (List.getElem_mem hkq)
      have hE := HE.out k hkp hkq
      rw [hx] at hP hE
      rw [hu] at hQ hE
      have C := Lib.hid (fun w => specCSame_c (x := x) (y := y) (u := u) (v := v) hP.1 hP.2 hQ.1 hQ.2 hE.1 hE.2 w)
      clear hP hQ hE hx hu
      go_wp2
      refine wp_region_reads (by kernel_rfl) (by kernel_rfl) ?_
      repeat (refine tame_step rfl ?_; apply Exists.intro; refine ⟨fun w' hw => ?_, ?_⟩; (have hc := hw.cell; go_simp; first | (with_reducible rfl) | (go_at_call 93; with_reducible exact hw.same (C.out _))); (try simp only [Act.put, List.setIfInBounds_toArray, List.set_cons_zero, List.set_cons_succ]))
      refine wpQuiet_nil ?_
      intro w2 hw
      have hb := Lib.hid (bthen hbel.out hw)
      clear hbel d1 d2 l1 l2 hw C
      go_wp2
      go_roundw
      case rel => exact ⟨k + 1, by omega, by simp, hb⟩
      case measure => simp [intOf]; omega
    · go_wp2
      go_ret
      exact ⟨rfl, hbel.out⟩
end Go.Proofs.YtglnfccglgladaaDoor
