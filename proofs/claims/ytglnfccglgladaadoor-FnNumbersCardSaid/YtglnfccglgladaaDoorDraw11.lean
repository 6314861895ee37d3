/-
  What is drawn, from the codes: a list of one complex number of small whole parts.
-/
import Derived.Test.YtglnfccglgladaaDoorDraw10
namespace Go.Proofs.YtglnfccglgladaaDoor
open Go.RowKit
set_option linter.unusedVariables false

set_option maxRecDepth 100000 in
set_option maxHeartbeats 2000000 in
theorem b10whole_c {w : World} {n cp : Nat} {A : Option Addr} (hn : n ≤ 9223372036854775807) (hc : Code w w.heap.size A n) :
    Calls Tryd.prog 29 #[.slice A n cp, .int .i64 1, .int .i64 200] w fun e w' =>
      (∃ (a b : Int) (g c : Nat), e = .returned (.slice (some ⟨g, 0, none⟩) 1 c) ∧ w'.cell? ⟨g, 0, none⟩ = some (.complex .f32 (floatOfInt .f32 a) (floatOfInt .f32 b)) ∧ (-200 ≤ a ∧ a ≤ 200) ∧ (-200 ≤ b ∧ b ≤ 200)) ∧ Below w.heap.size w w' := by
  go_enter Tryd.func29, Tryd.ntmps29
  go_wp2_with fail
  refine (from_c (B := w.heap.size) (Nat.le_refl _) hn hc).mono ?_
  rintro e w1 ⟨rfl, hs, hb⟩
  have HB := Lib.hid hb
  have hl := hs.lt
  clear hc
  have H0 := Lib.hid (OwnG.lit (e := 46) hl #[] 0 (by omega) rfl)
  have HS := Lib.hid (hs.alloc (.cells #[] 46))
  have zw := hb.size
  clear hb hs
  go_wp2_with fail
  refine wp_loop_rounds 2 ?_
  rw [rounds_succ]
  go_wp2_with fail
  refine (pick_c (by omega) HS.out (by omega)).mono ?_
  rintro e w2 ⟨v, rfl, ⟨r, rfl, r0, r1⟩, hs2, hg2⟩
  have r2 : r ≤ 400 := by omega
  have HS2 := Lib.hid hs2
  have H2 := Lib.hid (H0.out.draw hg2)
  clear hs2 hg2 r1 HS H0
  go_wp2_with fail
  refine (pick_c (by omega) HS2.out (by omega)).mono ?_
  rintro e w3 ⟨v, rfl, ⟨s, rfl, s0, s1⟩, hs3, hg3⟩
  have s2 : s ≤ 400 := by omega
  have H3 := Lib.hid (H2.out.draw hg3)
  clear hs3 hg3 s1 HS2 H2
  go_wp2_with (at_builtin; go_loud (refine app_oneG rfl (.tmp 25) (.tmp 36) 47 46 (.complex .f32 0 0) 8 rfl Tryd.underlying47 info_c64 rfl rfl rfl (by simp) rfl H3.out (by simp) (by omega) ?_; intro v1 w4 H4 hgr; have HO := Lib.hid H4; clear H4 hgr H3))
  obtain ⟨a, c, e, hp⟩ := HO.out.nums
  obtain ⟨b, rfl, hb1, hb2, hc⟩ := hp (by simp)
  subst e
  have hc0 := hc 0 (by simp)
  have HC := Lib.hid hc0
  have HB4 := Lib.hid (HB.out.grown HO.out.gr HB.out.size (fun k e => by simp at e; omega))
  clear hc hc0 hp HO HB
  rw [rounds_succ]
  go_wp2
  go_ret
  exact ⟨⟨r - 200, s - 200, b, c, rfl, by rw [HC.out]; rfl, ⟨by omega, by omega⟩, ⟨by omega, by omega⟩⟩, HB4.out⟩
end Go.Proofs.YtglnfccglgladaaDoor
