/-
  What is drawn: complex numbers.
-/
import Derived.Test.YtglnfccglgladaaDoorDraw5
import Derived.Test.YtglnfccglgladaaDoorSmall
namespace Go.Proofs.YtglnfccglgladaaDoor
open Go.RowKit
set_option linter.unusedVariables false

def CxR (v : Value) : Prop := ∃ x y : Nat, v = .complex .f32 x y ∧ x < 4294967296 ∧ y < 4294967296

theorem drawcomplex_c {w : World} {B g m : Nat} (h : Src w B g m) (hm : m ≤ 600000) :
    Calls Tryd.prog 91 #[.pointer (some ⟨g, 0, none⟩)] w (Drawn B g (m + 20) w CxR) := by
  go_enter Tryd.func91, Tryd.ntmps91
  go_wp2_with fail
  refine (float_c h (by omega)).mono ?_
  rintro e w1 ⟨v, rfl, ⟨x, rfl, hx⟩, hs1, hg1⟩
  have HG := Lib.hid hg1
  clear hg1 h
  go_wp2_with fail
  refine (float_c hs1 (by omega)).mono ?_
  rintro e w2 ⟨v, rfl, ⟨y, rfl, hy⟩, hs2, hg2⟩
  have HG2 := Lib.hid (World.grownBy.trans HG.out hg2)
  have HS := Lib.hid hs2
  clear hg2 hs2 hs1 HG
  go_wp2
  go_ret
  exact ⟨_, rfl, ⟨x, y, rfl, hx, hy⟩, HS.out.mono (by omega), HG2.out⟩

theorem dy16 : D32 0 1098907648 16 := ⟨false, 19, by decide, by decide, by decide⟩
theorem fine_q (a : Int) (h0 : -64 ≤ a) (h1 : a ≤ 64) : okf .quo .f32 (floatOfInt .f32 a) 1098907648 ∧ fop .quo .f32 (floatOfInt .f32 a) 1098907648 < 4294967296 := by
  obtain ⟨r, e, hd⟩ := dy_quo .f32 (t := 0) (t' := 0) (s := 4) (a := a) (b := 16) (c := a) (dy_of .f32 a (by show _ < 16777216; omega)) dy16 (by decide) (by omega) (by show _ < 16777216; omega) (by omega) (by omega)
  exact ⟨by simp [okf, e], by simpa [fop, e] using bits_lt e⟩

set_option maxHeartbeats 1000000 in
theorem drawfine_c {w : World} {B g m : Nat} (h : Src w B g m) (hm : m ≤ 600000) :
    Calls Tryd.prog 92 #[.pointer (some ⟨g, 0, none⟩)] w (Drawn B g (m + 20) w CxR) := by
  go_enter Tryd.func92, Tryd.ntmps92
  go_wp2_with fail
  refine (pick_c (by omega) h (by omega)).mono ?_
  rintro e w1 ⟨v, rfl, ⟨r, rfl, r0, r1⟩, hs1, hg1⟩
  have r2 : r ≤ 64 := by omega
  have q := fine_q (r - 32) (by omega) (by omega)
  have e1 := q.1.rf (P := Tryd.prog)
  have Q := Lib.hid q.2
  have HG := Lib.hid hg1
  clear hg1 h q r1
  go_wp2_with fail
  refine (pick_c (by omega) hs1 (by omega)).mono ?_
  rintro e w2 ⟨v, rfl, ⟨s, rfl, s0, s1⟩, hs2, hg2⟩
  have s2 : s ≤ 64 := by omega
  have q := fine_q (s - 32) (by omega) (by omega)
  have e2 := q.1.rf (P := Tryd.prog)
  have Q2 := Lib.hid q.2
  have HG2 := Lib.hid (World.grownBy.trans HG.out hg2)
  have HS := Lib.hid hs2
  clear hg2 hs2 hs1 HG q s1
  go_wp2
  go_ret
  exact ⟨_, rfl, ⟨_, _, rfl, Q.out, Q2.out⟩, HS.out.mono (by omega), HG2.out⟩
end Go.Proofs.YtglnfccglgladaaDoor
