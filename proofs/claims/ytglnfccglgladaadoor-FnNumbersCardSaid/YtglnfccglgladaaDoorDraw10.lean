/-
  What is drawn, from the codes: a number, a small number in a code.
-/
import Derived.Test.YtglnfccglgladaaDoorDraw9
namespace Go.Proofs.YtglnfccglgladaaDoor
open Go.RowKit
set_option linter.unusedVariables false

set_option maxHeartbeats 1000000 in
theorem b10number_c {w : World} {n cp : Nat} {A : Option Addr} (hn : n ≤ 9223372036854775807) (hc : Code w w.heap.size A n) :
    Calls Tryd.prog 40 #[.slice A n cp] w fun e w' => (∃ x, e = .returned (.float .f32 x) ∧ W32 x) ∧ Below w.heap.size w w' := by
  go_enter Tryd.func40, Tryd.ntmps40
  go_wp2_with fail
  refine (from_c (B := w.heap.size) (Nat.le_refl _) hn hc).mono ?_
  rintro e w1 ⟨rfl, hs, hb⟩
  have HB := Lib.hid hb
  clear hc
  go_wp2_with fail
  refine (one_c (by omega) hs (by omega)).mono ?_
  rintro e w2 ⟨v, rfl, ⟨b, rfl⟩, hs2, hg2⟩
  have HB2 := Lib.hid (HB.out.grown hg2 HB.out.size (fun k e => by simp at e; omega))
  clear hg2 hs hb HB
  cases b with
  | true =>
    go_wp2_with fail
    refine (pick_c (by omega) hs2 (by omega)).mono ?_
    rintro e w3 ⟨v, rfl, ⟨r, rfl, r0, r1⟩, hs3, hg3⟩
    have HB3 := Lib.hid (HB2.out.grown hg3 HB2.out.size (fun k e => by simp at e; omega))
    have r2 : r ≤ 65535 := by omega
    clear hg3 hs2 HB2 r1
    go_wp2_with fail
    refine (pick_c (by omega) hs3 (by omega)).mono ?_
    rintro e w4 ⟨v, rfl, ⟨s, rfl, s0, s1⟩, hs4, hg4⟩
    have HB4 := Lib.hid (HB3.out.grown hg4 HB3.out.size (fun k e => by simp at e; omega))
    have s2 : s ≤ 65535 := by omega
    clear hg4 hs3 hs4 HB3 s1
    go_wp2_with (go_at_call 85; refine (l01From_c (by omega) (by omega) _).mono ?_; rintro e w5 ⟨rfl, rfl⟩)
    go_ret
    exact ⟨⟨_, rfl, by unfold W32; omega⟩, HB4.out⟩
  | false =>
    go_wp2_with fail
    refine (float_c hs2 (by omega)).mono ?_
    rintro e w3 ⟨v, rfl, ⟨x, rfl, hx⟩, hs3, hg3⟩
    have HB3 := Lib.hid (HB2.out.grown hg3 HB2.out.size (fun k e => by simp at e; omega))
    have HX := Lib.hid (show W32 x from hx)
    clear hg3 hs2 hs3 HB2 hx
    go_wp2
    go_ret
    exact ⟨⟨_, rfl, HX.out⟩, HB3.out⟩

theorem b10at_c {w : World} {n cp : Nat} {A : Option Addr} {q : Int} (hn : n ≤ 9223372036854775807) (hc : Code w w.heap.size A n) (h2 : 2 ≤ q) (h3 : q ≤ 100) :
    Calls Tryd.prog 37 #[.slice A n cp, .int .i64 0, .int .i64 q] w fun e w' => (∃ r : Nat, e = .returned (.int .i64 r) ∧ (r : Int) < q) ∧ w = w' := by
  by_cases h0 : n = 0
  · subst h0
    clear hc
    go_enter Tryd.func37, Tryd.ntmps37
    go_wp2
    go_ret
    have := Int.emod_nonneg 11 (show q ≠ 0 by omega)
    have := Int.emod_lt_of_pos 11 (show (0 : Int) < q by omega)
    exact ⟨⟨(11 % q).toNat, by rw [Int.toNat_of_nonneg (by assumption)]; simp, by omega⟩, rfl⟩
  · obtain ⟨b, off, rfl, hb, hz⟩ := hc (by omega)
    obtain ⟨z, z0, z1, hz⟩ := hz 0 (by omega)
    have hn0 : (0 : Int) < (n : Int) := by omega
    rw [Nat.add_zero] at hz
    clear h0
    go_enter Tryd.func37, Tryd.ntmps37
    go_wp2
    go_ret
    have := Int.emod_nonneg z (show q ≠ 0 by omega)
    have := Int.emod_lt_of_pos z (show (0 : Int) < q by omega)
    exact ⟨⟨(z % q).toNat, by rw [Int.toNat_of_nonneg (by assumption)]; simp, by omega⟩, rfl⟩
end Go.Proofs.YtglnfccglgladaaDoor
