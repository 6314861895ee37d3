/-
  Whole numbers in double precision: exact sums, products, quotients, conversions.
-/
import Derived.Test.YtglnfccglgladaaDoorVecLaw
namespace Go.Proofs.YtglnfccglgladaaDoor
open Go.RowKit
set_option linter.unusedVariables false

abbrev D64 (t b : Nat) (a : Int) : Prop := Dy FloatKind.f64.format t b a
def J64 (x : Nat) (a : Int) (N : Nat) : Prop := D64 0 x a ∧ a.natAbs ≤ N
theorem lim64 : lim .f64 = 9007199254740992 := rfl
theorem jadd {x y : Nat} {a b : Int} {N M : Nat} (hx : J64 x a N) (hy : J64 y b M) (h : N + M < 9007199254740992) : okf .add .f64 x y ∧ J64 (fop .add .f64 x y) (a + b) (N + M) := by
  have h1 := hx.2
  have h2 := hy.2
  have h3 : (a + b).natAbs ≤ N + M := by omega
  obtain ⟨r, e, hd⟩ := dy_add .f64 (by omega) hx.1 hy.1 (by rw [lim64]; omega)
  exact ⟨by simp [okf, e], by simpa [fop, e] using hd, h3⟩
theorem jsub {x y : Nat} {a b : Int} {N M : Nat} (hx : J64 x a N) (hy : J64 y b M) (h : N + M < 9007199254740992) : okf .sub .f64 x y ∧ J64 (fop .sub .f64 x y) (a - b) (N + M) := by
  have h1 := hx.2
  have h2 := hy.2
  have h3 : (a - b).natAbs ≤ N + M := by omega
  obtain ⟨r, e, hd⟩ := dy_sub .f64 (by omega) hx.1 hy.1 (by rw [lim64]; omega)
  exact ⟨by simp [okf, e], by simpa [fop, e] using hd, h3⟩
theorem jmul {x y : Nat} {a b : Int} {N M : Nat} (hx : J64 x a N) (hy : J64 y b M) (h : N * M < 9007199254740992) : okf .mul .f64 x y ∧ J64 (fop .mul .f64 x y) (a * b) (N * M) := by
  have h3 : (a * b).natAbs ≤ N * M := by rw [Int.natAbs_mul]; exact Nat.mul_le_mul hx.2 hy.2
  obtain ⟨r, e, hd⟩ := dy_mul .f64 (t := 0) (t' := 0) (by omega) hx.1 hy.1 (by rw [lim64]; omega)
  exact ⟨by simp [okf, e], by simpa [fop, e] using hd, h3⟩
/-- A quotient that comes out even. -/
theorem jquo {x y : Nat} {a b c : Int} {N M K : Nat} (hx : J64 x a N) (hy : J64 y b M) (hb : b ≠ 0) (hc : c * b = a) (hK : c.natAbs ≤ K) (h : K < 9007199254740992) : okf .quo .f64 x y ∧ J64 (fop .quo .f64 x y) c K := by
  obtain ⟨r, e, hd⟩ := dy_quo .f64 (t := 0) (t' := 0) (s := 0) (c := c) hx.1 hy.1 hb (by simpa using hc) (by rw [lim64]; omega) (by omega) (by omega)
  exact ⟨by simp [okf, e], by simpa [fop, e] using hd, hK⟩
theorem jwide {x : Nat} {a : Int} {N : Nat} (hx : I32 x a N) (h : N < 16777216) : okc .f32 x .f64 ∧ J64 (cop .f32 x .f64) a N := by
  have h1 := hx.2
  obtain ⟨r, e, hd⟩ := dy_conv .f32 .f64 (t := 0) (by omega) (by decide) hx.1 (by rw [lim64]; omega)
  exact ⟨by simp [okc, e], by simpa [cop, e] using hd, h1⟩
theorem jnarrow {x : Nat} {a : Int} {N : Nat} (hx : J64 x a N) (h : N < 16777216) : okc .f64 x .f32 ∧ I32 (cop .f64 x .f32) a N := by
  have h1 := hx.2
  obtain ⟨r, e, hd⟩ := dy_conv .f64 .f32 (t := 0) (by omega) (by decide) hx.1 (by rw [lim32]; omega)
  exact ⟨by simp [okc, e], by simpa [cop, e] using hd, h1⟩
theorem jmulC {x y u v : Nat} {a b c d : Int} {N M : Nat} (hx : I32 x a N) (hy : I32 y b N) (hu : I32 u c M) (hv : I32 v d M) (hN : N < 16777216) (hM : M < 16777216) (h : N * M + N * M < 16777216) :
    impl_MulComplex_Ok x y u v ∧ I32 (impl_MulComplex_V0 x y u v) (a * c - b * d) (N * M + N * M) ∧ I32 (impl_MulComplex_V1 x y u v) (a * d + b * c) (N * M + N * M) := by
  have w1 := jwide hx hN
  have w2 := jwide hy hN
  have w3 := jwide hu hM
  have w4 := jwide hv hM
  have m1 := jmul w1.2 w3.2 (by omega)
  have m2 := jmul w2.2 w4.2 (by omega)
  have m3 := jmul w1.2 w4.2 (by omega)
  have m4 := jmul w2.2 w3.2 (by omega)
  have s1 := jsub m1.2 m2.2 (by omega)
  have s2 := jadd m3.2 m4.2 (by omega)
  have n1 := jnarrow s1.2 h
  have n2 := jnarrow s2.2 h
  exact ⟨⟨⟨w1.1, w2.1⟩, ⟨w3.1, w4.1⟩, m1.1, m2.1, s1.1, n1.1, m3.1, m4.1, s2.1, n2.1⟩, n1.2, n2.2⟩
theorem jpower {x y : Nat} {a b : Int} {N : Nat} (hx : I32 x a N) (hy : I32 y b N) (hN : N < 16777216) (h : N * N + N * N < 9007199254740992) :
    impl_power_Ok x y ∧ J64 (impl_power_V0 x y) (a * a + b * b) (N * N + N * N) := by
  have w1 := jwide hx hN
  have w2 := jwide hy hN
  have m1 := jmul w1.2 w1.2 (by omega)
  have m2 := jmul w2.2 w2.2 (by omega)
  have s1 := jadd m1.2 m2.2 (by omega)
  exact ⟨⟨⟨w1.1, w2.1⟩, m1.1, m2.1, s1.1⟩, s1.2⟩
theorem jpowerOf {x y : Nat} {a b : Int} {N : Nat} (hx : I32 x a N) (hy : I32 y b N) (h : N * N + N * N < 16777216) (hN : N < 16777216) :
    impl_PowerOf_Ok x y ∧ I32 (impl_PowerOf_V0 x y) (a * a + b * b) (N * N + N * N) := by
  have p := jpower hx hy hN (by omega)
  have n := jnarrow p.2 h
  exact ⟨⟨p.1, n.1⟩, n.2⟩
end Go.Proofs.YtglnfccglgladaaDoor
