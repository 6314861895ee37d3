/-
  A word with its sign turned.
-/
import Derived.Test.YtglnfccglgladaaDoorCxLaw
namespace Go.Proofs.YtglnfccglgladaaDoor
open Go.RowKit Ieee
set_option linter.unusedVariables false

theorem read_neg (k : FloatKind) (x : Nat) : k.format.read (Op.negFloat k x) = (k.format.read x).opposite := by
  have hs : k.format.signWeight = 2 ^ (k.format.exponentBits + k.format.fractionBits) := rfl
  have e1 : Op.negFloat k x % k.format.signWeight = x % k.format.signWeight := by
    unfold Op.negFloat
    rw [hs, Nat.xor_mod_two_pow, Nat.mod_self, Nat.xor_zero]
  have e2 : (Op.negFloat k x / k.format.signWeight % 2 == 1) = !(x / k.format.signWeight % 2 == 1) := by
    unfold Op.negFloat
    rw [hs]
    have h := fun n => Nat.testBit_eq_decide_div_mod_eq (x := n) (i := k.format.exponentBits + k.format.fractionBits)
    have t := Nat.testBit_xor x (2 ^ (k.format.exponentBits + k.format.fractionBits)) (k.format.exponentBits + k.format.fractionBits)
    rw [h, h, Nat.testBit_two_pow_self] at t
    rw [Bool.eq_iff_iff] at t ⊢
    simp at t ⊢
    omega
  unfold Format.read
  simp only [e1, e2]
  split
  · rfl
  · split
    · rfl
    · split <;> rfl
theorem Dy.neg {k : FloatKind} {t x : Nat} {a : Int} (h : Dy k.format t x a) : Dy k.format t (Op.negFloat k x) (-a) := by
  obtain ⟨s, q, hr, h1, h2⟩ := h
  refine ⟨!s, q, ?_, fun h => ?_, fun h => ?_⟩
  · rw [read_neg, hr, Int.natAbs_neg]; rfl
  · rw [h2 (by omega)]; rfl
  · rw [h1 (by omega)]; rfl

theorem I32.neg {x : Nat} {a : Int} {N : Nat} (h : I32 x a N) : I32 (Op.negFloat .f32 x) (-a) N := ⟨Dy.neg (k := .f32) h.1, by have := h.2; omega⟩
/-- A quotient of a product: the other factor. -/
theorem jquotC {x y u v : Nat} {a b c d P Q : Int} {N M L : Nat} (hx : I32 x P N) (hy : I32 y Q N) (hu : I32 u c M) (hv : I32 v d M) (hP : P = a * c - b * d) (hQ : Q = a * d + b * c) (ha : a.natAbs ≤ L) (hb : b.natAbs ≤ L)
    (h0 : c * c + d * d ≠ 0) (hN : N < 16777216) (hM : M < 16777216) (hL : L < 16777216) (h : N * M + N * M < 9007199254740992) (h2 : M * M + M * M < 9007199254740992) :
    impl_QuotientOf_Ok x y u v ∧ I32 (impl_QuotientOf_V0 x y u v) a L ∧ I32 (impl_QuotientOf_V1 x y u v) b L := by
  have w1 := jwide hx hN
  have w2 := jwide hy hN
  have w3 := jwide hu hM
  have w4 := jwide hv.neg hM
  have p := jpower hu hv hM h2
  have m1 := jmul w1.2 w3.2 (by omega)
  have m2 := jmul w2.2 w4.2 (by omega)
  have m3 := jmul w1.2 w4.2 (by omega)
  have m4 := jmul w2.2 w3.2 (by omega)
  have s1 := jsub m1.2 m2.2 (by omega)
  have s2 := jadd m3.2 m4.2 (by omega)
  have q1 := jquo (c := a) s1.2 p.2 h0 (by subst hP hQ; grind) ha (by omega)
  have q2 := jquo (c := b) s2.2 p.2 h0 (by subst hP hQ; grind) hb (by omega)
  have n1 := jnarrow q1.2 hL
  have n2 := jnarrow q2.2 hL
  exact ⟨⟨⟨w1.1, w2.1⟩, ⟨w3.1, w4.1⟩, p.1, m1.1, m2.1, s1.1, m3.1, m4.1, s2.1, q1.1, n1.1, q2.1, n2.1⟩, n1.2, n2.2⟩
end Go.Proofs.YtglnfccglgladaaDoor
