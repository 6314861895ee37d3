/-
  What the law of products meets at complex numbers of small whole parts: contracts and plain facts.
-/
import Derived.Test.YtglnfccglgladaaDoorCxLong
import Derived.Test.YtglnfccglgladaaDoorCxSame2
import Derived.Test.YtglnfccglgladaaDoorCxRead2
import Derived.Test.YtglnfccglgladaaDoorFinite
import Derived.Test.YtglnfccglgladaaDoorDraw11
namespace Go.Proofs.YtglnfccglgladaaDoor
open Go.RowKit Ieee
set_option linter.unusedVariables false

/-- A word that stands for a whole number, as an integer. -/
theorem toInt_of (k : FloatKind) {x : Nat} {a : Int} (h : Dy k.format 0 x a) : (k.decode x).toInt .zero = some a := by
  obtain ⟨s, q, hr, h1, h2⟩ := h
  unfold FloatKind.decode
  rw [hr]
  unfold Datum.toInt Datum.integral
  have e1 : (-((q + 0 : Nat) : Int)).toNat = 0 := by omega
  have e2 : (- -((q + 0 : Nat) : Int)).toNat = q := by omega
  dsimp only
  rw [e1, e2, Nat.shiftLeft_zero]
  have hc : Toward.zero.cut s (a.natAbs * 2 ^ q) q = a.natAbs := by
    unfold Toward.cut
    dsimp only
    rw [one_shl]
    by_cases ha : a.natAbs = 0
    · rw [ha]; simp
    · rw [log2_shift _ _ ha]
      have e : min q (a.natAbs.log2 + q + 2) = q := by omega
      rw [e, Nat.mul_div_cancel _ (Nat.two_pow_pos q)]
      simp
  rw [hc]
  congr 1
  unfold signed
  rw [Nat.shiftLeft_zero]
  cases s with
  | true =>
    have : ¬ 0 < a := fun h => by have := h2 h; cases this
    simp only [if_true]
    omega
  | false =>
    have : ¬ a < 0 := fun h => by have := h1 h; cases this
    simp only [Bool.false_eq_true, if_false]
    omega
theorem toI64 {x : Nat} {a : Int} {N : Nat} (h : I32 x a N) (hN : N ≤ 16777216) (w : World) : (convert 24 2 (.float .f32 x)).run Tryd.prog w = .ok (.int .i64 a) w := by
  refine run_convert_float_int w _ _ .f32 .i64 x a (by rw [Tryd.underlying24]; rfl) Tryd.underlying2 ?_
  unfold floatToIntVal
  rw [toInt_of .f32 h.1]
  have := h.2
  have e1 : IntKind.i64.min = -9223372036854775808 := by decide
  have e2 : IntKind.i64.max = 9223372036854775807 := by decide
  rw [e1, e2]
  simp only []
  rw [if_pos (by omega)]

structure CxRun (x y u v p0 p1 q0 q1 pw n1 r0 r1 lg s0 s1 a0 a1 fX fY fP : Nat) (a b c d X Y P : Int) : Prop where
  mul1 : ∀ w, Calls Tryd.prog 30 #[.complex .f32 x y, .complex .f32 u v] w fun e w' => e = .returned (.complex .f32 p0 p1) ∧ w = w'
  mul2 : ∀ w, Calls Tryd.prog 30 #[.complex .f32 u v, .complex .f32 x y] w fun e w' => e = .returned (.complex .f32 q0 q1) ∧ w = w'
  mul3 : ∀ w, Calls Tryd.prog 30 #[.complex .f32 x y, .complex .f32 x n1] w fun e w' => e = .returned (.complex .f32 r0 r1) ∧ w = w'
  power : ∀ w, Calls Tryd.prog 31 #[.complex .f32 x y] w fun e w' => e = .returned (.float .f32 pw) ∧ w = w'
  conj : ∀ w, Calls Tryd.prog 32 #[.complex .f32 x y] w fun e w' => e = .returned (.complex .f32 x n1) ∧ w = w'
  long : ∀ w, Calls Tryd.prog 33 #[.complex .f32 x y] w fun e w' => e = .returned (.float .f32 lg) ∧ w = w'
  root : ∀ w, Calls Tryd.prog 18 #[.float .f32 fP] w fun e w' => e = .returned (.float .f32 lg) ∧ w = w'
  same : ∀ w, Calls Tryd.prog 16 #[.float .f32 lg, .float .f32 lg] w fun e w' => e = .returned (.bool true) ∧ w = w'
  scale : ∀ w, Calls Tryd.prog 35 #[.complex .f32 x y, .float .f32 1073741824] w fun e w' => e = .returned (.complex .f32 s0 s1) ∧ w = w'
  sum : ∀ t w, (binOp .add t (.complex .f32 x y) (.complex .f32 x y)).run Tryd.prog w = .ok (.complex .f32 a0 a1) w
  i1 : ∀ w, (convert 24 2 (.float .f32 x)).run Tryd.prog w = .ok (.int .i64 a) w
  i2 : ∀ w, (convert 24 2 (.float .f32 y)).run Tryd.prog w = .ok (.int .i64 b) w
  i3 : ∀ w, (convert 24 2 (.float .f32 u)).run Tryd.prog w = .ok (.int .i64 c) w
  i4 : ∀ w, (convert 24 2 (.float .f32 v)).run Tryd.prog w = .ok (.int .i64 d) w
  e1 : Eq32 p0 fX
  e2 : Eq32 p1 fY
  e3 : Eq32 q0 p0
  e4 : Eq32 q1 p1
  e5 : Eq32 pw fP
  e6 : Eq32 r0 fP
  e7 : Eq32 r1 0
  e8 : Eq32 s0 a0
  e9 : Eq32 s1 a1
  hX : X = a * c - b * d
  hY : Y = a * d + b * c
  hP : P = a * a + b * b
  fx : fX = floatOfInt .f32 X
  fy : fY = floatOfInt .f32 Y
  fp : fP = floatOfInt .f32 P
  /-- The other factor is nought, or the quotient leads back. -/
  quo : (Eq32 u 0 ∧ Eq32 v 0) ∨ ((¬ Eq32 u 0 ∨ ¬ Eq32 v 0) ∧ ∃ t0 t1, (∀ w, Calls Tryd.prog 34 #[.complex .f32 p0 p1, .complex .f32 u v] w fun e w' => e = .returned (.complex .f32 t0 t1) ∧ w = w') ∧ Eq32 t0 x ∧ Eq32 t1 y)

theorem ofInt_i32 (a : Int) (N : Nat) (h : a.natAbs ≤ N) (hN : N < 16777216) : I32 (floatOfInt .f32 a) a N := ⟨dy_of .f32 a (by rw [lim32]; omega), h⟩
theorem zero_eq {x : Nat} {a : Int} {N : Nat} (h : I32 x a N) : Eq32 x 0 ↔ a = 0 := by
  constructor
  · intro e
    unfold Eq32 at e
    rw [dy_order .f32 h.1 i0.1] at e
    simpa using e
  · intro e
    exact h.eq i0 e

theorem cxRun {a b c d : Int} (ha : -200 ≤ a ∧ a ≤ 200) (hb : -200 ≤ b ∧ b ≤ 200) (hc : -200 ≤ c ∧ c ≤ 200) (hd : -200 ≤ d ∧ d ≤ 200) :
    ∃ p0 p1 q0 q1 pw n1 r0 r1 lg s0 s1 a0 a1 fX fY fP X Y P, CxRun (floatOfInt .f32 a) (floatOfInt .f32 b) (floatOfInt .f32 c) (floatOfInt .f32 d) p0 p1 q0 q1 pw n1 r0 r1 lg s0 s1 a0 a1 fX fY fP a b c d X Y P := by
  have na : a.natAbs ≤ 200 := by omega
  have nb : b.natAbs ≤ 200 := by omega
  have nc : c.natAbs ≤ 200 := by omega
  have nd : d.natAbs ≤ 200 := by omega
  have hx := ofInt_i32 a 200 na (by decide)
  have hy := ofInt_i32 b 200 nb (by decide)
  have hu := ofInt_i32 c 200 nc (by decide)
  have hv := ofInt_i32 d 200 nd (by decide)
  have m1 := jmulC hx hy hu hv (by decide) (by decide) (by decide)
  have m2 := jmulC hu hv hx hy (by decide) (by decide) (by decide)
  have m3 := jmulC hx hy hx hy.neg (by decide) (by decide) (by decide)
  have m4 := jpowerOf hx hy (by decide) (by decide)
  have m5 := jlong na nb
  have s0 := imul hx i2 (by decide)
  have s1 := imul hy i2 (by decide)
  have t0 := iadd hx hx (by decide)
  have t1 := iadd hy hy (by decide)
  have fX := ofInt_i32 (a * c - b * d) _ m1.2.1.2 (by decide)
  have fY := ofInt_i32 (a * d + b * c) _ m1.2.2.2 (by decide)
  have fP := ofInt_i32 (a * a + b * b) _ m4.2.2 (by decide)
  repeat apply Exists.intro
  exact {
    mul1 := impl_MulComplex_c m1.1
    mul2 := impl_MulComplex_c m2.1
    mul3 := impl_MulComplex_c m3.1
    power := impl_PowerOf_c m4.1
    conj := impl_ConjugateOf_c
    long := impl_LongOf_c m5.1
    root := by rw [m5.2.2.1]; exact spec_RootNumber_c m5.2.1
    same := specSameW_c m5.2.2.2
    scale := impl_ScaleComplex_c ⟨s0.1, s1.1⟩
    sum := csum_run (Or.inl rfl) t0.1 t1.1
    i1 := toI64 hx (by decide)
    i2 := toI64 hy (by decide)
    i3 := toI64 hu (by decide)
    i4 := toI64 hv (by decide)
    e1 := m1.2.1.eq fX rfl
    e2 := m1.2.2.eq fY rfl
    e3 := m2.2.1.eq m1.2.1 (by grind)
    e4 := m2.2.2.eq m1.2.2 (by grind)
    e5 := m4.2.eq fP rfl
    e6 := m3.2.1.eq fP (by grind)
    e7 := m3.2.2.eq i0 (by grind)
    e8 := s0.2.eq t0.2 (by omega)
    e9 := s1.2.eq t1.2 (by omega)
    hX := rfl
    hY := rfl
    hP := rfl
    fx := rfl
    fy := rfl
    fp := rfl
    quo := by
      by_cases h0 : c = 0 ∧ d = 0
      · exact Or.inl ⟨(zero_eq hu).2 h0.1, (zero_eq hv).2 h0.2⟩
      · right
        refine ⟨?_, ?_⟩
        · by_cases hc0 : c = 0
          · right
            rw [zero_eq hv]
            exact fun hd0 => h0 ⟨hc0, hd0⟩
          · left
            rw [zero_eq hu]
            exact hc0
        · have hne : c * c + d * d ≠ 0 := by
            intro h
            have h1 := sq_nn c
            have h2 := sq_nn d
            refine h0 ⟨?_, ?_⟩
            · rcases Int.mul_eq_zero.1 (show c * c = 0 by omega) with h | h <;> exact h
            · rcases Int.mul_eq_zero.1 (show d * d = 0 by omega) with h | h <;> exact h
          have q := jquotC m1.2.1 m1.2.2 hu hv rfl rfl na nb hne (by decide) (by decide) (by decide) (by decide) (by decide)
          exact ⟨_, _, impl_QuotientOf_c q.1, q.2.1.eq hx rfl, q.2.2.eq hy rfl⟩ }
end Go.Proofs.YtglnfccglgladaaDoor
