/-
  The length of a complex number of small whole parts is the root of its whole power, to the last bit.
-/
import Derived.Test.YtglnfccglgladaaDoorRound
import Derived.Test.YtglnfccglgladaaDoorVecRun
namespace Go.Proofs.YtglnfccglgladaaDoor
open Go.RowKit Ieee
set_option linter.unusedVariables false

/-- A root in double precision, and what narrowing it gives, of a whole number that isn't negative. -/
theorem jroot {x : Nat} {a : Int} {N : Nat} (h : J64 x a N) (h0 : 0 ≤ a) (hN : N < 16777216) : okq x ∧ okc .f64 (qop x) .f32 ∧ W32 (cop .f64 (qop x) .f32) := by
  have hb := h.2
  obtain ⟨s, q, hr, hs1, hs2⟩ := h.1
  have hlog : a.natAbs * 2 ^ q = 0 ∨ ((a.natAbs * 2 ^ q).log2 : Int) + -((q + 0 : Nat) : Int) ≤ 24 := by
    by_cases hz : a.natAbs = 0
    · left; rw [hz, Nat.zero_mul]
    · right
      rw [log2_shift _ _ hz]
      have := (Nat.log2_lt hz).2 (show a.natAbs < 2 ^ 24 by omega)
      omega
  obtain ⟨r2, e2, hs⟩ := sqrt_small s _ _ hr (fun hne => hs2 (by
    rcases Int.lt_or_le 0 a with h' | h'
    · exact h'
    · have : a = 0 := by omega
      subst this
      simp at hne)) hlog (by omega) (by omega)
  have eq : qop x = r2 := by simp [qop, e2]
  obtain ⟨r3, e3, hs3⟩ := conv_small .f64 .f32 (by decide) (by decide) (by decide) hs
  refine ⟨by simp [okq, e2], by rw [eq]; simp [okc, e3], ?_⟩
  rw [eq]
  have : cop .f64 r2 .f32 = r3 := by simp [cop, e3]
  rw [this]
  show r3 < 4294967296
  unfold floatToFloatBits at e3
  rw [if_neg (by decide)] at e3
  split at e3
  · cases e3
  · cases e3; have := encode_wf .f32 (.infinity ‹_›); simpa [Lit.wf] using this
  · split at e3
    · cases e3
    · cases e3; have := encode_wf .f32 (.number ‹_› ‹_› ‹_›); simpa [Lit.wf] using this

theorem jlong {a b : Int} (ha : a.natAbs ≤ 200) (hb : b.natAbs ≤ 200) :
    impl_LongOf_Ok (floatOfInt .f32 a) (floatOfInt .f32 b) ∧ spec_RootNumber_Ok (floatOfInt .f32 (a * a + b * b)) ∧
    impl_LongOf_V0 (floatOfInt .f32 a) (floatOfInt .f32 b) = spec_RootNumber_V0 (floatOfInt .f32 (a * a + b * b)) ∧ W32 (impl_LongOf_V0 (floatOfInt .f32 a) (floatOfInt .f32 b)) := by
  have hx : I32 (floatOfInt .f32 a) a 200 := ⟨dy_of .f32 a (by rw [lim32]; omega), ha⟩
  have hy : I32 (floatOfInt .f32 b) b 200 := ⟨dy_of .f32 b (by rw [lim32]; omega), hb⟩
  have p := jpower hx hy (by decide) (by decide)
  have hP := p.2.2
  have h0 : 0 ≤ a * a + b * b := Int.add_nonneg (sq_nn a) (sq_nn b)
  have hz : I32 (floatOfInt .f32 (a * a + b * b)) (a * a + b * b) (200 * 200 + 200 * 200) := ⟨dy_of .f32 _ (by rw [lim32]; omega), hP⟩
  have w := jwide hz (by decide)
  have r1 := jroot p.2 h0 (by decide)
  have r2 := jroot w.2 h0 (by decide)
  have e : impl_power_V0 (floatOfInt .f32 a) (floatOfInt .f32 b) = cop .f32 (floatOfInt .f32 (a * a + b * b)) .f64 := by
    by_cases hne : a * a + b * b = 0
    · have e1 : a * a = 0 := by have := sq_nn a; have := sq_nn b; omega
      have e2 : b * b = 0 := by have := sq_nn a; have := sq_nn b; omega
      have e3 : a = 0 := by rcases Int.mul_eq_zero.1 e1 with h | h <;> exact h
      have e4 : b = 0 := by rcases Int.mul_eq_zero.1 e2 with h | h <;> exact h
      subst e3 e4
      decide
    · obtain ⟨_, _, _, hadd⟩ := p.1
      exact dy_unique _ p.2.1 w.2.1 (add_word hadd.eq p.2.1) (conv_word (by decide) w.1.eq w.2.1) hne
  refine ⟨⟨p.1, r1.1, r1.2.1⟩, ⟨w.1, r2.1, r2.2.1⟩, ?_, r1.2.2⟩
  show cop .f64 (qop _) .f32 = cop .f64 (qop _) .f32
  rw [e]
end Go.Proofs.YtglnfccglgladaaDoor
