/-
  What the vector functions make of vectors of small whole numbers. (No program in sight but for the words that its functions compute.)
-/
import Derived.Test.YtglnfccglgladaaDoorVec
namespace Go.Proofs.YtglnfccglgladaaDoor
open Go.RowKit
set_option linter.unusedVariables false

/-- The word stands for the whole number a, of at most N. -/
def I32 (x : Nat) (a : Int) (N : Nat) : Prop := D32 0 x a ∧ a.natAbs ≤ N
theorem lim32 : lim .f32 = 16777216 := rfl
theorem iadd {x y : Nat} {a b : Int} {N M : Nat} (hx : I32 x a N) (hy : I32 y b M) (h : N + M < 16777216) : okf .add .f32 x y ∧ I32 (fop .add .f32 x y) (a + b) (N + M) := by
  have h1 := hx.2
  have h2 := hy.2
  have h3 : (a + b).natAbs ≤ N + M := by omega
  obtain ⟨r, e, hd⟩ := dy_add .f32 (by omega) hx.1 hy.1 (by rw [lim32]; omega)
  exact ⟨by simp [okf, e], by simpa [fop, e] using hd, h3⟩
theorem isub {x y : Nat} {a b : Int} {N M : Nat} (hx : I32 x a N) (hy : I32 y b M) (h : N + M < 16777216) : okf .sub .f32 x y ∧ I32 (fop .sub .f32 x y) (a - b) (N + M) := by
  have h1 := hx.2
  have h2 := hy.2
  have h3 : (a - b).natAbs ≤ N + M := by omega
  obtain ⟨r, e, hd⟩ := dy_sub .f32 (by omega) hx.1 hy.1 (by rw [lim32]; omega)
  exact ⟨by simp [okf, e], by simpa [fop, e] using hd, h3⟩
theorem imul {x y : Nat} {a b : Int} {N M : Nat} (hx : I32 x a N) (hy : I32 y b M) (h : N * M < 16777216) : okf .mul .f32 x y ∧ I32 (fop .mul .f32 x y) (a * b) (N * M) := by
  have h3 : (a * b).natAbs ≤ N * M := by rw [Int.natAbs_mul]; exact Nat.mul_le_mul hx.2 hy.2
  obtain ⟨r, e, hd⟩ := dy_mul .f32 (t := 0) (t' := 0) (by omega) hx.1 hy.1 (by rw [lim32]; omega)
  exact ⟨by simp [okf, e], by simpa [fop, e] using hd, h3⟩
theorem I32.to {x : Nat} {a b : Int} {N : Nat} (h : I32 x a N) (e : a = b) : I32 x b N := e ▸ h
theorem I32.eq {x y : Nat} {a b : Int} {N M : Nat} (hx : I32 x a N) (hy : I32 y b M) (e : a = b) : Eq32 x y := by
  subst e; exact eq32_of hx.1 hy.1
theorem i0 : I32 0 0 0 := ⟨⟨false, 149, by decide, by decide, by decide⟩, by decide⟩
theorem i1 : I32 1065353216 1 1 := ⟨⟨false, 23, by decide, by decide, by decide⟩, by decide⟩
theorem i2 : I32 1073741824 2 2 := ⟨⟨false, 22, by decide, by decide, by decide⟩, by decide⟩
theorem im1 : I32 3212836864 (-1) 1 := ⟨⟨true, 23, by decide, by decide, by decide⟩, by decide⟩

/-- A vector of whole numbers. -/
structure IV (x y z : Nat) (a b c : Int) (N : Nat) : Prop where
  x : I32 x a N
  y : I32 y b N
  z : I32 z c N
theorem IV.to {x y z : Nat} {a b c a' b' c' : Int} {N : Nat} (h : IV x y z a b c N) (e1 : a = a') (e2 : b = b') (e3 : c = c') : IV x y z a' b' c' N := by subst e1 e2 e3; exact h

theorem icrossed {x y u v : Nat} {a b c d : Int} {N M : Nat} (hx : I32 x a N) (hy : I32 y b M) (hu : I32 u c N) (hv : I32 v d M) (h : N * M + N * M < 16777216) :
    impl_crossed_Ok x y u v ∧ I32 (impl_crossed_V0 x y u v) (a * b - c * d) (N * M + N * M) := by
  have h1 := imul hx hy (by omega)
  have h2 := imul hu hv (by omega)
  have h3 := isub h1.2 h2.2 h
  exact ⟨⟨h1.1, h2.1, h3.1⟩, h3.2⟩
theorem icross {x y z u v t : Nat} {a b c d e f : Int} {N M : Nat} (h : IV x y z a b c N) (k : IV u v t d e f M) (hb : N * M + N * M < 16777216) :
    impl_CrossOf_Ok x y z u v t ∧ IV (impl_CrossOf_V0 x y z u v t) (impl_CrossOf_V1 x y z u v t) (impl_CrossOf_V2 x y z u v t) (b * f - c * e) (c * d - a * f) (a * e - b * d) (N * M + N * M) := by
  have h1 := icrossed h.y k.z h.z k.y hb
  have h2 := icrossed h.z k.x h.x k.z hb
  have h3 := icrossed h.x k.y h.y k.x hb
  exact ⟨⟨h1.1, h2.1, h3.1⟩, h1.2, h2.2, h3.2⟩
theorem iaddv {x y z u v t : Nat} {a b c d e f : Int} {N M : Nat} (h : IV x y z a b c N) (k : IV u v t d e f M) (hb : N + M < 16777216) :
    impl_AddVectors_Ok x y z u v t ∧ IV (impl_AddVectors_V0 x y z u v t) (impl_AddVectors_V1 x y z u v t) (impl_AddVectors_V2 x y z u v t) (a + d) (b + e) (c + f) (N + M) := by
  have h1 := iadd h.x k.x hb
  have h2 := iadd h.y k.y hb
  have h3 := iadd h.z k.z hb
  exact ⟨⟨h1.1, h2.1, h3.1⟩, h1.2, h2.2, h3.2⟩
theorem ilessv {x y z u v t : Nat} {a b c d e f : Int} {N M : Nat} (h : IV x y z a b c N) (k : IV u v t d e f M) (hb : N + M < 16777216) :
    impl_LessVectors_Ok x y z u v t ∧ IV (impl_LessVectors_V0 x y z u v t) (impl_LessVectors_V1 x y z u v t) (impl_LessVectors_V2 x y z u v t) (a - d) (b - e) (c - f) (N + M) := by
  have h1 := isub h.x k.x hb
  have h2 := isub h.y k.y hb
  have h3 := isub h.z k.z hb
  exact ⟨⟨h1.1, h2.1, h3.1⟩, h1.2, h2.2, h3.2⟩
theorem iscalev {x y z u : Nat} {a b c d : Int} {N M : Nat} (h : IV x y z a b c N) (k : I32 u d M) (hb : N * M < 16777216) :
    impl_ScaleVector_Ok x y z u ∧ IV (impl_ScaleVector_V0 x y z u) (impl_ScaleVector_V1 x y z u) (impl_ScaleVector_V2 x y z u) (a * d) (b * d) (c * d) (N * M) := by
  have h1 := imul h.x k hb
  have h2 := imul h.y k hb
  have h3 := imul h.z k hb
  exact ⟨⟨h1.1, h2.1, h3.1⟩, h1.2, h2.2, h3.2⟩
theorem iinner {x y z u v t : Nat} {a b c d e f : Int} {N M : Nat} (h : IV x y z a b c N) (k : IV u v t d e f M) (hb : N * M + N * M + N * M < 16777216) :
    impl_InnerOf_Ok x y z u v t ∧ I32 (impl_InnerOf_V0 x y z u v t) (a * d + b * e + c * f) (N * M + N * M + N * M) := by
  have h1 := imul h.x k.x (by omega)
  have h2 := imul h.y k.y (by omega)
  have h3 := imul h.z k.z (by omega)
  have h4 := iadd h1.2 h2.2 (by omega)
  have h5 := iadd h4.2 h3.2 hb
  exact ⟨⟨h1.1, h2.1, h4.1, h3.1, h5.1⟩, h5.2⟩
theorem ibetween {x y z u v t s : Nat} {a b c d e f g : Int} {N M K : Nat} (h : IV x y z a b c N) (k : IV u v t d e f M) (hs : I32 s g K) (hb : N + (M + N) * K < 16777216) (hb2 : M + N < 16777216) :
    impl_BetweenVectors_Ok x y z u v t s ∧ IV (impl_BetweenVectors_V0 x y z u v t s) (impl_BetweenVectors_V1 x y z u v t s) (impl_BetweenVectors_V2 x y z u v t s) (a + (d - a) * g) (b + (e - b) * g) (c + (f - c) * g) (N + (M + N) * K) := by
  have h1 := ilessv k h hb2
  have h2 := iscalev h1.2 hs (by omega)
  have h3 := iaddv h h2.2 hb
  exact ⟨⟨h1.1, h2.1, h3.1⟩, h3.2⟩
theorem isquare {x y z : Nat} {a b c : Int} {N : Nat} (h : IV x y z a b c N) (hb : N * N + N * N + N * N < 16777216) :
    laws_b10Square_Ok x y z ∧ I32 (laws_b10Square_V0 x y z) (a * a + b * b + c * c) (N * N + N * N + N * N) := by
  have h1 := imul h.x h.x (by omega)
  have h2 := imul h.y h.y (by omega)
  have h3 := imul h.z h.z (by omega)
  have h4 := iadd h1.2 h2.2 (by omega)
  have h5 := iadd h4.2 h3.2 hb
  exact ⟨⟨h1.1, h2.1, h4.1, h3.1, h5.1⟩, h5.2⟩

/-- A root of a small whole number that isn't negative. -/
theorem iroot {x : Nat} {a : Int} {N : Nat} (h : I32 x a N) (h0 : 0 ≤ a) (hN : N < 16777216) : impl_RootNumber_Ok x ∧ spec_RootNumber_Ok x ∧ W32 (impl_RootNumber_V0 x) := by
  have hb := h.2
  obtain ⟨r, e, hd⟩ := dy_conv .f32 .f64 (t := 0) (by omega) (by decide) h.1 (by show _ < 9007199254740992; omega)
  have c1 : okc .f32 x .f64 := by simp [okc, e]
  have ec : cop .f32 x .f64 = r := by simp [cop, e]
  obtain ⟨s, q, hr, hs1, hs2⟩ := hd
  have hlog : a.natAbs * 2 ^ q = 0 ∨ ((a.natAbs * 2 ^ q).log2 : Int) + -((q + 0 : Nat) : Int) ≤ 24 := by
    by_cases hz : a.natAbs = 0
    · left; rw [hz, Nat.zero_mul]
    · right
      rw [log2_shift _ _ hz]
      have := (Nat.log2_lt hz).2 (show a.natAbs < 2 ^ 24 by omega)
      omega
  obtain ⟨r2, e2, hs⟩ := sqrt_small s _ _ hr (fun hne => hs2 (by
    rcases Int.lt_or_le 0 a with h' | h'
    · exact h'
    · have : a = 0 := by omega
      subst this
      simp at hne)) hlog (by omega) (by omega)
  have c2 : okq (cop .f32 x .f64) := by rw [ec]; simp [okq, e2]
  have eq : qop (cop .f32 x .f64) = r2 := by rw [ec]; simp [qop, e2]
  obtain ⟨r3, e3, hs3⟩ := conv_small .f64 .f32 (by decide) (by decide) (by decide) hs
  have c3 : okc .f64 (qop (cop .f32 x .f64)) .f32 := by rw [eq]; simp [okc, e3]
  have w3 : r3 < 4294967296 := by
    unfold floatToFloatBits at e3
    rw [if_neg (by decide)] at e3
    have := fun d => encode_wf .f32 d
    split at e3
    · cases e3
    · cases e3; have := encode_wf .f32 (.infinity ‹_›); simpa [Lit.wf] using this
    · split at e3
      · cases e3
      · cases e3; have := encode_wf .f32 (.number ‹_› ‹_› ‹_›); simpa [Lit.wf] using this
  refine ⟨⟨c1, c2, c3⟩, ⟨c1, c2, c3⟩, ?_⟩
  show W32 (cop .f64 (qop (cop .f32 x .f64)) .f32)
  rw [eq]
  have : cop .f64 r2 .f32 = r3 := by simp [cop, e3]
  rw [this]
  exact w3
end Go.Proofs.YtglnfccglgladaaDoor
