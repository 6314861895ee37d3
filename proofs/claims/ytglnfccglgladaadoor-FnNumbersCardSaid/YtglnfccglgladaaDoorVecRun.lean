/-
  The contracts that the law of vectors meets, at vectors of small whole numbers. (Printed by wip/tools/vecrun.py.)
-/
import Derived.Test.YtglnfccglgladaaDoorVecLaw
namespace Go.Proofs.YtglnfccglgladaaDoor
open Go.RowKit
set_option linter.unusedVariables false

theorem neq_run {P : Program} {x y : Nat} (h : Eq32 x y) : ∀ t w, (binOp .neq t (.float .f32 x) (.float .f32 y)).run P w = .ok (.bool false) w := by
  intro t w
  unfold Eq32 at h
  go_simp

theorem sq_nn (a : Int) : 0 ≤ a * a := by have := Int.natAbs_mul_self (a := a); omega

structure VecRun (x0 x1 x2 y0 y1 y2 c0 c1 c2 d0 d1 d2 l0 l1 l2 b0 b1 b2 t0 t1 t2 e0 e1 e2 s0 s1 s2 m0 m1 m2 n0 n1 n2 i j q r : Nat) : Prop where
  cross : ∀ w, Calls Tryd.prog 9 #[.agg #[.float .f32 x0, .float .f32 x1, .float .f32 x2], .agg #[.float .f32 y0, .float .f32 y1, .float .f32 y2]] w fun e w' => e = .returned (.agg #[.float .f32 c0, .float .f32 c1, .float .f32 c2]) ∧ Below w.heap.size w w'
  cross2 : ∀ w, Calls Tryd.prog 9 #[.agg #[.float .f32 y0, .float .f32 y1, .float .f32 y2], .agg #[.float .f32 x0, .float .f32 x1, .float .f32 x2]] w fun e w' => e = .returned (.agg #[.float .f32 d0, .float .f32 d1, .float .f32 d2]) ∧ Below w.heap.size w w'
  less : ∀ w, Calls Tryd.prog 11 #[.agg #[.float .f32 x0, .float .f32 x1, .float .f32 x2], .agg #[.float .f32 y0, .float .f32 y1, .float .f32 y2]] w fun e w' => e = .returned (.agg #[.float .f32 l0, .float .f32 l1, .float .f32 l2]) ∧ Below w.heap.size w w'
  back : ∀ w, Calls Tryd.prog 10 #[.agg #[.float .f32 y0, .float .f32 y1, .float .f32 y2], .agg #[.float .f32 l0, .float .f32 l1, .float .f32 l2]] w fun e w' => e = .returned (.agg #[.float .f32 b0, .float .f32 b1, .float .f32 b2]) ∧ Below w.heap.size w w'
  twice : ∀ w, Calls Tryd.prog 12 #[.agg #[.float .f32 x0, .float .f32 x1, .float .f32 x2], .float .f32 1073741824] w fun e w' => e = .returned (.agg #[.float .f32 t0, .float .f32 t1, .float .f32 t2]) ∧ Below w.heap.size w w'
  eq1 : ∀ w, Calls Tryd.prog 13 #[.agg #[.float .f32 b0, .float .f32 b1, .float .f32 b2], .agg #[.float .f32 x0, .float .f32 x1, .float .f32 x2]] w fun e w' => e = .returned (.bool true) ∧ Below w.heap.size w w'
  inner1 : ∀ w, Calls Tryd.prog 14 #[.agg #[.float .f32 c0, .float .f32 c1, .float .f32 c2], .agg #[.float .f32 x0, .float .f32 x1, .float .f32 x2]] w fun e w' => e = .returned (.float .f32 i) ∧ Below w.heap.size w w'
  inner2 : ∀ w, Calls Tryd.prog 14 #[.agg #[.float .f32 c0, .float .f32 c1, .float .f32 c2], .agg #[.float .f32 y0, .float .f32 y1, .float .f32 y2]] w fun e w' => e = .returned (.float .f32 j) ∧ Below w.heap.size w w'
  opp : ∀ w, Calls Tryd.prog 12 #[.agg #[.float .f32 d0, .float .f32 d1, .float .f32 d2], .float .f32 3212836864] w fun e w' => e = .returned (.agg #[.float .f32 e0, .float .f32 e1, .float .f32 e2]) ∧ Below w.heap.size w w'
  eq2 : ∀ w, Calls Tryd.prog 13 #[.agg #[.float .f32 c0, .float .f32 c1, .float .f32 c2], .agg #[.float .f32 e0, .float .f32 e1, .float .f32 e2]] w fun e w' => e = .returned (.bool true) ∧ Below w.heap.size w w'
  add2 : ∀ w, Calls Tryd.prog 10 #[.agg #[.float .f32 x0, .float .f32 x1, .float .f32 x2], .agg #[.float .f32 x0, .float .f32 x1, .float .f32 x2]] w fun e w' => e = .returned (.agg #[.float .f32 s0, .float .f32 s1, .float .f32 s2]) ∧ Below w.heap.size w w'
  eq3 : ∀ w, Calls Tryd.prog 13 #[.agg #[.float .f32 t0, .float .f32 t1, .float .f32 t2], .agg #[.float .f32 s0, .float .f32 s1, .float .f32 s2]] w fun e w' => e = .returned (.bool true) ∧ Below w.heap.size w w'
  inner3 : ∀ w, Calls Tryd.prog 14 #[.agg #[.float .f32 x0, .float .f32 x1, .float .f32 x2], .agg #[.float .f32 x0, .float .f32 x1, .float .f32 x2]] w fun e w' => e = .returned (.float .f32 q) ∧ Below w.heap.size w w'
  square : ∀ w, Calls Tryd.prog 15 #[.agg #[.float .f32 x0, .float .f32 x1, .float .f32 x2]] w fun e w' => e = .returned (.float .f32 q) ∧ Below w.heap.size w w'
  size : ∀ w, Calls Tryd.prog 17 #[.agg #[.float .f32 x0, .float .f32 x1, .float .f32 x2]] w fun e w' => e = .returned (.float .f32 r) ∧ Below w.heap.size w w'
  root : ∀ w, Calls Tryd.prog 18 #[.float .f32 q] w fun e w' => e = .returned (.float .f32 r) ∧ w = w'
  same : ∀ w, Calls Tryd.prog 16 #[.float .f32 r, .float .f32 r] w fun e w' => e = .returned (.bool true) ∧ w = w'
  betw0 : ∀ w, Calls Tryd.prog 19 #[.agg #[.float .f32 x0, .float .f32 x1, .float .f32 x2], .agg #[.float .f32 y0, .float .f32 y1, .float .f32 y2], .float .f32 0] w fun e w' => e = .returned (.agg #[.float .f32 m0, .float .f32 m1, .float .f32 m2]) ∧ Below w.heap.size w w'
  eq4 : ∀ w, Calls Tryd.prog 13 #[.agg #[.float .f32 m0, .float .f32 m1, .float .f32 m2], .agg #[.float .f32 x0, .float .f32 x1, .float .f32 x2]] w fun e w' => e = .returned (.bool true) ∧ Below w.heap.size w w'
  betw1 : ∀ w, Calls Tryd.prog 19 #[.agg #[.float .f32 x0, .float .f32 x1, .float .f32 x2], .agg #[.float .f32 y0, .float .f32 y1, .float .f32 y2], .float .f32 1065353216] w fun e w' => e = .returned (.agg #[.float .f32 n0, .float .f32 n1, .float .f32 n2]) ∧ Below w.heap.size w w'
  eq5 : ∀ w, Calls Tryd.prog 13 #[.agg #[.float .f32 n0, .float .f32 n1, .float .f32 n2], .agg #[.float .f32 y0, .float .f32 y1, .float .f32 y2]] w fun e w' => e = .returned (.bool true) ∧ Below w.heap.size w w'
  z1 : Eq32 i 0
  z2 : Eq32 j 0
  z3 : Eq32 q q

theorem vecRun {x0 x1 x2 y0 y1 y2 : Nat} {a b c a' b' c' : Int} (hx : IV x0 x1 x2 a b c 50) (hy : IV y0 y1 y2 a' b' c' 50) :
    ∃ c0 c1 c2 d0 d1 d2 l0 l1 l2 b0 b1 b2 t0 t1 t2 e0 e1 e2 s0 s1 s2 m0 m1 m2 n0 n1 n2 i j q r, VecRun x0 x1 x2 y0 y1 y2 c0 c1 c2 d0 d1 d2 l0 l1 l2 b0 b1 b2 t0 t1 t2 e0 e1 e2 s0 s1 s2 m0 m1 m2 n0 n1 n2 i j q r := by
  have h1 := icross hx hy (by decide)
  have h2 := icross hy hx (by decide)
  have h3 := ilessv hx hy (by decide)
  have h4 := iaddv hy h3.2 (by decide)
  have h5 := iscalev hx i2 (by decide)
  have h6 := iinner h1.2 hx (by decide)
  have h7 := iinner h1.2 hy (by decide)
  have h8 := iscalev h2.2 im1 (by decide)
  have h9 := iaddv hx hx (by decide)
  have h10 := iinner hx hx (by decide)
  have h11 := isquare hx (by decide)
  have h12 := iroot h10.2 (Int.add_nonneg (Int.add_nonneg (sq_nn a) (sq_nn b)) (sq_nn c)) (by decide)
  have h13 := ibetween hx hy i0 (by decide) (by decide)
  have h14 := ibetween hx hy i1 (by decide) (by decide)
  repeat apply Exists.intro
  exact {
    cross := impl_CrossOf_c h1.1
    cross2 := impl_CrossOf_c h2.1
    less := impl_LessVectors_c h3.1
    back := impl_AddVectors_c h4.1
    twice := impl_ScaleVector_c h5.1
    eq1 := vEqual_c (h4.2.x.eq hx.x (by omega)) (h4.2.y.eq hx.y (by omega)) (h4.2.z.eq hx.z (by omega))
    inner1 := impl_InnerOf_c h6.1
    inner2 := impl_InnerOf_c h7.1
    opp := impl_ScaleVector_c h8.1
    eq2 := vEqual_c (h1.2.x.eq h8.2.x (by rw [Int.mul_comm c' b, Int.mul_comm b' c]; omega)) (h1.2.y.eq h8.2.y (by rw [Int.mul_comm c' a, Int.mul_comm a' c]; omega)) (h1.2.z.eq h8.2.z (by rw [Int.mul_comm b' a, Int.mul_comm a' b]; omega))
    add2 := impl_AddVectors_c h9.1
    eq3 := vEqual_c (h5.2.x.eq h9.2.x (by omega)) (h5.2.y.eq h9.2.y (by omega)) (h5.2.z.eq h9.2.z (by omega))
    inner3 := impl_InnerOf_c h10.1
    square := laws_b10Square_c h11.1
    size := impl_SizeOfVector_c ⟨h10.1, h12.1⟩
    root := spec_RootNumber_c h12.2.1
    same := specSameW_c h12.2.2
    betw0 := impl_BetweenVectors_c h13.1
    eq4 := vEqual_c (h13.2.x.eq hx.x (by omega)) (h13.2.y.eq hx.y (by omega)) (h13.2.z.eq hx.z (by omega))
    betw1 := impl_BetweenVectors_c h14.1
    eq5 := vEqual_c (h14.2.x.eq hy.x (by omega)) (h14.2.y.eq hy.y (by omega)) (h14.2.z.eq hy.z (by omega))
    z1 := h6.2.eq i0 (by grind)
    z2 := h7.2.eq i0 (by grind)
    z3 := h10.2.eq h10.2 rfl }
end Go.Proofs.YtglnfccglgladaaDoor
