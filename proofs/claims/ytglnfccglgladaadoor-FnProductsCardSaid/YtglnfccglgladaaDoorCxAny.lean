/-
  Complex numbers widened and narrowed; whole numbers in the law of products; texts of lists of complex numbers read back.
-/
import Derived.Test.YtglnfccglgladaaDoorCxRun
import Derived.Test.YtglnfccglgladaaDoorFnVec
namespace Go.Proofs.YtglnfccglgladaaDoor
open Go.RowKit Ieee
set_option linter.unusedVariables false

/-- What a word becomes in double precision: the same number, or a not-a-number. -/
def Back (p x : Nat) : Prop := ((∃ s t, FloatKind.f64.format.read p = .nan s t) ∧ nan32 x = true) ∨ floatToFloatBits .f64 p .f32 = some x

theorem sameN_refl (x : Nat) : sameN x x = true := by
  unfold sameN
  cases nan32 x <;> simp
theorem sameN_nans {x y : Nat} (hx : nan32 x = true) (hy : nan32 y = true) : sameN x y = true := by
  unfold sameN
  simp [hx, hy]
theorem neg_neg32 (x : Nat) : Op.negFloat .f32 (Op.negFloat .f32 x) = x := by
  unfold Op.negFloat
  rw [Nat.xor_assoc, Nat.xor_self, Nat.xor_zero]

/-- A word widened. -/
theorem widen_run {x : Nat} (hx : W32 x) : (∃ p, Back p x ∧ ∀ w, (convert 24 65 (.float .f32 x)).run Tryd.prog w = .ok (.float .f64 p) w) ∨
    (∃ q, AsksNan .f64 q ∧ nan32 x = true ∧ ∀ w, (convert 24 65 (.float .f32 x)).run Tryd.prog w = .ok (.float .f64 (nanOf q w)) w.drew) := by
  cases hn : nan32 x with
  | false =>
    left
    obtain ⟨y, h1, h2⟩ := wide_back hx hn
    exact ⟨y, Or.inr h2, fun w => run_convert_float_float w _ _ .f32 .f64 x y (by rw [Tryd.underlying24]; rfl) Tryd.underlying65 h1⟩
  | true =>
    right
    obtain ⟨s, t, h⟩ := nan32_iff.1 hn
    exact ⟨.nanConv .f64 x, Or.inr ⟨x, rfl⟩, rfl, run_conv_nan (by decide) h _ _ (by rw [Tryd.underlying24]; rfl) Tryd.underlying65⟩
theorem back_nan {q : Question} (h : AsksNan .f64 q) {x : Nat} (hn : nan32 x = true) (w : World) : Back (nanOf q w) x := Or.inl ⟨nanOf_read64 h w, hn⟩
/-- Narrowed again. -/
theorem narrow_run {p x : Nat} (hx : W32 x) (hp : Back p x) : (∀ w, (convert 65 24 (.float .f64 p)).run Tryd.prog w = .ok (.float .f32 x) w) ∨
    (∃ q, AsksNan .f32 q ∧ nan32 x = true ∧ ∀ w, (convert 65 24 (.float .f64 p)).run Tryd.prog w = .ok (.float .f32 (nanOf q w)) w.drew) := by
  rcases hp with ⟨⟨s, t, h⟩, hn⟩ | h
  · right
    exact ⟨.nanConv .f32 p, Or.inr ⟨p, rfl⟩, hn, run_conv_nan (by decide) h _ _ (by rw [Tryd.underlying65]; rfl) Tryd.underlying24⟩
  · left
    exact fun w => run_convert_float_float w _ _ .f64 .f32 p x (by rw [Tryd.underlying65]; rfl) Tryd.underlying24 h

theorem narrowC_c {p q x y : Nat} (hx : W32 x) (hy : W32 y) (hp : Back p x) (hq : Back q y) (w : World) : Calls Tryd.prog 46 #[.complex .f64 p q] w fun e w' =>
    (∃ x' y', e = .returned (.complex .f32 x' y') ∧ sameN x' x = true ∧ sameN y' y = true) ∧ Below w.heap.size w w' := by
  rcases narrow_run hx hp with h1 | ⟨q1, k1, n1, h1⟩ <;> rcases narrow_run hy hq with h2 | ⟨q2, k2, n2, h2⟩
  · go_enter Tryd.func46, Tryd.ntmps46
    go_wp2
    go_ret
    exact ⟨⟨x, y, rfl, sameN_refl _, sameN_refl _⟩, Below.refl _ _⟩
  · go_enter Tryd.func46, Tryd.ntmps46
    go_wp2
    go_ret
    exact ⟨⟨_, _, rfl, sameN_refl _, sameN_nans (nanOf_nan32 k2 _) n2⟩, (Below.refl _ _).drew⟩
  · go_enter Tryd.func46, Tryd.ntmps46
    go_wp2
    go_ret
    exact ⟨⟨_, _, rfl, sameN_nans (nanOf_nan32 k1 _) n1, sameN_refl _⟩, (Below.refl _ _).drew⟩
  · go_enter Tryd.func46, Tryd.ntmps46
    go_wp2
    go_ret
    exact ⟨⟨_, _, rfl, sameN_nans (nanOf_nan32 k1 _) n1, sameN_nans (nanOf_nan32 k2 _) n2⟩, (Below.refl _ _).drew.drew⟩

structure IntRun (a b c d ac bd ad bc aa bb X Y Z : Int) (fX fY fP : Nat) : Prop where
  m1 : wrap64 (a * c) = ac
  m2 : wrap64 (b * d) = bd
  m3 : wrap64 (a * d) = ad
  m4 : wrap64 (b * c) = bc
  m5 : wrap64 (a * a) = aa
  m6 : wrap64 (b * b) = bb
  s1 : wrap64 (ac - bd) = X
  s2 : wrap64 (ad + bc) = Y
  s3 : wrap64 (aa + bb) = Z
  c1 : floatOfInt .f32 X = fX
  c2 : floatOfInt .f32 Y = fY
  c3 : floatOfInt .f32 Z = fP

theorem mul_in {a b : Int} (ha : -200 ≤ a ∧ a ≤ 200) (hb : -200 ≤ b ∧ b ≤ 200) : -40000 ≤ a * b ∧ a * b ≤ 40000 := by
  have h : (a * b).natAbs ≤ 200 * 200 := by rw [Int.natAbs_mul]; exact Nat.mul_le_mul (by omega) (by omega)
  omega
theorem intRun {a b c d X Y Z : Int} {fX fY fP : Nat} (ha : -200 ≤ a ∧ a ≤ 200) (hb : -200 ≤ b ∧ b ≤ 200) (hc : -200 ≤ c ∧ c ≤ 200) (hd : -200 ≤ d ∧ d ≤ 200)
    (hX : X = a * c - b * d) (hY : Y = a * d + b * c) (hZ : Z = a * a + b * b) (fx : fX = floatOfInt .f32 X) (fy : fY = floatOfInt .f32 Y) (fz : fP = floatOfInt .f32 Z) :
    ∃ ac bd ad bc aa bb, IntRun a b c d ac bd ad bc aa bb X Y Z fX fY fP := by
  have h1 := mul_in ha hc
  have h2 := mul_in hb hd
  have h3 := mul_in ha hd
  have h4 := mul_in hb hc
  have h5 := mul_in ha ha
  have h6 := mul_in hb hb
  refine ⟨a * c, b * d, a * d, b * c, a * a, b * b, ?_⟩
  exact {
    m1 := IntWalk.wrap64_in _ (by omega)
    m2 := IntWalk.wrap64_in _ (by omega)
    m3 := IntWalk.wrap64_in _ (by omega)
    m4 := IntWalk.wrap64_in _ (by omega)
    m5 := IntWalk.wrap64_in _ (by omega)
    m6 := IntWalk.wrap64_in _ (by omega)
    s1 := by rw [hX]; exact IntWalk.wrap64_in _ (by omega)
    s2 := by rw [hY]; exact IntWalk.wrap64_in _ (by omega)
    s3 := by rw [hZ]; exact IntWalk.wrap64_in _ (by omega)
    c1 := fx.symm
    c2 := fy.symm
    c3 := fz.symm }

theorem b10same_nil (A B : Option Addr) (c d : Nat) (w : World) : Calls Tryd.prog 44 #[.slice A 0 c, .slice B 0 d] w fun e w' => e = .returned (.bool true) ∧ Below w.heap.size w w' := by
  go_enter Tryd.func44, Tryd.ntmps44
  go_wp2
  refine wp_loop_rounds 1 ?_
  rw [rounds_succ]
  go_wp2
  go_ret
  exact ⟨rfl, Below.refl _ _⟩

theorem complexText_any {w : World} {v : Value} {ps : List (Nat × Nat)} (hv : VList w v (ps.map cxV)) (h32 : ∀ p ∈ ps, Cx32 p) (hl : ps.length ≤ 100) :
    Calls Tryd.prog 38 #[v] w fun e w' => e = .returned (.tuple #[.string (cxText ps), .bool true]) ∧ Below w.heap.size w w' := by
  obtain ⟨a, c, rfl, hp⟩ := hv
  rw [List.length_map] at hp ⊢
  cases hps : ps with
  | nil => exact complexText_nil a c w
  | cons p r =>
    rw [← hps]
    obtain ⟨b, rfl, hb, hc⟩ := hp (by rw [hps]; simp)
    exact complexText_some hb hc h32 (by omega)
theorem readComplex_any {ps : List (Nat × Nat)} (h32 : ∀ p ∈ ps, Cx32 p) (hl : ps.length ≤ 100) {w : World} (hm : MaxLen w) :
    Calls Tryd.prog 39 #[.string (cxText ps)] w fun e w' => (∃ v, e = .returned (.tuple #[v, .bool true]) ∧ VList w' v (ps.map cxB)) ∧ Below w.heap.size w w' := by
  cases hps : ps with
  | nil =>
    refine (readComplex_none w).mono ?_
    rintro e w' ⟨⟨c, g, rfl⟩, hw⟩
    exact ⟨⟨_, rfl, ⟨_, _, rfl, fun h => by simp at h⟩⟩, hw⟩
  | cons p r =>
    rw [← hps]
    refine (readComplex_some (by rw [hps]; simp) h32 (by omega) hm).mono ?_
    rintro e w' ⟨⟨v, rfl, ho⟩, hw⟩
    exact ⟨⟨v, rfl, ho.list⟩, hw⟩
theorem b10same_any {w : World} {v1 v2 : Value} {ps : List (Nat × Nat)} (h1 : VList w v1 (ps.map cxB)) (h2 : VList w v2 (ps.map cxV)) (h32 : ∀ p ∈ ps, Cx32 p) (hl : ps.length ≤ 100) :
    Calls Tryd.prog 44 #[v1, v2] w fun e w' => e = .returned (.bool true) ∧ Below w.heap.size w w' := by
  obtain ⟨a1, c1, rfl, hp1⟩ := h1
  obtain ⟨a2, c2, rfl, hp2⟩ := h2
  rw [List.length_map] at hp1 hp2 ⊢
  rw [List.length_map]
  cases hps : ps with
  | nil => exact b10same_nil a1 a2 c1 c2 w
  | cons p r =>
    rw [← hps]
    have hpos : 0 < ps.length := by rw [hps]; simp
    obtain ⟨b1, rfl, hb1, hc1⟩ := hp1 hpos
    obtain ⟨b2, rfl, hb2, hc2⟩ := hp2 hpos
    have e1 : ps.map cxB = (ps.map fun p => (bitsOf p.1, bitsOf p.2)).map cxV := by
      rw [List.map_map]
      rfl
    have key := b10same_c (w := w) (b1 := b1) (b2 := b2) (c1 := c1) (c2 := c2) (ps := ps.map fun p => (bitsOf p.1, bitsOf p.2)) (qs := ps) (by simp) (by simp; omega)
      (by rw [← e1]; exact hc1) hc2 hb1 hb2 (by
        intro p hp
        obtain ⟨q, hq, rfl⟩ := List.mem_map.1 hp
        have := h32 q hq
        exact ⟨bitsOf_lt this.1, bitsOf_lt this.2⟩) h32 (by
        intro j h h'
        rw [List.getElem_map]
        exact ⟨bitsOf_idem _, bitsOf_idem _⟩)
    rw [List.length_map] at key
    exact key
end Go.Proofs.YtglnfccglgladaaDoor
