/-
  Sums, products, quotients and roots of bounded numbers: valid, and bounded.
-/
import Derived.Test.YtglnfccglgladaaDoorBd
namespace Go.Proofs.YtglnfccglgladaaDoor
open Go Ieee
set_option linter.unusedVariables false

/-- A finite number of at most 2 ^ K. -/
def Bd (k : FloatKind) (b K : Nat) : Prop := ∃ s m e, k.format.read b = .number s m e ∧ LeP m e K
/-- A number that has no sign. -/
def Nn (k : FloatKind) (b : Nat) : Prop := ∃ m e, k.format.read b = .number false m e
/-- A number of at least 1. -/
def Ge1 (k : FloatKind) (b : Nat) : Prop := ∃ m e, k.format.read b = .number false m e ∧ GeP m e
theorem Ge1.nn {k : FloatKind} {b : Nat} (h : Ge1 k b) : Nn k b := by obtain ⟨m, e, h, _⟩ := h; exact ⟨m, e, h⟩
theorem Bd.mono {k : FloatKind} {b K L : Nat} (h : Bd k b K) (hK : K ≤ L) : Bd k b L := by obtain ⟨s, m, e, h, hl⟩ := h; exact ⟨s, m, e, h, hl.mono hK⟩

theorem natAbs_signed (s : Bool) (m a : Nat) : (signed s m a).natAbs = m <<< a := by
  cases s
  · exact Int.natAbs_natCast _
  · exact (Int.natAbs_neg _).trans (Int.natAbs_natCast _)
theorem write_num (f : Format) (s : Bool) (m : Nat) (e : Int) : f.write (.number s m e) = f.nearest s m e := rfl

theorem sum_bd (k : FloatKind) {s t : Bool} {m n : Nat} {i j : Int} {K : Nat} (hf : Holds k.format (K + 1)) (hm : LeP m i K) (hn : LeP n j K) :
    ∃ sg T base, (Datum.number s m i).sum (.number t n j) = some (.number sg T base) ∧ LeP T base (K + 1) ∧ (s = false → t = false → sg = false ∧ (GeP m i → GeP T base)) := by
  refine ⟨_, _, _, rfl, ?_, ?_⟩
  · refine ⟨(-i).toNat + (-j).toNat, by omega, ?_⟩
    have h1 := hm.at_ ((-i).toNat + (-j).toNat) (by omega)
    have h2 := hn.at_ ((-i).toNat + (-j).toNat) (by omega)
    have e1 : (m <<< (i - min i j).toNat) * 2 ^ (min i j + (((-i).toNat + (-j).toNat : Nat) : Int)).toNat = m * 2 ^ (i + (((-i).toNat + (-j).toNat : Nat) : Int)).toNat := by
      rw [Nat.shiftLeft_eq, Nat.mul_assoc, ← Nat.pow_add]
      congr 2
      omega
    have e2 : (n <<< (j - min i j).toNat) * 2 ^ (min i j + (((-i).toNat + (-j).toNat : Nat) : Int)).toNat = n * 2 ^ (j + (((-i).toNat + (-j).toNat : Nat) : Int)).toNat := by
      rw [Nat.shiftLeft_eq, Nat.mul_assoc, ← Nat.pow_add]
      congr 2
      omega
    have h3 : (signed s m (i - min i j).toNat + signed t n (j - min i j).toNat).natAbs ≤ m <<< (i - min i j).toNat + n <<< (j - min i j).toNat := by
      refine Nat.le_trans (Int.natAbs_add_le _ _) ?_
      rw [natAbs_signed, natAbs_signed]
      exact Nat.le_refl _
    refine Nat.le_trans (Nat.mul_le_mul_right _ h3) ?_
    rw [Nat.add_mul, e1, e2]
    have e3 : K + 1 + ((-i).toNat + (-j).toNat) = K + ((-i).toNat + (-j).toNat) + 1 := by omega
    rw [e3, Nat.pow_succ]
    omega
  · rintro rfl rfl
    have hs : signed false m (i - min i j).toNat + signed false n (j - min i j).toNat = ((m <<< (i - min i j).toNat + n <<< (j - min i j).toNat : Nat) : Int) := by
      unfold signed
      simp
    rw [hs]
    refine ⟨?_, fun hg => ?_⟩
    · split
      · rfl
      · exact decide_eq_false (Int.not_lt.2 (Int.natCast_nonneg _))
    · rw [Int.natAbs_natCast]
      refine ⟨(-i).toNat + (-j).toNat, by omega, ?_⟩
      have h1 := hg.at_ ((-i).toNat + (-j).toNat) (by omega)
      have e1 : (m <<< (i - min i j).toNat) * 2 ^ (min i j + (((-i).toNat + (-j).toNat : Nat) : Int)).toNat = m * 2 ^ (i + (((-i).toNat + (-j).toNat : Nat) : Int)).toNat := by
        rw [Nat.shiftLeft_eq, Nat.mul_assoc, ← Nat.pow_add]
        congr 2
        omega
      rw [Nat.add_mul, e1]
      omega

theorem add_bd (k : FloatKind) {x y K : Nat} (hf : Holds k.format (K + 1)) (hx : Bd k x K) (hy : Bd k y K) :
    ∃ r, floatBits .add k x y = some r ∧ Bd k r (K + 1) ∧ (Nn k x → Nn k y → Nn k r) ∧ (Ge1 k x → Nn k y → Ge1 k r) := by
  obtain ⟨s, m, i, hx, hm⟩ := hx
  obtain ⟨t, n, j, hy, hn⟩ := hy
  obtain ⟨sg, T, base, he, hT, hs⟩ := sum_bd k hf (s := s) (t := t) hm hn
  obtain ⟨m', e', hr, hl, hg⟩ := nearest_bd k.format sg T base (K + 1) hf hT
  refine ⟨_, ?_, ⟨sg, m', e', hr, hl⟩, ?_, ?_⟩
  · show ((k.format.read x).sum (k.format.read y)).map k.format.write = _
    rw [hx, hy, he]
    rfl
  · rintro ⟨_, _, h1⟩ ⟨_, _, h2⟩
    rw [hx] at h1
    rw [hy] at h2
    cases h1
    cases h2
    obtain ⟨rfl, _⟩ := hs rfl rfl
    exact ⟨_, _, hr⟩
  · rintro ⟨_, _, h1, hg1⟩ ⟨_, _, h2⟩
    rw [hx] at h1
    rw [hy] at h2
    cases h1
    cases h2
    obtain ⟨rfl, h3⟩ := hs rfl rfl
    exact ⟨_, _, hr, hg (h3 hg1)⟩
theorem sub_bd (k : FloatKind) {x y K : Nat} (hf : Holds k.format (K + 1)) (hx : Bd k x K) (hy : Bd k y K) :
    ∃ r, floatBits .sub k x y = some r ∧ Bd k r (K + 1) := by
  obtain ⟨s, m, i, hx, hm⟩ := hx
  obtain ⟨t, n, j, hy, hn⟩ := hy
  obtain ⟨sg, T, base, he, hT, hs⟩ := sum_bd k hf (s := s) (t := !t) hm hn
  obtain ⟨m', e', hr, hl, hg⟩ := nearest_bd k.format sg T base (K + 1) hf hT
  refine ⟨_, ?_, ⟨sg, m', e', hr, hl⟩⟩
  show ((k.format.read x).sum (k.format.read y).opposite).map k.format.write = _
  rw [hx, hy]
  show ((Datum.number s m i).sum (.number (!t) n j)).map _ = _
  rw [he]
  rfl
theorem LeP.mul {m n : Nat} {i j : Int} {K L : Nat} (hm : LeP m i K) (hn : LeP n j L) : LeP (m * n) (i + j) (K + L) := by
  obtain ⟨a, ha, hm⟩ := hm
  obtain ⟨b, hb, hn⟩ := hn
  refine ⟨a + b, by omega, ?_⟩
  have e1 : (i + j + ((a + b : Nat) : Int)).toNat = (i + a).toNat + (j + b).toNat := by omega
  have e2 : K + L + (a + b) = K + a + (L + b) := by omega
  rw [e1, e2, Nat.pow_add, Nat.pow_add 2 (K + a)]
  have : m * n * (2 ^ (i + a).toNat * 2 ^ (j + b).toNat) = m * 2 ^ (i + a).toNat * (n * 2 ^ (j + b).toNat) := by
    rw [Nat.mul_assoc, Nat.mul_assoc]
    congr 1
    rw [Nat.mul_left_comm]
  rw [this]
  exact Nat.mul_le_mul hm hn
theorem mul_bd (k : FloatKind) {x y K L : Nat} (hf : Holds k.format (K + L)) (hx : Bd k x K) (hy : Bd k y L) :
    ∃ r, floatBits .mul k x y = some r ∧ Bd k r (K + L) ∧ (Nn k x → Nn k y → Nn k r) := by
  obtain ⟨s, m, i, hx, hm⟩ := hx
  obtain ⟨t, n, j, hy, hn⟩ := hy
  obtain ⟨m', e', hr, hl, hg⟩ := nearest_bd k.format (s ^^ t) (m * n) (i + j) (K + L) hf (hm.mul hn)
  refine ⟨_, ?_, ⟨_, m', e', hr, hl⟩, ?_⟩
  · show ((k.format.read x).product (k.format.read y)).map k.format.write = _
    rw [hx, hy]
    rfl
  · rintro ⟨_, _, h1⟩ ⟨_, _, h2⟩
    rw [hx] at h1
    rw [hy] at h2
    cases h1
    cases h2
    exact ⟨_, _, hr⟩
/-- A square has no sign. -/
theorem square_bd (k : FloatKind) {x K : Nat} (hf : Holds k.format (K + K)) (hx : Bd k x K) :
    ∃ r, floatBits .mul k x x = some r ∧ Bd k r (K + K) ∧ Nn k r := by
  obtain ⟨s, m, i, hx, hm⟩ := hx
  obtain ⟨m', e', hr, hl, hg⟩ := nearest_bd k.format (s ^^ s) (m * m) (i + i) (K + K) hf (hm.mul hm)
  refine ⟨_, ?_, ⟨_, m', e', hr, hl⟩, ?_⟩
  · show ((k.format.read x).product (k.format.read x)).map k.format.write = _
    rw [hx]
    rfl
  · rw [Bool.xor_self] at hr ⊢
    exact ⟨_, _, hr⟩

/-- m * 2 ^ i is at most 2 ^ K times n * 2 ^ j. -/
def QLe (m : Nat) (i : Int) (n : Nat) (j : Int) (K : Nat) : Prop := ∃ J : Nat, -i ≤ J ∧ -j ≤ J ∧ m * 2 ^ (i + J).toNat ≤ 2 ^ K * (n * 2 ^ (j + J).toNat)
theorem quot_bd (k : FloatKind) {s t : Bool} {m n : Nat} {i j : Int} {K : Nat} (digits : Nat) (hn : n ≠ 0) (h : QLe m i n j K) :
    ∃ T base, (Datum.number s m i).quotient digits (.number t n j) = some (.number (s ^^ t) T base) ∧ LeP T base K := by
  by_cases h0 : m = 0
  · subst h0
    refine ⟨0, i - j - ((digits + n.log2 - Nat.log2 0 : Nat) : Int) - 1, ?_, LeP.zero _ _⟩
    simp [Datum.quotient, hn]
  · obtain ⟨J, hi, hj, h⟩ := h
    simp only [Datum.quotient, if_neg hn]
    generalize hmore : digits + n.log2 - m.log2 = more
    refine ⟨_, _, rfl, ?_⟩
    have l1 : 2 ^ m.log2 ≤ m := Nat.log2_self_le h0
    have l2 : n < 2 ^ (n.log2 + 1) := Nat.lt_log2_self
    have hlog : (m.log2 : Int) + i ≤ K + n.log2 + j := by
      have h1 : 2 ^ (m.log2 + (i + J).toNat) < 2 ^ (K + (n.log2 + 1 + (j + J).toNat)) := by
        rw [Nat.pow_add, Nat.pow_add 2 K, Nat.pow_add 2 (n.log2 + 1)]
        refine Nat.lt_of_le_of_lt (Nat.le_trans (Nat.mul_le_mul_right _ l1) h) ?_
        exact Nat.mul_lt_mul_of_pos_left (Nat.mul_lt_mul_of_pos_right l2 (Nat.two_pow_pos _)) (Nat.two_pow_pos _)
      have := (Nat.pow_lt_pow_iff_right (by omega : 1 < 2)).1 h1
      omega
    obtain ⟨A, hA⟩ : ∃ A : Nat, (A : Int) = K - (i - j - more) := ⟨((K : Int) - (i - j - more)).toNat, by omega⟩
    have hdiv : m <<< more ≤ n * 2 ^ A := by
      rw [Nat.shiftLeft_eq]
      have h2 : m * 2 ^ more * 2 ^ (i + J).toNat ≤ n * 2 ^ A * 2 ^ (i + J).toNat := by
        have e1 : m * 2 ^ more * 2 ^ (i + J).toNat = m * 2 ^ (i + J).toNat * 2 ^ more := by rw [Nat.mul_right_comm]
        have e2 : n * 2 ^ A * 2 ^ (i + J).toNat = 2 ^ K * (n * 2 ^ (j + J).toNat) * 2 ^ more := by
          rw [Nat.mul_left_comm, Nat.mul_assoc, ← Nat.pow_add, Nat.mul_assoc, ← Nat.pow_add, ← Nat.pow_add]
          congr 2
          omega
        rw [e1, e2]
        exact Nat.mul_le_mul_right _ h
      exact Nat.le_of_mul_le_mul_right h2 (Nat.two_pow_pos _)
    generalize m <<< more = dividend at *
    have hq : 2 * (dividend / n) + (dividend % n != 0).toNat ≤ 2 ^ (A + 1) := by
      have h1 : dividend / n ≤ 2 ^ A := Nat.div_le_of_le_mul hdiv
      have h2 := Nat.div_add_mod dividend n
      rw [Nat.pow_succ]
      by_cases hz : dividend % n = 0
      · simp only [hz, bne_self_eq_false, Bool.toNat_false]
        omega
      · have h3 : dividend / n < 2 ^ A := by
          refine Nat.lt_of_le_of_ne h1 (fun e => hz ?_)
          rw [e] at h2
          omega
        have : (dividend % n != 0).toNat ≤ 1 := by cases (dividend % n != 0) <;> simp
        omega
    refine ⟨(-(i - j - more - 1)).toNat, by omega, ?_⟩
    refine Nat.le_trans (Nat.mul_le_mul_right _ hq) ?_
    rw [← Nat.pow_add]
    exact Nat.pow_le_pow_right (by omega) (by omega)
theorem quo_bd' (k : FloatKind) {x y K : Nat} (hf : Holds k.format K) {s t : Bool} {m n : Nat} {i j : Int} (hx : k.format.read x = .number s m i) (hy : k.format.read y = .number t n j) (hn : n ≠ 0) (h : QLe m i n j K) :
    ∃ r, floatBits .quo k x y = some r ∧ Bd k r K := by
  obtain ⟨T, base, he, hT⟩ := quot_bd k (s := s) (t := t) (k.format.fractionBits + 2) hn h
  obtain ⟨m', e', hr, hl, hg⟩ := nearest_bd k.format (s ^^ t) T base K hf hT
  refine ⟨_, ?_, ⟨_, m', e', hr, hl⟩⟩
  show ((k.format.read x).quotient (k.format.fractionBits + 2) (k.format.read y)).map k.format.write = _
  rw [hx, hy, he]
  rfl
/-- Divided by at least 1. -/
theorem quo_bd (k : FloatKind) {x y K : Nat} (hf : Holds k.format K) (hx : Bd k x K) (hy : Ge1 k y) :
    ∃ r, floatBits .quo k x y = some r ∧ Bd k r K := by
  obtain ⟨s, m, i, hx, hm⟩ := hx
  obtain ⟨n, j, hy, hn⟩ := hy
  refine quo_bd' k hf hx hy hn.ne ⟨(-i).toNat + (-j).toNat, by omega, by omega, ?_⟩
  have h1 := hm.at_ ((-i).toNat + (-j).toNat) (by omega)
  have h2 := hn.at_ ((-i).toNat + (-j).toNat) (by omega)
  refine Nat.le_trans h1 ?_
  rw [Nat.pow_add]
  exact Nat.mul_le_mul_left _ h2

theorem rootFrom_sq (n : Nat) : ∀ todo root, root * root ≤ n → Datum.rootFrom n todo root * Datum.rootFrom n todo root ≤ n
  | 0, root, h => by simpa [Datum.rootFrom] using h
  | todo + 1, root, h => by
    unfold Datum.rootFrom
    dsimp only
    refine rootFrom_sq n todo _ ?_
    split
    · assumption
    · exact h
theorem sqrt_bd {x K : Nat} (hK : K ≤ 900) (hx : Bd .f64 x K) (hn : Nn .f64 x) : ∃ r, FloatKind.f64.format.sqrt x = some r ∧ Bd .f64 r K ∧ Nn .f64 r := by
  obtain ⟨s, m, i, hx, hm⟩ := hx
  obtain ⟨_, _, hx'⟩ := hn
  rw [hx] at hx'
  cases hx'
  unfold Format.sqrt
  rw [hx]
  unfold Datum.root
  dsimp only
  by_cases h0 : m = 0
  · rw [if_pos h0]
    subst h0
    obtain ⟨m', e', hr, hl, _⟩ := nearest_bd FloatKind.f64.format false 0 i K (holds64 (by omega)) (LeP.zero _ _)
    exact ⟨_, rfl, ⟨_, _, _, hr, hl⟩, ⟨_, _, hr⟩⟩
  · rw [if_neg h0, if_neg (by decide)]
    generalize hmore : 2 * (FloatKind.f64.format.fractionBits + 2) - m.log2 + ((i - ((2 * (FloatKind.f64.format.fractionBits + 2) - m.log2 : Nat) : Int)) % 2).toNat = more
    have hF : FloatKind.f64.format.fractionBits = 52 := rfl
    have hlg := hm.log h0
    obtain ⟨A, hA⟩ : ∃ A : Nat, (A : Int) = K - (i - more) / 2 := ⟨((K : Int) - (i - more) / 2).toNat, by omega⟩
    have heven : (i - (more : Int)) % 2 = 0 := by omega
    have hN : m <<< more ≤ 2 ^ A * 2 ^ A := by
      rw [Nat.shiftLeft_eq, ← Nat.pow_add]
      have h1 := hm.at_ ((-i).toNat) (by omega)
      have h2 : m * 2 ^ more * 2 ^ (i + ((-i).toNat : Nat)).toNat ≤ 2 ^ (A + A) * 2 ^ (i + ((-i).toNat : Nat)).toNat := by
        rw [Nat.mul_right_comm]
        refine Nat.le_trans (Nat.mul_le_mul_right _ h1) ?_
        rw [← Nat.pow_add, ← Nat.pow_add]
        exact Nat.pow_le_pow_right (by omega) (by omega)
      exact Nat.le_of_mul_le_mul_right h2 (Nat.two_pow_pos _)
    have hsq := rootFrom_sq (m <<< more) ((m <<< more).log2 / 2 + 1) 0 (by simp)
    generalize Datum.rootFrom (m <<< more) ((m <<< more).log2 / 2 + 1) 0 = whole at *
    generalize m <<< more = N at *
    have hw : whole ≤ 2 ^ A := by
      refine Decidable.byContradiction fun hc => ?_
      have hc : 2 ^ A < whole := by omega
      have : 2 ^ A * 2 ^ A < whole * whole := Nat.mul_lt_mul'' hc hc
      omega
    have hT : 2 * whole + (whole * whole != N).toNat ≤ 2 ^ (A + 1) := by
      rw [Nat.pow_succ]
      by_cases he : whole = 2 ^ A
      · have hz : whole * whole = N := by rw [he] at hsq ⊢; omega
        simp only [hz, bne_self_eq_false, Bool.toNat_false]
        omega
      · have : (whole * whole != N).toNat ≤ 1 := by cases (whole * whole != N) <;> simp
        omega
    have hLe : LeP (2 * whole + (whole * whole != N).toNat) ((i - more) / 2 - 1) K := by
      refine ⟨(-((i - more) / 2 - 1)).toNat, by omega, ?_⟩
      refine Nat.le_trans (Nat.mul_le_mul_right _ hT) ?_
      rw [← Nat.pow_add]
      exact Nat.pow_le_pow_right (by omega) (by omega)
    obtain ⟨m', e', hr, hl, _⟩ := nearest_bd FloatKind.f64.format false _ _ K (holds64 (by omega)) hLe
    exact ⟨_, rfl, ⟨_, _, _, hr, hl⟩, ⟨_, _, hr⟩⟩
/-- Narrowed, or widened. -/
theorem conv_bd (k k' : FloatKind) (hne : k ≠ k') {x K : Nat} (hf : Holds k'.format K) (hx : Bd k x K) : ∃ r, floatToFloatBits k x k' = some r ∧ Bd k' r K ∧ (Nn k x → Nn k' r) := by
  obtain ⟨s, m, i, hx, hm⟩ := hx
  obtain ⟨m', e', hr, hl, _⟩ := nearest_bd k'.format s m i K hf hm
  refine ⟨k'.format.nearest s m i, ?_, ⟨_, _, _, hr, hl⟩, ?_⟩
  · unfold floatToFloatBits
    rw [if_neg hne]
    unfold FloatKind.decode FloatKind.encode
    rw [hx]
    simp only [write_num, hr, Datum.isInfinity, Bool.false_eq_true, if_false]
  · rintro ⟨_, _, h⟩
    rw [hx] at h
    cases h
    exact ⟨_, _, hr⟩
end Go.Proofs.YtglnfccglgladaaDoor
