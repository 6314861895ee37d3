/-
  Bounds of floating point results: what is at most a power of two stays so when it is rounded; sums, products, quotients and roots of bounded numbers are valid, and bounded.
-/
import Derived.Test.YtglnfccglgladaaDoorWide
import Derived.Test.YtglnfccglgladaaDoorSmall
namespace Go.Proofs.YtglnfccglgladaaDoor
open Go Ieee
set_option linter.unusedVariables false

/-- m * 2 ^ e is at most 2 ^ K. -/
def LeP (m : Nat) (e : Int) (K : Nat) : Prop := ∃ j : Nat, -e ≤ j ∧ m * 2 ^ (e + j).toNat ≤ 2 ^ (K + j)
/-- m * 2 ^ e is at least 1. -/
def GeP (m : Nat) (e : Int) : Prop := ∃ j : Nat, -e ≤ j ∧ 2 ^ j ≤ m * 2 ^ (e + j).toNat

theorem LeP.at_ {m : Nat} {e : Int} {K : Nat} (h : LeP m e K) (j : Nat) (hj : -e ≤ j) : m * 2 ^ (e + j).toNat ≤ 2 ^ (K + j) := by
  obtain ⟨i, hi, h⟩ := h
  rcases Nat.le_total i j with hij | hij
  · have e1 : (e + j).toNat = (e + i).toNat + (j - i) := by omega
    have e2 : K + j = K + i + (j - i) := by omega
    rw [e1, e2, Nat.pow_add, Nat.pow_add 2 (K + i), ← Nat.mul_assoc]
    exact Nat.mul_le_mul_right _ h
  · have e1 : (e + i).toNat = (e + j).toNat + (i - j) := by omega
    have e2 : K + i = K + j + (i - j) := by omega
    rw [e1, e2, Nat.pow_add, Nat.pow_add 2 (K + j), ← Nat.mul_assoc] at h
    exact Nat.le_of_mul_le_mul_right h (Nat.two_pow_pos _)
theorem GeP.at_ {m : Nat} {e : Int} (h : GeP m e) (j : Nat) (hj : -e ≤ j) : 2 ^ j ≤ m * 2 ^ (e + j).toNat := by
  obtain ⟨i, hi, h⟩ := h
  rcases Nat.le_total i j with hij | hij
  · have e1 : (e + j).toNat = (e + i).toNat + (j - i) := by omega
    have e2 : 2 ^ j = 2 ^ i * 2 ^ (j - i) := by rw [← Nat.pow_add]; congr 1; omega
    rw [e1, e2, Nat.pow_add, ← Nat.mul_assoc]
    exact Nat.mul_le_mul_right _ h
  · have e1 : (e + i).toNat = (e + j).toNat + (i - j) := by omega
    have e2 : 2 ^ i = 2 ^ j * 2 ^ (i - j) := by rw [← Nat.pow_add]; congr 1; omega
    rw [e1, e2, Nat.pow_add, ← Nat.mul_assoc] at h
    exact Nat.le_of_mul_le_mul_right h (Nat.two_pow_pos _)
theorem LeP.mono {m : Nat} {e : Int} {K L : Nat} (h : LeP m e K) (hK : K ≤ L) : LeP m e L := by
  obtain ⟨j, hj, h⟩ := h
  exact ⟨j, hj, Nat.le_trans h (Nat.pow_le_pow_right (by omega) (by omega))⟩
theorem LeP.zero (e : Int) (K : Nat) : LeP 0 e K := ⟨(-e).toNat, by omega, by rw [Nat.zero_mul]; exact Nat.zero_le _⟩
theorem GeP.ne {m : Nat} {e : Int} (h : GeP m e) : m ≠ 0 := by
  rintro rfl
  obtain ⟨j, _, h⟩ := h
  rw [Nat.zero_mul] at h
  have := Nat.two_pow_pos j
  omega

theorem cut_le' (neg : Bool) (n d J : Nat) (h : n ≤ 2 ^ (J + d)) : Toward.even.cut neg n d ≤ 2 ^ J := by
  by_cases h0 : n = 0
  · subst h0
    have := cut_exact neg 0 d
    rw [Nat.zero_mul] at this
    rw [this]
    exact Nat.zero_le _
  · by_cases he : n = 2 ^ (J + d)
    · rw [he, Nat.pow_add, cut_exact]
      exact Nat.le_refl _
    · exact cut_le neg n d J h0 (by omega) (by omega)
theorem cut_ge (neg : Bool) (n d J : Nat) (h : 2 ^ (J + d) ≤ n) : 2 ^ J ≤ Toward.even.cut neg n d := by
  have hp := Nat.two_pow_pos (J + d)
  have hn : n ≠ 0 := by omega
  have hl : J + d ≤ n.log2 := (Nat.le_log2 hn).2 h
  unfold Toward.cut
  dsimp only
  rw [one_shl, Nat.min_eq_left (by omega)]
  have h1 : 2 ^ J ≤ n / 2 ^ d := by
    rw [Nat.le_div_iff_mul_le (Nat.two_pow_pos d), ← Nat.pow_add]
    exact h
  omega

/-- A rung read. -/
theorem read_rung (f : Format) (neg : Bool) (L kept : Nat) (hk : kept ≤ 2 * f.binade) (hL : L = 0 ∨ f.binade ≤ kept) (hr : L * f.binade + kept < f.infRung) :
    ∃ m' e' : Nat, f.read (f.word neg (L * f.binade + kept)) = .number neg m' (f.leastPlace + (e' : Int)) ∧ m' * 2 ^ e' = kept * 2 ^ L := by
  have hb := binade_pos f
  rw [read_word f neg _ hr]
  by_cases h1 : L * f.binade + kept < f.binade
  · have hL0 : L = 0 := by
      rcases hL with h | h
      · exact h
      · omega
    subst hL0
    rw [if_pos h1]
    exact ⟨kept, 0, by simp, by simp⟩
  · rw [if_neg h1]
    have hbk : f.binade ≤ kept := by
      rcases hL with h | h
      · subst h; omega
      · exact h
    by_cases h2 : kept = 2 * f.binade
    · have e1 : L * f.binade + kept = (L + 2) * f.binade := by rw [h2, Nat.add_mul]
      rw [e1, Nat.mul_mod_left, Nat.mul_div_cancel _ hb]
      refine ⟨f.binade, L + 1, ?_, ?_⟩
      · have : L + 2 - 1 = L + 1 := by omega
        rw [this, Nat.add_zero]
      · rw [h2, Nat.pow_succ]
        rw [Nat.mul_comm 2 f.binade, Nat.mul_assoc, Nat.mul_comm (2 ^ L) 2]
    · have hd : (L * f.binade + kept) / f.binade = L + 1 := by
        rw [Nat.add_comm, Nat.add_mul_div_right _ _ hb]
        have : kept / f.binade = 1 := by rw [Nat.div_eq_of_lt_le] <;> omega
        omega
      have hm : (L * f.binade + kept) % f.binade = kept - f.binade := by
        rw [Nat.add_comm, Nat.add_mul_mod_self_right, Nat.mod_eq_sub_mod hbk, Nat.mod_eq_of_lt (by omega)]
      rw [hd, hm]
      refine ⟨kept, L, ?_, rfl⟩
      have e1 : f.binade + (kept - f.binade) = kept := by omega
      have e2 : L + 1 - 1 = L := by omega
      rw [e1, e2]

/-- The format is wide enough for 2 ^ K. -/
structure Holds (f : Format) (K : Nat) : Prop where
  low : f.leastPlace + f.fractionBits ≤ 0
  high : (K : Int) - f.fractionBits - f.leastPlace + 3 < ((2 ^ f.exponentBits : Nat) : Int)
theorem holds64 {K : Nat} (h : K ≤ 1000) : Holds FloatKind.f64.format K := by
  have h1 : FloatKind.f64.format.leastPlace = -1074 := by decide
  have h2 : FloatKind.f64.format.fractionBits = 52 := by rfl
  have h3 : FloatKind.f64.format.exponentBits = 11 := by rfl
  exact ⟨by rw [h1, h2]; omega, by rw [h1, h2, h3]; omega⟩
theorem holds32 {K : Nat} (h : K ≤ 120) : Holds FloatKind.f32.format K := by
  have h1 : FloatKind.f32.format.leastPlace = -149 := by decide
  have h2 : FloatKind.f32.format.fractionBits = 23 := by rfl
  have h3 : FloatKind.f32.format.exponentBits = 8 := by rfl
  exact ⟨by rw [h1, h2]; omega, by rw [h1, h2, h3]; omega⟩

theorem LeP.log {m : Nat} {e : Int} {K : Nat} (h : LeP m e K) (h0 : m ≠ 0) : (m.log2 : Int) + e ≤ K := by
  obtain ⟨j, hj, h⟩ := h
  have h1 : 2 ^ (m.log2 + (e + j).toNat) ≤ 2 ^ (K + j) := by
    rw [Nat.pow_add]
    exact Nat.le_trans (Nat.mul_le_mul_right _ (Nat.log2_self_le h0)) h
  have := (Nat.pow_le_pow_iff_right (by omega : 1 < 2)).1 h1
  omega
theorem GeP.log {m : Nat} {e : Int} (h : GeP m e) : 0 ≤ (m.log2 : Int) + e := by
  obtain ⟨j, hj, h⟩ := h
  have h1 : m < 2 ^ (m.log2 + 1) := Nat.lt_log2_self
  have h2 : 2 ^ j < 2 ^ (m.log2 + 1 + (e + j).toNat) := by
    rw [Nat.pow_add 2 (m.log2 + 1)]
    exact Nat.lt_of_le_of_lt h (Nat.mul_lt_mul_of_pos_right h1 (Nat.two_pow_pos _))
  have := (Nat.pow_lt_pow_iff_right (by omega : 1 < 2)).1 h2
  omega

/-- Rounding keeps the bounds and the sign. -/
theorem nearest_bd (f : Format) (neg : Bool) (m : Nat) (p : Int) (K : Nat) (hf : Holds f K) (h : LeP m p K) :
    ∃ m' e', f.read (f.nearest neg m p) = .number neg m' e' ∧ LeP m' e' K ∧ (GeP m p → GeP m' e') := by
  have hlow := hf.low
  have hhigh := hf.high
  have hb := binade_pos f
  have hbF : f.binade = 2 ^ f.fractionBits := rfl
  by_cases h0 : m = 0
  · subst h0
    have e : f.nearest neg 0 p = f.word neg 0 := by simp [Format.nearest]
    have hr : 0 < f.infRung := by
      unfold Format.infRung
      exact Nat.mul_pos (by omega) hb
    rw [e, read_word f neg 0 hr, if_pos hb]
    exact ⟨_, _, rfl, LeP.zero _ _, fun h => absurd rfl h.ne⟩
  · have hlg := h.log h0
    unfold Format.nearest
    rw [if_neg h0]
    dsimp only
    generalize hl : max (p + (m.log2 : Int) - (f.fractionBits : Int)) f.leastPlace = last
    have hl2 : f.leastPlace ≤ last := by omega
    have hlK : last ≤ K := by omega
    have hself : 2 ^ m.log2 ≤ m := Nat.log2_self_le h0
    have hself2 : m < 2 ^ (m.log2 + 1) := Nat.lt_log2_self
    -- the number in units of 2 ^ last
    have hkept : Toward.even.cut neg (m <<< (p - last).toNat) (last - p).toNat ≤ 2 ^ ((K : Int) - last).toNat := by
      refine cut_le' neg _ _ _ ?_
      rw [Nat.shiftLeft_eq]
      have key := h.at_ ((-last).toNat + (-p).toNat) (by omega)
      rcases Int.le_total last 0 with hn | hn
      · rcases Int.le_total last p with hc | hc
        · have e1 : (last - p).toNat = 0 := by omega
          rw [e1, Nat.add_zero]
          have e2 : (p + (((-last).toNat + (-p).toNat : Nat) : Int)).toNat = (p - last).toNat + (-p).toNat := by omega
          have e3 : K + ((-last).toNat + (-p).toNat) = ((K : Int) - last).toNat + (-p).toNat := by omega
          rw [e2, e3, Nat.pow_add, Nat.pow_add 2 ((K : Int) - last).toNat, ← Nat.mul_assoc] at key
          exact Nat.le_of_mul_le_mul_right key (Nat.two_pow_pos _)
        · have e1 : (p - last).toNat = 0 := by omega
          rw [e1, Nat.pow_zero, Nat.mul_one]
          have e2 : (p + (((-last).toNat + (-p).toNat : Nat) : Int)).toNat = (-last).toNat := by omega
          have e3 : K + ((-last).toNat + (-p).toNat) = ((K : Int) - last).toNat + (last - p).toNat + (-last).toNat := by omega
          rw [e2, e3, Nat.pow_add 2 (((K : Int) - last).toNat + (last - p).toNat)] at key
          exact Nat.le_of_mul_le_mul_right key (Nat.two_pow_pos _)
      · rcases Int.le_total last p with hc | hc
        · have e1 : (last - p).toNat = 0 := by omega
          rw [e1, Nat.add_zero]
          have e2 : (p + (((-last).toNat + (-p).toNat : Nat) : Int)).toNat = (p - last).toNat + last.toNat := by omega
          have e3 : K + ((-last).toNat + (-p).toNat) = ((K : Int) - last).toNat + last.toNat := by omega
          rw [e2, e3, Nat.pow_add, Nat.pow_add 2 ((K : Int) - last).toNat, ← Nat.mul_assoc] at key
          exact Nat.le_of_mul_le_mul_right key (Nat.two_pow_pos _)
        · have e1 : (p - last).toNat = 0 := by omega
          rw [e1, Nat.pow_zero, Nat.mul_one]
          have e3 : K + ((-last).toNat + (-p).toNat) = ((K : Int) - last).toNat + (last - p).toNat + (p + (((-last).toNat + (-p).toNat : Nat) : Int)).toNat := by omega
          rw [e3, Nat.pow_add 2 (((K : Int) - last).toNat + (last - p).toNat)] at key
          exact Nat.le_of_mul_le_mul_right key (Nat.two_pow_pos _)
    have hk2 : Toward.even.cut neg (m <<< (p - last).toNat) (last - p).toNat ≤ 2 ^ (f.fractionBits + 1) := by
      refine cut_le' neg _ _ _ ?_
      rw [Nat.shiftLeft_eq]
      have : m * 2 ^ (p - last).toNat < 2 ^ (m.log2 + 1 + (p - last).toNat) := by
        rw [Nat.pow_add]
        exact Nat.mul_lt_mul_of_pos_right hself2 (Nat.two_pow_pos _)
      exact Nat.le_of_lt (Nat.lt_of_lt_of_le this (Nat.pow_le_pow_right (by omega) (by omega)))
    have hk3 : (last - f.leastPlace).toNat = 0 ∨ f.binade ≤ Toward.even.cut neg (m <<< (p - last).toNat) (last - p).toNat := by
      by_cases hz : last = f.leastPlace
      · left; omega
      · right
        rw [hbF]
        refine cut_ge neg _ _ _ ?_
        rw [Nat.shiftLeft_eq]
        have e1 : 2 ^ (f.fractionBits + (last - p).toNat) = 2 ^ m.log2 * 2 ^ (p - last).toNat ∨ 2 ^ (f.fractionBits + (last - p).toNat) ≤ 2 ^ m.log2 * 2 ^ (p - last).toNat := by
          right
          rw [← Nat.pow_add]
          exact Nat.pow_le_pow_right (by omega) (by omega)
        rcases e1 with e | e
        · rw [e]; exact Nat.mul_le_mul_right _ hself
        · exact Nat.le_trans e (Nat.mul_le_mul_right _ hself)
    have hge : GeP m p → 2 ^ (-last).toNat ≤ Toward.even.cut neg (m <<< (p - last).toNat) (last - p).toNat := by
      intro hg
      refine cut_ge neg _ _ _ ?_
      rw [Nat.shiftLeft_eq]
      have hlog := hg.log
      refine Nat.le_trans ?_ (Nat.mul_le_mul_right _ hself)
      rw [← Nat.pow_add]
      exact Nat.pow_le_pow_right (by omega) (by omega)
    generalize Toward.even.cut neg (m <<< (p - last).toNat) (last - p).toNat = kept at *
    have hlastK : (last - f.leastPlace).toNat = 0 ∨ last + f.fractionBits ≤ K := by
      by_cases hz : last = f.leastPlace
      · left; omega
      · right; omega
    have hrung : (last - f.leastPlace).toNat * f.binade + kept < f.infRung := by
      have h1 : (last - f.leastPlace).toNat * f.binade + kept ≤ ((last - f.leastPlace).toNat + 2) * f.binade := by
        rw [Nat.add_mul, hbF]
        rw [Nat.pow_succ] at hk2
        omega
      refine Nat.lt_of_le_of_lt h1 ?_
      unfold Format.infRung
      refine Nat.mul_lt_mul_of_pos_right ?_ hb
      omega
    rw [Nat.min_eq_left (Nat.le_of_lt hrung)]
    obtain ⟨m', e', hrd, hv⟩ := read_rung f neg (last - f.leastPlace).toNat kept (by rw [hbF]; rw [Nat.pow_succ] at hk2; omega) hk3 hrung
    refine ⟨m', _, hrd, ⟨(-f.leastPlace).toNat, by omega, ?_⟩, fun hg => ⟨(-f.leastPlace).toNat, by omega, ?_⟩⟩
    · have e1 : (f.leastPlace + (e' : Int) + ((-f.leastPlace).toNat : Int)).toNat = e' := by omega
      rw [e1, hv]
      have e2 : K + (-f.leastPlace).toNat = ((K : Int) - last).toNat + (last - f.leastPlace).toNat := by omega
      rw [e2, Nat.pow_add]
      exact Nat.mul_le_mul_right _ hkept
    · have e1 : (f.leastPlace + (e' : Int) + ((-f.leastPlace).toNat : Int)).toNat = e' := by omega
      rw [e1, hv]
      refine Nat.le_trans ?_ (Nat.mul_le_mul_right _ (hge hg))
      rw [← Nat.pow_add]
      exact Nat.pow_le_pow_right (by omega) (by omega)
end Go.Proofs.YtglnfccglgladaaDoor
