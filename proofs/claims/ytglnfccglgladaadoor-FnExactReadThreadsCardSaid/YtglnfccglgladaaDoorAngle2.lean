/-
  The angle of a point with finite coordinates: the words that the program computes. (No program in sight.)
-/
import Derived.Test.YtglnfccglgladaaDoorSub
import Derived.Test.YtglnfccglgladaaDoorNeg
namespace Go.Proofs.YtglnfccglgladaaDoor
open Go.RowKit Ieee
set_option linter.unusedVariables false

/-- A finite number widened. -/
theorem widen_num {x : Nat} (hx : W32 x) {s : Bool} {m : Nat} {e : Int} (h : FloatKind.f32.format.read x = .number s m e) :
    ∃ y m' e', floatToFloatBits .f32 x .f64 = some y ∧ FloatKind.f64.format.read y = .number s m' e' ∧ LeP m' e' 128 ∧ (m' = 0 ↔ m = 0) ∧ y < 18446744073709551616 := by
  have hl := num_bd hx h
  obtain ⟨m', e', hr, hl', _⟩ := nearest_bd FloatKind.f64.format s m e 128 (holds64 (by omega)) hl
  have hc : floatToFloatBits .f32 x .f64 = some (FloatKind.f64.format.nearest s m e) := by
    unfold floatToFloatBits
    rw [if_neg (by decide)]
    unfold FloatKind.decode FloatKind.encode
    rw [h]
    simp only [write_num, hr, Datum.isInfinity, Bool.false_eq_true, if_false]
  have hw : FloatKind.f64.format.nearest s m e < 18446744073709551616 := by
    have := floatToFloatBits_wf (src := .f32) (bits := x) (dst := .f64) (by simpa [Lit.wf, W32] using hx) hc
    simpa [Lit.wf] using this
  refine ⟨_, m', e', hc, hr, hl', ?_, hw⟩
  by_cases h0 : m = 0
  · subst h0
    have hz : FloatKind.f64.format.nearest s 0 e = FloatKind.f64.format.word s 0 := by simp [Format.nearest]
    have hrz := read_word FloatKind.f64.format s 0 (by decide)
    rw [if_pos (by decide), ← hz, hr] at hrz
    cases hrz
    simp
  · have hme : m < 2 ^ 24 ∧ -149 ≤ e ∧ e ≤ 104 := by
      rcases read32 hx with ⟨neg, r, hrr, rfl⟩ | ⟨neg, rfl⟩ | ⟨s', t, h'⟩
      · have hb : FloatKind.f32.format.binade = 8388608 := by decide
        have hlp : FloatKind.f32.format.leastPlace = -149 := by decide
        have hi : FloatKind.f32.format.infRung = 2139095040 := by decide
        have hw := read_word FloatKind.f32.format neg r hrr
        rw [hb, hlp] at hw
        rw [hi] at hrr
        split at hw
        · rw [h] at hw
          cases hw
          omega
        · rw [h] at hw
          cases hw
          omega
      · exact absurd h (read_inf .f32 neg s m e)
      · rw [h] at h'
        cases h'
    have hlo : FloatKind.f64.format.leastPlace + FloatKind.f64.format.fractionBits ≤ e := by
      have : FloatKind.f64.format.leastPlace + FloatKind.f64.format.fractionBits = -1022 := by decide
      omega
    have hhi : ((e - FloatKind.f64.format.leastPlace).toNat + 2) * FloatKind.f64.format.binade ≤ FloatKind.f64.format.infRung := by
      have h1 : FloatKind.f64.format.leastPlace = -1074 := by decide
      have h2 : FloatKind.f64.format.binade = 4503599627370496 := by decide
      have h3 : FloatKind.f64.format.infRung = 2047 * 4503599627370496 := by decide
      rw [h1, h2, h3]
      exact Nat.mul_le_mul_right _ (by omega)
    have hex := read_exact FloatKind.f64.format s m e h0 (Nat.lt_of_lt_of_le hme.1 (by decide)) hlo hhi
    rw [hr] at hex
    cases hex
    have := Nat.two_pow_pos (FloatKind.f64.format.fractionBits - m.log2)
    refine ⟨fun hz => ?_, fun hz => absurd hz h0⟩
    rcases Nat.mul_eq_zero.1 hz with h | h
    · exact h
    · omega
theorem abs_num {y : Nat} {s : Bool} {m : Nat} {e : Int} (h : FloatKind.f64.format.read y = .number s m e) : FloatKind.f64.format.read (y % 9223372036854775808) = .number false m e := by
  have hs : FloatKind.f64.format.signWeight = 9223372036854775808 := by decide
  unfold Format.read at h ⊢
  simp only [hs] at h ⊢
  have e1 : y % 9223372036854775808 % 9223372036854775808 = y % 9223372036854775808 := Nat.mod_mod _ _
  have e2 : y % 9223372036854775808 / 9223372036854775808 = 0 := Nat.div_eq_of_lt (Nat.mod_lt _ (by omega))
  rw [e1, e2]
  split at h
  · rename_i h1
    rw [if_pos h1]
    cases h
    rfl
  · rename_i h1
    rw [if_neg h1]
    split at h
    · rename_i h2
      rw [if_pos h2]
      cases h
      rfl
    · split at h <;> cases h
theorem quo_some {a b : Nat} {s t : Bool} {m n : Nat} {i j : Int} (ha : FloatKind.f64.format.read a = .number s m i) (hb : FloatKind.f64.format.read b = .number t n j) (h : ¬ (m = 0 ∧ n = 0)) : okf .quo .f64 a b := by
  unfold okf
  show (((FloatKind.f64.format.read a).quotient _ (FloatKind.f64.format.read b)).map _).isSome = true
  rw [ha, hb]
  simp only [Datum.quotient]
  split
  · rename_i hn
    rw [if_neg (fun hm => h ⟨hm, hn⟩)]
    rfl
  · rfl
theorem order_gt {a b : Nat} {m n : Nat} {i j : Int} (ha : FloatKind.f64.format.read a = .number false m i) (hb : FloatKind.f64.format.read b = .number false n j) :
    (FloatKind.f64.format.order a b = some .gt ∧ m ≠ 0 ∧ QLe n j m i 0) ∨ (¬ FloatKind.f64.format.order a b = some .gt ∧ QLe m i n j 0) := by
  have scale : ∀ (p q : Nat) (k l : Int), p * 2 ^ (k - min k l).toNat ≤ q * 2 ^ (l - min k l).toNat → QLe p k q l 0 := fun p q k l h => by
    refine ⟨(-k).toNat + (-l).toNat, by omega, by omega, ?_⟩
    have e1 : (k + (((-k).toNat + (-l).toNat : Nat) : Int)).toNat = (k - min k l).toNat + (min k l + (((-k).toNat + (-l).toNat : Nat) : Int)).toNat := by omega
    have e2 : (l + (((-k).toNat + (-l).toNat : Nat) : Int)).toNat = (l - min k l).toNat + (min k l + (((-k).toNat + (-l).toNat : Nat) : Int)).toNat := by omega
    rw [e1, e2, Nat.pow_add, Nat.pow_add, Nat.pow_zero, Nat.one_mul, ← Nat.mul_assoc, ← Nat.mul_assoc]
    exact Nat.mul_le_mul_right _ h
  have ho : FloatKind.f64.format.order a b = some (compare (((m * 2 ^ (i - min i j).toNat : Nat) : Int)) (((n * 2 ^ (j - min i j).toNat : Nat) : Int))) := by
    unfold Format.order
    rw [ha, hb]
    simp only [Datum.order]
    unfold signed
    rw [if_neg (by decide), if_neg (by decide), Nat.shiftLeft_eq, Nat.shiftLeft_eq]
  by_cases h : n * 2 ^ (j - min i j).toNat < m * 2 ^ (i - min i j).toNat
  · left
    refine ⟨?_, ?_, ?_⟩
    · rw [ho, Option.some.injEq, Int.compare_eq_gt]
      omega
    · rintro rfl
      rw [Nat.zero_mul] at h
      omega
    · refine scale _ _ _ _ ?_
      rw [Int.min_comm]
      exact Nat.le_of_lt h
  · right
    refine ⟨?_, scale _ _ _ _ (by omega)⟩
    rw [ho, Option.some.injEq, Int.compare_eq_gt]
    omega

abbrev eight64 : Nat := 4620693217682128896
abbrev tau64 : Nat := 4618760256179416344
abbrev quarter64 : Nat := 4598175219545276416
abbrev half64 : Nat := 4602678819172646912
theorem eight_bd : Bd .f64 eight64 3 := ⟨false, 4503599627370496, -49, by decide +kernel, 49, by decide, by decide +kernel⟩
theorem tau_ge : Ge1 .f64 tau64 := ⟨7074237752028440, -50, by decide +kernel, 50, by decide, by decide +kernel⟩
theorem quarter_bd : Bd .f64 quarter64 0 := ⟨false, 4503599627370496, -54, by decide +kernel, 54, by decide, by decide +kernel⟩
theorem half_bd : Bd .f64 half64 0 := ⟨false, 4503599627370496, -53, by decide +kernel, 53, by decide, by decide +kernel⟩

/-- The tangent that is halved. -/
structure AngD (a b t : Nat) : Prop where
  any : okf .quo .f64 a b
  gt : FloatKind.f64.format.order a b = some .gt → okf .quo .f64 b a ∧ fop .quo .f64 b a = t
  le : ¬ FloatKind.f64.format.order a b = some .gt → fop .quo .f64 a b = t
  bd : Bd .f64 t 0
theorem angD {a b : Nat} {m n : Nat} {i j : Int} (ha : FloatKind.f64.format.read a = .number false m i) (hb : FloatKind.f64.format.read b = .number false n j) (h : ¬ (m = 0 ∧ n = 0)) : ∃ t, AngD a b t := by
  rcases order_gt ha hb with ⟨hg, hm, hq⟩ | ⟨hg, hq⟩
  · obtain ⟨r, e, hr⟩ := quo_bd' .f64 (holds64 (by omega)) hb ha hm hq
    obtain ⟨k, f⟩ := okf_of e
    exact ⟨r, quo_some ha hb h, fun _ => ⟨k, f⟩, fun hn => absurd hg hn, hr⟩
  · have hn : n ≠ 0 := by
      rintro rfl
      obtain ⟨J, h1, h2, hq⟩ := hq
      rw [Nat.zero_mul, Nat.mul_zero] at hq
      have := Nat.two_pow_pos (i + J).toNat
      rcases Nat.mul_eq_zero.1 (Nat.le_zero.1 hq) with h' | h'
      · exact h ⟨h', rfl⟩
      · omega
    obtain ⟨r, e, hr⟩ := quo_bd' .f64 (holds64 (by omega)) ha hb hn hq
    obtain ⟨k, f⟩ := okf_of e
    exact ⟨r, k, fun h' => absurd h' hg, fun _ => f, hr⟩

/-- What the row of powers gives, and the angle up to its quadrant. -/
structure AngE (t u v0 v1 v2 v3 : Nat) : Prop where
  o1 : okf .mul .f64 (tSeq t 3) (tSeq t 3)
  e1 : fop .mul .f64 (tSeq t 3) (tSeq t 3) = u
  o2 : okf .mul .f64 (tSeq t 3) (pSeq u 8)
  e2 : fop .mul .f64 (tSeq t 3) (pSeq u 8) = v0
  o3 : okf .mul .f64 eight64 v0
  e3 : fop .mul .f64 eight64 v0 = v1
  o4 : okf .quo .f64 v1 tau64
  e4 : fop .quo .f64 v1 tau64 = v2
  o5 : okf .sub .f64 quarter64 v2
  e5 : fop .sub .f64 quarter64 v2 = v3
  b1 : Bd .f64 u 0
  b2 : Bd .f64 v2 12
  b3 : Bd .f64 v3 12
  w2 : v2 < 18446744073709551616
  w3 : v3 < 18446744073709551616
theorem angE {t : Nat} (h : Bd .f64 t 0) : ∃ u v0 v1 v2 v3, AngE t u v0 v1 v2 v3 := by
  have ht := tSeq_bd h 3
  obtain ⟨u, e1, b1, _⟩ := square_bd .f64 (holds64 (by omega)) ht
  obtain ⟨k1, f1⟩ := okf_of e1
  have hp := pSeq_bd b1 8 (by omega)
  obtain ⟨v0, e2, b2, _⟩ := mul_bd .f64 (holds64 (by omega)) ht hp
  obtain ⟨k2, f2⟩ := okf_of e2
  obtain ⟨v1, e3, b3, _⟩ := mul_bd .f64 (holds64 (by omega)) eight_bd b2
  obtain ⟨k3, f3⟩ := okf_of e3
  obtain ⟨v2, e4, b4⟩ := quo_bd .f64 (holds64 (by omega)) b3 tau_ge
  obtain ⟨k4, f4⟩ := okf_of e4
  obtain ⟨v3, e5, b5⟩ := sub_bd .f64 (K := 11) (holds64 (by omega)) (quarter_bd.mono (by omega)) b4
  obtain ⟨k5, f5⟩ := okf_of e5
  exact ⟨u, v0, v1, v2, v3, k1, f1, k2, f2, k3, f3, k4, f4, k5, f5, b1, b4.mono (by omega), b5, by simpa [Lit.wf] using floatBits_wf e4, by simpa [Lit.wf] using floatBits_wf e5⟩
/-- The quadrants. -/
structure AngF (v : Nat) (xneg yneg : Bool) (v4 v5 r : Nat) : Prop where
  o1 : okf .sub .f64 half64 v
  e1 : v4 = if xneg then fop .sub .f64 half64 v else v
  e2 : v5 = if yneg then Op.negFloat .f64 v4 else v4
  o3 : okc .f64 v5 .f32
  e3 : cop .f64 v5 .f32 = r
  w : W32 r
theorem neg_bd {k : FloatKind} {x K : Nat} (h : Bd k x K) : Bd k (Op.negFloat k x) K := by
  obtain ⟨s, m, e, hr, hl⟩ := h
  exact ⟨!s, m, e, by rw [read_neg, hr]; rfl, hl⟩
theorem angF {v : Nat} (h : Bd .f64 v 12) (hv : v < 18446744073709551616) (xneg yneg : Bool) : ∃ v4 v5 r, AngF v xneg yneg v4 v5 r := by
  obtain ⟨a, e1, b1⟩ := sub_bd .f64 (K := 12) (holds64 (by omega)) (half_bd.mono (by omega)) h
  obtain ⟨k1, f1⟩ := okf_of e1
  have b4 : Bd .f64 (if xneg then fop .sub .f64 half64 v else v) 13 := by
    cases xneg
    · exact h.mono (by omega)
    · simp only [if_true, f1]; exact b1
  have w4 : (if xneg then fop .sub .f64 half64 v else v) < 18446744073709551616 := by
    cases xneg
    · exact hv
    · simp only [if_true, f1]
      have := floatBits_wf e1
      simpa [Lit.wf] using this
  generalize hv4 : (if xneg then fop .sub .f64 half64 v else v) = v4 at *
  have b5 : Bd .f64 (if yneg then Op.negFloat .f64 v4 else v4) 13 := by
    cases yneg
    · exact b4
    · exact neg_bd b4
  have w5 : (if yneg then Op.negFloat .f64 v4 else v4) < 18446744073709551616 := by
    cases yneg
    · exact w4
    · show v4 ^^^ 2 ^ 63 < 2 ^ 64
      exact Nat.xor_lt_two_pow w4 (by decide)
  generalize hv5 : (if yneg then Op.negFloat .f64 v4 else v4) = v5 at *
  obtain ⟨r, e3, b3, _⟩ := conv_bd .f64 .f32 (by decide) (holds32 (by omega)) b5
  obtain ⟨k3, f3⟩ := okc_of e3
  have w := floatToFloatBits_wf (src := .f64) (bits := v5) (dst := .f32) (by simpa [Lit.wf] using w5) e3
  exact ⟨v4, v5, r, k1, hv4.symm, hv5.symm, k3, f3, by simpa [Lit.wf, W32] using w⟩
end Go.Proofs.YtglnfccglgladaaDoor
