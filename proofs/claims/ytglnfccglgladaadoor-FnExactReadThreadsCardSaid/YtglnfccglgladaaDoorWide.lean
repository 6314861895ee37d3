/-
  A number of single precision that is widened and narrowed again is the same word.
  Condition: it is no not-a-number.
-/
import Derived.Test.YtglnfccglgladaaDoorRound
namespace Go.Proofs.YtglnfccglgladaaDoor
open Go.RowKit Ieee
set_option linter.unusedVariables false

theorem read_exact (f : Format) (neg : Bool) (n : Nat) (p : Int) (h0 : n ≠ 0) (h : n < 2 ^ (f.fractionBits + 1)) (hlo : f.leastPlace + f.fractionBits ≤ p) (hhi : ((p - f.leastPlace).toNat + 2) * f.binade ≤ f.infRung) :
    f.read (f.nearest neg n p) = .number neg (n * 2 ^ (f.fractionBits - n.log2)) (p - ((f.fractionBits - n.log2 : Nat) : Int)) := by
  have hl := log2_le_of_lt h0 h
  unfold Format.nearest
  rw [if_neg h0]
  dsimp only
  have e1 : max (p + (n.log2 : Int) - (f.fractionBits : Int)) f.leastPlace = p + (n.log2 : Int) - f.fractionBits := by omega
  rw [e1]
  have e2 : (p - (p + (n.log2 : Int) - (f.fractionBits : Int))).toNat = f.fractionBits - n.log2 := by omega
  have e3 : (p + (n.log2 : Int) - (f.fractionBits : Int) - p).toNat = 0 := by omega
  rw [e2, e3, Nat.shiftLeft_eq, cut_zero]
  generalize hm : n * 2 ^ (f.fractionBits - n.log2) = m
  have hb : f.binade = 2 ^ f.fractionBits := rfl
  have hm1 : f.binade ≤ m := by
    rw [hb, ← hm]
    have h1 := Nat.log2_self_le h0
    have : 2 ^ f.fractionBits = 2 ^ n.log2 * 2 ^ (f.fractionBits - n.log2) := by rw [← Nat.pow_add]; congr 1; omega
    rw [this]
    exact Nat.mul_le_mul_right _ h1
  have hm2 : m < 2 * f.binade := by
    rw [hb, ← hm]
    have h1 : n < 2 ^ (n.log2 + 1) := Nat.lt_log2_self
    have : 2 * 2 ^ f.fractionBits = 2 ^ (n.log2 + 1) * 2 ^ (f.fractionBits - n.log2) := by
      rw [← Nat.pow_add, Nat.mul_comm, ← Nat.pow_succ]; congr 1; omega
    rw [this]
    exact Nat.mul_lt_mul_of_pos_right h1 (Nat.two_pow_pos _)
  have hbp := binade_pos f
  generalize hk : (p + (n.log2 : Int) - (f.fractionBits : Int) - f.leastPlace).toNat = k
  have hk2 : k ≤ (p - f.leastPlace).toNat := by omega
  have hr : k * f.binade + m < f.infRung := by
    have : k * f.binade ≤ (p - f.leastPlace).toNat * f.binade := Nat.mul_le_mul_right _ hk2
    rw [Nat.add_mul] at hhi
    omega
  rw [Nat.min_eq_left (Nat.le_of_lt hr), read_word f neg _ hr]
  have hnb : ¬ k * f.binade + m < f.binade := by omega
  rw [if_neg hnb]
  have hd : (k * f.binade + m) / f.binade = k + 1 := by
    rw [Nat.add_comm, Nat.add_mul_div_right _ _ hbp]
    have : m / f.binade = 1 := by
      rw [Nat.div_eq_of_lt_le] <;> omega
    omega
  have hmod : (k * f.binade + m) % f.binade = m - f.binade := by
    rw [Nat.add_comm, Nat.add_mul_mod_self_right, Nat.mod_eq_sub_mod hm1, Nat.mod_eq_of_lt (by omega)]
  rw [hd, hmod]
  have e5 : f.binade + (m - f.binade) = m := by omega
  have e6 : f.leastPlace + ((k + 1 - 1 : Nat) : Int) = p - ((f.fractionBits - n.log2 : Nat) : Int) := by omega
  rw [e5, e6]

/-- A word is a sign and a rung. -/
theorem word_split (f : Format) {x : Nat} (h : x < 2 * f.signWeight) : ∃ neg r, r < f.signWeight ∧ x = f.word neg r := by
  by_cases hx : x < f.signWeight
  · exact ⟨false, x, hx, rfl⟩
  · exact ⟨true, x - f.signWeight, by omega, by show x = f.signWeight + (x - f.signWeight); omega⟩
theorem read_parts (f : Format) (neg : Bool) (r : Nat) (h : r < f.signWeight) : f.word neg r % f.signWeight = r ∧ (f.word neg r / f.signWeight % 2 == 1) = neg := by
  have hp := sw_pos f
  constructor
  · unfold Format.word
    cases neg
    · simp only [Bool.false_eq_true, if_false]; exact Nat.mod_eq_of_lt (by omega)
    · simp only [if_true]; rw [Nat.add_mod_left]; exact Nat.mod_eq_of_lt (by omega)
  · unfold Format.word
    cases neg
    · simp only [Bool.false_eq_true, if_false]; rw [Nat.div_eq_of_lt (by omega)]; rfl
    · simp only [if_true]; rw [Nat.add_div_left _ hp, Nat.div_eq_of_lt (by omega)]; rfl
theorem read_infinity (f : Format) (hb : f.binade ≤ f.infRung) (neg : Bool) : f.read (f.word neg f.infRung) = .infinity neg := by
  have h := read_parts f neg f.infRung f.infRung_lt
  unfold Format.read
  simp only [h.1, h.2]
  rw [if_neg (by omega), if_neg (by omega), if_pos trivial]
theorem read_nan (f : Format) (hb : f.binade ≤ f.infRung) (neg : Bool) (r : Nat) (h : r < f.signWeight) (h1 : f.infRung < r) : ∃ t, f.read (f.word neg r) = .nan neg t := by
  have h := read_parts f neg r h
  unfold Format.read
  simp only [h.1, h.2]
  rw [if_neg (by omega), if_neg (by omega), if_neg (by omega)]
  exact ⟨_, rfl⟩
/-- What a word of 32 bits stands for. -/
theorem read32 {x : Nat} (h : W32 x) : (∃ neg r, r < FloatKind.f32.format.infRung ∧ x = FloatKind.f32.format.word neg r) ∨ (∃ neg, x = FloatKind.f32.format.word neg FloatKind.f32.format.infRung) ∨ (∃ s t, FloatKind.f32.format.read x = .nan s t) := by
  obtain ⟨neg, r, hr, rfl⟩ := word_split FloatKind.f32.format (show x < 2 * FloatKind.f32.format.signWeight from h)
  rcases Nat.lt_trichotomy r FloatKind.f32.format.infRung with h | h | h
  · exact Or.inl ⟨neg, r, h, rfl⟩
  · exact Or.inr (Or.inl ⟨neg, by rw [h]⟩)
  · exact Or.inr (Or.inr ⟨neg, read_nan _ (binade_le _) neg r hr h⟩)
theorem nan32_read {x : Nat} {s : Bool} {t : Nat} (h : FloatKind.f32.format.read x = .nan s t) : nan32 x = true := by
  unfold nan32 Format.order
  rw [h]
  rfl
theorem order_num (m : Nat) (s : Bool) (e : Int) : (Datum.number s m e).order (.number s m e) = some .eq := by
  simp only [Datum.order]
  congr 1
  exact Std.ReflCmp.compare_self
theorem nan32_num {x : Nat} {s : Bool} {m : Nat} {e : Int} (h : FloatKind.f32.format.read x = .number s m e) : nan32 x = false := by
  unfold nan32 Format.order
  rw [h, order_num]
  rfl
theorem nan32_inf {x : Nat} {s : Bool} (h : FloatKind.f32.format.read x = .infinity s) : nan32 x = false := by
  unfold nan32 Format.order
  rw [h]
  cases s <;> rfl

/-- There and back. -/
theorem wide_back {x : Nat} (hx : W32 x) (hn : nan32 x = false) : ∃ y, floatToFloatBits .f32 x .f64 = some y ∧ floatToFloatBits .f64 y .f32 = some x := by
  rcases read32 hx with ⟨neg, r, hr, rfl⟩ | ⟨neg, rfl⟩ | ⟨s, t, h⟩
  · obtain ⟨s, m, e, hrd, hm, he0, he1⟩ : ∃ s m e, FloatKind.f32.format.read (FloatKind.f32.format.word neg r) = .number s m e ∧ m < 2 ^ 24 ∧ -149 ≤ e ∧ e ≤ 104 := by
      have hb : FloatKind.f32.format.binade = 8388608 := by decide
      have hl : FloatKind.f32.format.leastPlace = -149 := by decide
      have hi : FloatKind.f32.format.infRung = 2139095040 := by decide
      have h := read_word FloatKind.f32.format neg r hr
      rw [hb, hl] at h
      split at h
      · exact ⟨_, _, _, h, by omega, by omega, by omega⟩
      · exact ⟨_, _, _, h, by omega, by omega, by omega⟩
    have back : FloatKind.f32.format.nearest s m e = FloatKind.f32.format.word neg r := nearest_read _ neg r hr hrd
    have fin : (FloatKind.f32.format.read (FloatKind.f32.format.word neg r)).isInfinity = false := by rw [hrd]; rfl
    by_cases hm0 : m = 0
    · subst hm0
      have hz : FloatKind.f64.format.nearest s 0 e = FloatKind.f64.format.word s 0 := by simp [Format.nearest]
      have hrz := read_word FloatKind.f64.format s 0 (by decide)
      rw [if_pos (by decide)] at hrz
      refine ⟨FloatKind.f64.format.word s 0, ?_, ?_⟩
      · unfold floatToFloatBits FloatKind.decode FloatKind.encode
        rw [if_neg (by decide), hrd]
        have hw : FloatKind.f64.format.write (Datum.number s 0 e) = FloatKind.f64.format.word s 0 := hz
        simp only [hw, hrz, Datum.isInfinity, Bool.false_eq_true, if_false]
      · unfold floatToFloatBits FloatKind.decode FloatKind.encode
        rw [if_neg (by decide), hrz]
        have hw : FloatKind.f32.format.write (Datum.number s 0 FloatKind.f64.format.leastPlace) = FloatKind.f32.format.word neg r := by
          rw [← back]
          show FloatKind.f32.format.nearest s 0 _ = _
          simp [Format.nearest]
        simp only [hw, fin, Bool.false_eq_true, if_false]
    · have hlo : FloatKind.f64.format.leastPlace + FloatKind.f64.format.fractionBits ≤ e := by
        have : FloatKind.f64.format.leastPlace + FloatKind.f64.format.fractionBits = -1022 := by decide
        omega
      have hhi : ((e - FloatKind.f64.format.leastPlace).toNat + 2) * FloatKind.f64.format.binade ≤ FloatKind.f64.format.infRung := by
        have h1 : FloatKind.f64.format.leastPlace = -1074 := by decide
        have h2 : FloatKind.f64.format.binade = 4503599627370496 := by decide
        have h3 : FloatKind.f64.format.infRung = 2047 * 4503599627370496 := by decide
        rw [h1, h2, h3]
        exact Nat.mul_le_mul_right _ (by omega)
      have hex := read_exact FloatKind.f64.format s m e hm0 (Nat.lt_of_lt_of_le hm (by decide)) hlo hhi
      refine ⟨FloatKind.f64.format.nearest s m e, ?_, ?_⟩
      · unfold floatToFloatBits FloatKind.decode FloatKind.encode
        rw [if_neg (by decide), hrd]
        have hw : FloatKind.f64.format.write (Datum.number s m e) = FloatKind.f64.format.nearest s m e := rfl
        simp only [hw, hex, Datum.isInfinity, Bool.false_eq_true, if_false]
      · unfold floatToFloatBits FloatKind.decode FloatKind.encode
        rw [if_neg (by decide), hex]
        generalize FloatKind.f64.format.fractionBits - m.log2 = j
        have hw : FloatKind.f32.format.write (Datum.number s (m * 2 ^ j) (e - (j : Int))) = FloatKind.f32.format.word neg r := by
          rw [← back]
          exact nearest_shift _ _ _ _ _
        simp only [hw, fin, Bool.false_eq_true, if_false]
  · refine ⟨FloatKind.f64.format.word neg FloatKind.f64.format.infRung, ?_, ?_⟩
    · unfold floatToFloatBits FloatKind.decode FloatKind.encode
      rw [if_neg (by decide), read_infinity _ (binade_le _)]
      rfl
    · unfold floatToFloatBits FloatKind.decode FloatKind.encode
      rw [if_neg (by decide), read_infinity _ (binade_le _)]
      rfl
  · rw [nan32_read h] at hn
    cases hn
end Go.Proofs.YtglnfccglgladaaDoor
