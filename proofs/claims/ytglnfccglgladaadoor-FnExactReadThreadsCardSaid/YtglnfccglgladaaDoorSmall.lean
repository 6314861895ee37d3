/-
  How large the word nearest to a number is: nothing overflows where the number is small enough. (No program in sight.)
-/
import Derived.Test.YtglnfccglgladaaDoorFloatInt
namespace Go.Proofs.YtglnfccglgladaaDoor
open Go Ieee
set_option linter.unusedVariables false

/-- The word stands for a number below 2 ^ (E + 1). -/
def Small (f : Format) (b : Nat) (E : Int) : Prop := ∃ s m e, f.read b = .number s m e ∧ (m = 0 ∨ (m.log2 : Int) + e ≤ E)

theorem Small.mono {f : Format} {b : Nat} {E E' : Int} (h : Small f b E) (hE : E ≤ E') : Small f b E' := by
  obtain ⟨s, m, e, hr, h | h⟩ := h
  · exact ⟨s, m, e, hr, Or.inl h⟩
  · exact ⟨s, m, e, hr, Or.inr (by omega)⟩

theorem cut_le (neg : Bool) (n d K : Nat) (h0 : n ≠ 0) (h : n < 2 ^ (K + d)) (hK : n.log2 + 1 ≤ K + (n.log2 + 2)) : Toward.even.cut neg n d ≤ 2 ^ K := by
  unfold Toward.cut
  dsimp only
  rw [one_shl]
  have hlt : n < 2 ^ (K + min d (n.log2 + 2)) := by
    rcases Nat.le_total d (n.log2 + 2) with hd | hd
    · rw [Nat.min_eq_left hd]; exact h
    · rw [Nat.min_eq_right hd]
      exact Nat.lt_of_lt_of_le Nat.lt_log2_self (Nat.pow_le_pow_right (by omega) (by omega))
  generalize min d (n.log2 + 2) = g at *
  have hd : n / 2 ^ g < 2 ^ K := by
    rw [Nat.div_lt_iff_lt_mul (Nat.two_pow_pos g), ← Nat.pow_add]
    exact hlt
  have hb : ∀ b : Bool, b.toNat ≤ 1 := by intro b; cases b <;> simp
  have := hb (decide (2 ^ g < 2 * (n % 2 ^ g)) || (2 ^ g == 2 * (n % 2 ^ g) && n / 2 ^ g % 2 == 1))
  omega

theorem nearest_small (f : Format) (neg : Bool) (mag : Nat) (place E : Int) (h0 : f.leastPlace + f.fractionBits ≤ E) (h1 : E - f.fractionBits - f.leastPlace + 3 < ((2 ^ f.exponentBits : Nat) : Int)) (h : mag = 0 ∨ (mag.log2 : Int) + place ≤ E) :
    Small f (f.nearest neg mag place) (E + 1) := by
  have hbp := binade_pos f
  by_cases hm : mag = 0
  · subst hm
    have e : f.nearest neg 0 place = f.word neg 0 := by simp [Format.nearest]
    rw [e]
    have hr : 0 < f.infRung := by
      unfold Format.infRung
      exact Nat.mul_pos (by omega) hbp
    exact ⟨neg, 0, f.leastPlace, by rw [read_word f neg 0 hr, if_pos hbp], Or.inl rfl⟩
  · have h := h.resolve_left hm
    unfold Format.nearest
    rw [if_neg hm]
    dsimp only
    generalize hl : max (place + (mag.log2 : Int) - (f.fractionBits : Int)) f.leastPlace = last
    have hl1 : last ≤ E - f.fractionBits := by omega
    have hl2 : f.leastPlace ≤ last := by omega
    have hl3 : place + (mag.log2 : Int) - (f.fractionBits : Int) ≤ last := by omega
    have hself : mag < 2 ^ (mag.log2 + 1) := Nat.lt_log2_self
    have hkept : Toward.even.cut neg (mag <<< (place - last).toNat) (last - place).toNat ≤ 2 ^ (f.fractionBits + 1) := by
      rw [Nat.shiftLeft_eq]
      rcases Int.le_total last place with hc | hc
      · have e : (last - place).toNat = 0 := by omega
        rw [e]
        have hp := Nat.two_pow_pos (place - last).toNat
        have hne : mag * 2 ^ (place - last).toNat ≠ 0 := Nat.mul_ne_zero hm (by omega)
        refine cut_le neg _ 0 (f.fractionBits + 1) hne ?_ (by omega)
        have : mag * 2 ^ (place - last).toNat < 2 ^ (mag.log2 + 1) * 2 ^ (place - last).toNat := Nat.mul_lt_mul_of_pos_right hself hp
        rw [← Nat.pow_add] at this
        exact Nat.lt_of_lt_of_le this (Nat.pow_le_pow_right (by omega) (by omega))
      · have e : (place - last).toNat = 0 := by omega
        rw [e, Nat.pow_zero, Nat.mul_one]
        refine cut_le neg _ _ (f.fractionBits + 1) hm ?_ (by omega)
        exact Nat.lt_of_lt_of_le hself (Nat.pow_le_pow_right (by omega) (by omega))
    generalize Toward.even.cut neg (mag <<< (place - last).toNat) (last - place).toNat = kept at *
    generalize hL : (last - f.leastPlace).toNat = L
    have hb : f.binade = 2 ^ f.fractionBits := rfl
    have hk2 : kept ≤ 2 * f.binade := by rw [hb]; rw [Nat.pow_succ] at hkept; omega
    have hrung : L * f.binade + kept ≤ (L + 2) * f.binade := by rw [Nat.add_mul]; omega
    have hinf : (L + 2) * f.binade < f.infRung := by
      unfold Format.infRung
      exact Nat.mul_lt_mul_of_pos_right (by omega) hbp
    rw [Nat.min_eq_left (by omega)]
    have hr : L * f.binade + kept < f.infRung := by omega
    generalize L * f.binade + kept = r at *
    have hrd := read_word f neg r hr
    split at hrd
    · rename_i hlt
      refine ⟨neg, r, f.leastPlace, hrd, ?_⟩
      by_cases hr0 : r = 0
      · exact Or.inl hr0
      · right
        have : r.log2 < f.fractionBits := (Nat.log2_lt hr0).2 (by rw [← hb]; exact hlt)
        omega
    · rename_i hge
      refine ⟨neg, _, _, hrd, Or.inr ?_⟩
      have hmod : r % f.binade < f.binade := Nat.mod_lt _ hbp
      have hlg : (f.binade + r % f.binade).log2 < f.fractionBits + 1 := (Nat.log2_lt (by omega)).2 (by rw [Nat.pow_succ, ← hb]; omega)
      have hdiv : r / f.binade ≤ L + 2 := Nat.div_le_of_le_mul (by rw [Nat.mul_comm]; exact hrung)
      omega

/-- A conversion of a small number. -/
theorem conv_small (k k' : FloatKind) {b : Nat} {E : Int} (hne : k ≠ k') (h0 : k'.format.leastPlace + k'.format.fractionBits ≤ E) (h1 : E - k'.format.fractionBits - k'.format.leastPlace + 3 < ((2 ^ k'.format.exponentBits : Nat) : Int)) (h : Small k.format b E) :
    ∃ r, floatToFloatBits k b k' = some r ∧ Small k'.format r (E + 1) := by
  obtain ⟨s, m, e, hr, hm⟩ := h
  have hn := nearest_small k'.format s m e E h0 h1 hm
  refine ⟨_, ?_, hn⟩
  unfold floatToFloatBits
  rw [if_neg hne]
  unfold FloatKind.decode FloatKind.encode
  rw [hr]
  have hw : k'.format.write (Datum.number s m e) = k'.format.nearest s m e := rfl
  simp only [hw]
  obtain ⟨s', m', e', hr', _⟩ := hn
  simp only [hr', Datum.isInfinity, Bool.false_eq_true, if_false]

theorem rootFrom_lt (n : Nat) : ∀ todo root, Datum.rootFrom n todo root < root + 2 ^ todo
  | 0, root => by simp [Datum.rootFrom]
  | todo + 1, root => by
    unfold Datum.rootFrom
    dsimp only
    have h2 : 2 ^ (todo + 1) = 2 ^ todo + 2 ^ todo := by rw [Nat.pow_succ]; omega
    have h3 := Nat.two_pow_pos todo
    split
    · have := rootFrom_lt n todo (root + 1 <<< todo)
      rw [one_shl] at this ⊢
      omega
    · have := rootFrom_lt n todo root
      omega

/-- A root of a small number that isn't negative. -/
theorem sqrt_small {x : Nat} {E : Int} (s : Bool) (m : Nat) (e : Int) (hr : FloatKind.f64.format.read x = .number s m e) (hs : m ≠ 0 → s = false) (hm : m = 0 ∨ (m.log2 : Int) + e ≤ E) (hE0 : 0 ≤ E) (hE1 : E ≤ 900) :
    ∃ r, FloatKind.f64.format.sqrt x = some r ∧ Small FloatKind.f64.format r (E + 4) := by
  have b0 : FloatKind.f64.format.leastPlace = -1074 := by decide
  have b1 : FloatKind.f64.format.fractionBits = 52 := by rfl
  have b2 : FloatKind.f64.format.exponentBits = 11 := by rfl
  unfold Format.sqrt
  rw [hr]
  unfold Datum.root
  dsimp only
  by_cases h0 : m = 0
  · rw [if_pos h0]
    subst h0
    refine ⟨_, rfl, ?_⟩
    exact (nearest_small FloatKind.f64.format s 0 e E (by rw [b0, b1]; omega) (by rw [b0, b1, b2]; omega) (Or.inl rfl)).mono (by omega)
  · rw [if_neg h0, hs h0]
    have hm := hm.resolve_left h0
    refine ⟨_, rfl, ?_⟩
    generalize hmore : 2 * (FloatKind.f64.format.fractionBits + 2) - m.log2 + ((e - ((2 * (FloatKind.f64.format.fractionBits + 2) - m.log2 : Nat) : Int)) % 2).toNat = more
    have hn0 : m <<< more ≠ 0 := by rw [Nat.shiftLeft_eq]; exact Nat.mul_ne_zero h0 (by have := Nat.two_pow_pos more; omega)
    have hlog : (m <<< more).log2 = m.log2 + more := by rw [Nat.shiftLeft_eq]; exact log2_shift m more h0
    have hlt := rootFrom_lt (m <<< more) ((m <<< more).log2 / 2 + 1) 0
    rw [hlog] at hlt ⊢
    rw [Nat.zero_add] at hlt
    generalize Datum.rootFrom (m <<< more) ((m.log2 + more) / 2 + 1) 0 = whole at *
    have hbt : (whole * whole != m <<< more).toNat ≤ 1 := by cases (whole * whole != m <<< more) <;> simp
    generalize (whole * whole != m <<< more).toNat = bt at *
    refine (nearest_small FloatKind.f64.format false (2 * whole + bt) ((e - more) / 2 - 1) (E + 3) (by rw [b0, b1]; omega) (by rw [b0, b1, b2]; omega) ?_).mono (by omega)
    by_cases hz : 2 * whole + bt = 0
    · exact Or.inl hz
    · right
      have : (2 * whole + bt).log2 < (m.log2 + more) / 2 + 2 := (Nat.log2_lt hz).2 (by rw [Nat.pow_succ]; omega)
      omega

theorem Dy.small {f : Format} {t b : Nat} {a : Int} {K : Nat} (h : Dy f t b a) (ha : a.natAbs < 2 ^ K) : Small f b K := by
  obtain ⟨s, q, hr, _, _⟩ := h
  refine ⟨s, _, _, hr, ?_⟩
  by_cases h0 : a.natAbs = 0
  · left; rw [h0, Nat.zero_mul]
  · right
    rw [log2_shift _ _ h0]
    have := (Nat.log2_lt h0).2 ha
    omega
end Go.Proofs.YtglnfccglgladaaDoor
