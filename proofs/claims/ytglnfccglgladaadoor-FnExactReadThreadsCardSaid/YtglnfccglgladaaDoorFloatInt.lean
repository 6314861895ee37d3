/-
  The words of binary floating point that stand for a / 2 ^ t, a a whole number: sums, differences and products of them are exact where a stays small.
  Condition: the results' a is below 2 ^ 24 (single) or 2 ^ 53 (double), and t is at most 100.
-/
import Derived.Laws.FloatArith
namespace Go.Proofs.YtglnfccglgladaaDoor
open Ieee

theorem log2_shift (m j : Nat) (h : m ≠ 0) : (m * 2 ^ j).log2 = m.log2 + j := by
  induction j with
  | zero => simp
  | succ j ih =>
    have h' : m * 2 ^ j ≠ 0 := Nat.mul_ne_zero h (Nat.pos_iff_ne_zero.1 (Nat.two_pow_pos j))
    rw [Nat.pow_succ, ← Nat.mul_assoc, Nat.mul_comm _ 2, Nat.log2_two_mul h', ih]
    omega

theorem one_shl (k : Nat) : 1 <<< k = 2 ^ k := by rw [Nat.shiftLeft_eq, Nat.one_mul]

theorem cut_exact (neg : Bool) (n d : Nat) : Toward.even.cut neg (n * 2 ^ d) d = n := by
  unfold Toward.cut
  by_cases hn : n = 0
  · subst hn; simp
  · rw [log2_shift n d hn]
    have e : min d (n.log2 + d + 2) = d := by omega
    have hp := Nat.two_pow_pos d
    simp only [e, one_shl, Nat.mul_div_cancel _ hp, Nat.mul_mod_left, Nat.mul_zero]
    have h2 : (2 ^ d == 0) = false := by simp
    simp [h2]

theorem cut_shift (neg : Bool) (m j d : Nat) : Toward.even.cut neg (m * 2 ^ j) (d + j) = Toward.even.cut neg m d := by
  by_cases hm : m = 0
  · subst hm
    have := cut_exact neg 0 (d + j)
    have h2 := cut_exact neg 0 d
    rw [Nat.zero_mul] at this h2 ⊢
    rw [this, h2]
  · unfold Toward.cut
    rw [log2_shift m j hm]
    have e : min (d + j) (m.log2 + j + 2) = min d (m.log2 + 2) + j := by omega
    have hp := Nat.two_pow_pos j
    simp only [e, one_shl, Nat.pow_add]
    generalize 2 ^ min d (m.log2 + 2) = g
    rw [Nat.mul_div_mul_right _ _ hp, Nat.mul_mod_mul_right]
    generalize m % g = r
    generalize 2 ^ j = p at *
    have h1 : (decide (g * p < 2 * (r * p))) = decide (g < 2 * r) := by
      rw [← Nat.mul_assoc]
      exact decide_eq_decide.2 (Nat.mul_lt_mul_right hp)
    have h2 : (g * p == 2 * (r * p)) = (g == 2 * r) := by
      rw [← Nat.mul_assoc, Bool.eq_iff_iff, beq_iff_eq, beq_iff_eq]
      exact Nat.mul_left_inj (Nat.pos_iff_ne_zero.1 hp)
    simp only [h1, h2]

/-- Only the number counts, not how it is split. -/
theorem nearest_shift (f : Format) (neg : Bool) (m j : Nat) (p : Int) : f.nearest neg (m * 2 ^ j) (p - j) = f.nearest neg m p := by
  by_cases hm : m = 0
  · subst hm; simp [Format.nearest]
  have hm' : m * 2 ^ j ≠ 0 := Nat.mul_ne_zero hm (Nat.pos_iff_ne_zero.1 (Nat.two_pow_pos j))
  unfold Format.nearest
  rw [if_neg hm, if_neg hm', log2_shift m j hm]
  have e : p - (j : Int) + ((m.log2 + j : Nat) : Int) - (f.fractionBits : Int) = p + (m.log2 : Int) - (f.fractionBits : Int) := by omega
  dsimp only
  rw [e]
  generalize max (p + (m.log2 : Int) - (f.fractionBits : Int)) f.leastPlace = last
  have key : Toward.even.cut neg ((m * 2 ^ j) <<< (p - (j : Int) - last).toNat) (last - (p - (j : Int))).toNat = Toward.even.cut neg (m <<< (p - last).toNat) (last - p).toNat := by
    rw [Nat.shiftLeft_eq, Nat.shiftLeft_eq]
    by_cases h1 : last ≤ p - j
    · have e1 : (last - (p - (j : Int))).toNat = 0 := by omega
      have e2 : (last - p).toNat = 0 := by omega
      have e3 : (p - last).toNat = j + (p - (j : Int) - last).toNat := by omega
      rw [e1, e2, e3, Nat.pow_add, Nat.mul_assoc]
    · by_cases h2 : last ≤ p
      · have e1 : (p - (j : Int) - last).toNat = 0 := by omega
        have e2 : (last - p).toNat = 0 := by omega
        have e3 : j = (p - last).toNat + (last - (p - (j : Int))).toNat := by omega
        rw [e1, e2, Nat.pow_zero, Nat.mul_one]
        conv => lhs; arg 3; rw [e3, Nat.pow_add, ← Nat.mul_assoc]
        rw [cut_exact]
        have := cut_exact neg (m * 2 ^ (p - last).toNat) 0
        rw [Nat.pow_zero, Nat.mul_one] at this
        exact this.symm
      · have e1 : (p - (j : Int) - last).toNat = 0 := by omega
        have e2 : (p - last).toNat = 0 := by omega
        have e3 : (last - (p - (j : Int))).toNat = (last - p).toNat + j := by omega
        rw [e1, e2, e3, Nat.pow_zero, Nat.mul_one, Nat.mul_one, cut_shift]
  rw [key]

theorem nearest_shift0 (f : Format) (neg : Bool) (m j : Nat) : f.nearest neg (m * 2 ^ j) (-(j : Int)) = f.nearest neg m 0 := by
  have := nearest_shift f neg m j 0
  rwa [Int.zero_sub] at this

/-- What the two formats have in common. -/
structure Fine (f : Format) : Prop where
  low : f.leastPlace + 100 ≤ -(f.fractionBits : Int)
  high : ((-f.leastPlace).toNat + 2) * f.binade ≤ f.infRung
theorem fine32 : Fine single := ⟨by decide, by decide⟩
theorem fine64 : Fine double := ⟨by decide, by decide⟩
theorem fineK (k : FloatKind) : Fine k.format := by
  cases k
  · exact fine32
  · exact fine64

theorem sw_pos (f : Format) : 0 < f.signWeight := Nat.two_pow_pos _
theorem binade_pos (f : Format) : 0 < f.binade := Nat.two_pow_pos _

theorem read_word (f : Format) (neg : Bool) (r : Nat) (h : r < f.infRung) :
    f.read (f.word neg r) = if r < f.binade then .number neg r f.leastPlace else .number neg (f.binade + r % f.binade) (f.leastPlace + (r / f.binade - 1 : Nat)) := by
  have hs := f.infRung_lt
  have hp := sw_pos f
  have e1 : f.word neg r % f.signWeight = r := by
    unfold Format.word
    cases neg
    · simp only [Bool.false_eq_true, if_false]; exact Nat.mod_eq_of_lt (by omega)
    · simp only [if_true]; rw [Nat.add_mod_left]; exact Nat.mod_eq_of_lt (by omega)
  have e2 : (f.word neg r / f.signWeight % 2 == 1) = neg := by
    unfold Format.word
    cases neg
    · simp only [Bool.false_eq_true, if_false]; rw [Nat.div_eq_of_lt (by omega)]; rfl
    · simp only [if_true]; rw [Nat.add_div_left _ hp, Nat.div_eq_of_lt (by omega)]; rfl
  unfold Format.read
  simp only [e1, e2]
  split
  · rfl
  · simp

theorem log2_le_of_lt {n F : Nat} (h0 : n ≠ 0) (h : n < 2 ^ (F + 1)) : n.log2 ≤ F := by
  have := (Nat.log2_lt h0).2 h
  omega

/-- The word of a small whole number over a power of two. -/
theorem read_nearest (f : Format) (hf : Fine f) (neg : Bool) (n t : Nat) (ht : t ≤ 100) (h0 : n ≠ 0) (h : n < 2 ^ (f.fractionBits + 1)) :
    f.read (f.nearest neg n (-(t : Int))) = .number neg (n * 2 ^ (f.fractionBits - n.log2)) (-((f.fractionBits - n.log2 + t : Nat) : Int)) := by
  have hl := log2_le_of_lt h0 h
  have hlow := hf.low
  have hhigh := hf.high
  unfold Format.nearest
  rw [if_neg h0]
  dsimp only
  have e1 : max (-(t : Int) + (n.log2 : Int) - (f.fractionBits : Int)) f.leastPlace = (n.log2 : Int) - f.fractionBits - t := by omega
  rw [e1]
  have e2 : (-(t : Int) - ((n.log2 : Int) - (f.fractionBits : Int) - t)).toNat = f.fractionBits - n.log2 := by omega
  have e3 : ((n.log2 : Int) - (f.fractionBits : Int) - t - -(t : Int)).toNat = 0 := by omega
  rw [e2, e3, Nat.shiftLeft_eq]
  have e4 : Toward.even.cut neg (n * 2 ^ (f.fractionBits - n.log2)) 0 = n * 2 ^ (f.fractionBits - n.log2) := by
    have := cut_exact neg (n * 2 ^ (f.fractionBits - n.log2)) 0
    rwa [Nat.pow_zero, Nat.mul_one] at this
  rw [e4]
  generalize hm : n * 2 ^ (f.fractionBits - n.log2) = m
  have hb : f.binade = 2 ^ f.fractionBits := rfl
  have hm1 : f.binade ≤ m := by
    rw [hb, ← hm]
    have h1 := Nat.log2_self_le h0
    have : 2 ^ f.fractionBits = 2 ^ n.log2 * 2 ^ (f.fractionBits - n.log2) := by rw [← Nat.pow_add]; congr 1; omega
    rw [this]
    exact Nat.mul_le_mul_right _ h1
  have hm2 : m < 2 * f.binade := by
    rw [hb, ← hm]
    have h1 : n < 2 ^ (n.log2 + 1) := Nat.lt_log2_self
    have : 2 * 2 ^ f.fractionBits = 2 ^ (n.log2 + 1) * 2 ^ (f.fractionBits - n.log2) := by
      rw [← Nat.pow_add, Nat.mul_comm, ← Nat.pow_succ]; congr 1; omega
    rw [this]
    exact Nat.mul_lt_mul_of_pos_right h1 (Nat.two_pow_pos _)
  have hbp := binade_pos f
  generalize hk : ((n.log2 : Int) - (f.fractionBits : Int) - t - f.leastPlace).toNat = k
  have hk2 : k ≤ (-f.leastPlace).toNat := by omega
  have hr : k * f.binade + m < f.infRung := by
    have : k * f.binade ≤ (-f.leastPlace).toNat * f.binade := Nat.mul_le_mul_right _ hk2
    rw [Nat.add_mul] at hhigh
    omega
  rw [Nat.min_eq_left (Nat.le_of_lt hr), read_word f neg _ hr]
  have hnb : ¬ k * f.binade + m < f.binade := by omega
  rw [if_neg hnb]
  have hd : (k * f.binade + m) / f.binade = k + 1 := by
    rw [Nat.add_comm, Nat.add_mul_div_right _ _ hbp]
    have : m / f.binade = 1 := by
      rw [Nat.div_eq_of_lt_le] <;> omega
    omega
  have hmod : (k * f.binade + m) % f.binade = m - f.binade := by
    rw [Nat.add_comm, Nat.add_mul_mod_self_right, Nat.mod_eq_sub_mod hm1, Nat.mod_eq_of_lt (by omega)]
  rw [hd, hmod]
  have e5 : f.binade + (m - f.binade) = m := by omega
  have e6 : f.leastPlace + ((k + 1 - 1 : Nat) : Int) = -((f.fractionBits - n.log2 + t : Nat) : Int) := by omega
  rw [e5, e6]

/-- A word that stands for a / 2 ^ t (zero has two words). -/
def Dy (f : Format) (t : Nat) (b : Nat) (a : Int) : Prop :=
  ∃ (s : Bool) (q : Nat), f.read b = .number s (a.natAbs * 2 ^ q) (-((q + t : Nat) : Int)) ∧ (a < 0 → s = true) ∧ (0 < a → s = false)

theorem read_zero (f : Format) (hf : Fine f) (neg : Bool) (t : Nat) (ht : t ≤ 100) : Dy f t (f.word neg 0) 0 := by
  have hb := binade_pos f
  have hl := hf.low
  have hr : 0 < f.infRung := by
    have := hf.high
    rw [Nat.add_mul] at this
    omega
  refine ⟨neg, (-f.leastPlace).toNat - t, ?_, fun h => by omega, fun h => by omega⟩
  rw [read_word f neg 0 hr, if_pos hb]
  have := hf.low
  have e : -(((-f.leastPlace).toNat - t + t : Nat) : Int) = f.leastPlace := by omega
  rw [e]; simp

theorem nearest_dy (f : Format) (hf : Fine f) (neg : Bool) (a : Int) (t : Nat) (ht : t ≤ 100) (h : a.natAbs < 2 ^ (f.fractionBits + 1)) (h1 : a < 0 → neg = true) (h2 : 0 < a → neg = false) (q : Nat) :
    Dy f t (f.nearest neg (a.natAbs * 2 ^ q) (-((q + t : Nat) : Int))) a := by
  have e : (-((q + t : Nat) : Int)) = -(t : Int) - (q : Int) := by omega
  rw [e, nearest_shift]
  by_cases h0 : a.natAbs = 0
  · have : a = 0 := by omega
    subst this
    have e : f.nearest neg (Int.natAbs 0) (-(t : Int)) = f.word neg 0 := by simp [Format.nearest]
    rw [e]
    exact read_zero f hf neg t ht
  · exact ⟨neg, _, read_nearest f hf neg _ t ht h0 h, h1, h2⟩

/-- Below this, every whole number has a word. -/
def lim : FloatKind → Nat
  | .f32 => 16777216
  | .f64 => 9007199254740992
theorem lim_eq (k : FloatKind) : lim k = 2 ^ (k.format.fractionBits + 1) := by cases k <;> rfl

theorem dy_of (k : FloatKind) (a : Int) (h : a.natAbs < lim k) : Dy k.format 0 (floatOfInt k a) a := by
  rw [lim_eq] at h
  have := nearest_dy k.format (fineK k) (decide (a < 0)) a 0 (by omega) h (by simp) (by simp; omega) 0
  simpa [floatOfInt, FloatKind.nearest, FloatKind.encode, Format.write] using this

theorem pow_cast (Q : Nat) : ((2 ^ Q : Nat) : Int) = 2 ^ Q := by push_cast; rfl
theorem pow_pos_int (Q : Nat) : (0 : Int) < 2 ^ Q := by rw [← pow_cast]; exact Int.natCast_pos.2 (Nat.two_pow_pos Q)

theorem signed_int {s : Bool} {a : Int} {q Q : Nat} (hq : q ≤ Q) (h1 : a < 0 → s = true) (h2 : 0 < a → s = false) :
    signed s (a.natAbs * 2 ^ q) (Q - q) = a * 2 ^ Q := by
  unfold signed
  have e : (a.natAbs * 2 ^ q) <<< (Q - q) = a.natAbs * 2 ^ Q := by
    rw [Nat.shiftLeft_eq, Nat.mul_assoc, ← Nat.pow_add]
    congr 2
    omega
  rw [e]
  by_cases h0 : a = 0
  · subst h0; simp
  · by_cases hlt : a < 0
    · rw [h1 hlt, if_pos rfl]
      push_cast
      rw [← Int.neg_mul]
      congr 1
      omega
    · have hgt : 0 < a := by omega
      rw [h2 hgt]
      simp only [Bool.false_eq_true, if_false]
      push_cast
      congr 1
      omega

theorem dy_sum (k : FloatKind) {t : Nat} (ht : t ≤ 100) {x : Nat} {a b : Int} (hx : Dy k.format t x a) {e : Datum} (hy : ∃ (s : Bool) (q : Nat), e = .number s (b.natAbs * 2 ^ q) (-((q + t : Nat) : Int)) ∧ (b < 0 → s = true) ∧ (0 < b → s = false)) (h : (a + b).natAbs < lim k) :
    ∃ r, ((k.format.read x).sum e).map k.format.write = some r ∧ Dy k.format t r (a + b) := by
  obtain ⟨s, q, e1, p1, p2⟩ := hx
  obtain ⟨s', u, rfl, p3, p4⟩ := hy
  rw [lim_eq] at h
  rw [e1]
  simp only [Datum.sum]
  have hQ : min (-((q + t : Nat) : Int)) (-((u + t : Nat) : Int)) = -((max q u + t : Nat) : Int) := by omega
  rw [hQ]
  generalize hm : max q u = Q
  have hq : q ≤ Q := by omega
  have hu : u ≤ Q := by omega
  have t1 : (-((q + t : Nat) : Int) - -((Q + t : Nat) : Int)).toNat = Q - q := by omega
  have t2 : (-((u + t : Nat) : Int) - -((Q + t : Nat) : Int)).toNat = Q - u := by omega
  rw [t1, t2, signed_int hq p1 p2, signed_int hu p3 p4, ← Int.add_mul]
  have hp := pow_pos_int Q
  have hn : ((a + b) * 2 ^ Q).natAbs = (a + b).natAbs * 2 ^ Q := by
    rw [Int.natAbs_mul, ← pow_cast, Int.natAbs_natCast]
  rw [hn]
  refine ⟨_, rfl, ?_⟩
  unfold Format.write
  refine nearest_dy k.format (fineK k) _ (a + b) t ht h (fun h0 => ?_) (fun h0 => ?_) Q
  · have : (a + b) * 2 ^ Q < 0 := Int.mul_neg_of_neg_of_pos h0 hp
    rw [if_neg (by omega)]
    simpa using this
  · have : 0 < (a + b) * 2 ^ Q := Int.mul_pos h0 hp
    rw [if_neg (by omega)]
    simp; omega

theorem dy_add (k : FloatKind) {t : Nat} (ht : t ≤ 100) {x y : Nat} {a b : Int} (hx : Dy k.format t x a) (hy : Dy k.format t y b) (h : (a + b).natAbs < lim k) :
    ∃ r, floatBits .add k x y = some r ∧ Dy k.format t r (a + b) := dy_sum k ht hx hy h

theorem dy_sub (k : FloatKind) {t : Nat} (ht : t ≤ 100) {x y : Nat} {a b : Int} (hx : Dy k.format t x a) (hy : Dy k.format t y b) (h : (a - b).natAbs < lim k) :
    ∃ r, floatBits .sub k x y = some r ∧ Dy k.format t r (a - b) := by
  obtain ⟨s, u, e2, p3, p4⟩ := hy
  have := dy_sum k ht (a := a) (b := -b) (e := (k.format.read y).opposite) hx
    ⟨!s, u, by rw [e2, Int.natAbs_neg]; rfl, fun hb => by rw [p4 (by omega)]; rfl, fun hb => by rw [p3 (by omega)]; rfl⟩ (by rwa [← Int.sub_eq_add_neg])
  rwa [← Int.sub_eq_add_neg] at this

theorem dy_mul (k : FloatKind) {t t' : Nat} (ht : t + t' ≤ 100) {x y : Nat} {a b : Int} (hx : Dy k.format t x a) (hy : Dy k.format t' y b) (h : (a * b).natAbs < lim k) :
    ∃ r, floatBits .mul k x y = some r ∧ Dy k.format (t + t') r (a * b) := by
  obtain ⟨s, q, e1, p1, p2⟩ := hx
  obtain ⟨s', u, e2, p3, p4⟩ := hy
  rw [lim_eq] at h
  show ∃ r, ((k.format.read x).product (k.format.read y)).map k.format.write = some r ∧ _
  rw [e1, e2]
  simp only [Datum.product]
  have hm : a.natAbs * 2 ^ q * (b.natAbs * 2 ^ u) = (a * b).natAbs * 2 ^ (q + u) := by
    rw [Int.natAbs_mul, Nat.pow_add]; ac_rfl
  have hp : -((q + t : Nat) : Int) + -((u + t' : Nat) : Int) = -((q + u + (t + t') : Nat) : Int) := by omega
  rw [hm, hp]
  refine ⟨_, rfl, ?_⟩
  unfold Format.write
  refine nearest_dy k.format (fineK k) _ (a * b) (t + t') ht h (fun h0 => ?_) (fun h0 => ?_) _
  · rcases Int.lt_or_le 0 a with ha | ha
    · have hb : b < 0 := by
        rcases Int.lt_or_le b 0 with hb | hb
        · exact hb
        · have := Int.mul_nonneg (Int.le_of_lt ha) hb; omega
      rw [p2 ha, p3 hb]; rfl
    · have ha' : a < 0 := by
        rcases Int.lt_or_le a 0 with h' | h'
        · exact h'
        · have : a = 0 := by omega
          subst this; simp at h0
      have hb : 0 < b := by
        rcases Int.lt_or_le 0 b with hb | hb
        · exact hb
        · have := Int.mul_nonneg_of_nonpos_of_nonpos ha hb; omega
      rw [p1 ha', p4 hb]; rfl
  · rcases Int.lt_or_le 0 a with ha | ha
    · have hb : 0 < b := by
        rcases Int.lt_or_le 0 b with hb | hb
        · exact hb
        · have := Int.mul_nonpos_of_nonneg_of_nonpos (Int.le_of_lt ha) hb; omega
      rw [p2 ha, p4 hb]; rfl
    · have ha' : a < 0 := by
        rcases Int.lt_or_le a 0 with h' | h'
        · exact h'
        · have : a = 0 := by omega
          subst this; simp at h0
      have hb : b < 0 := by
        rcases Int.lt_or_le b 0 with hb | hb
        · exact hb
        · have := Int.mul_nonpos_of_nonpos_of_nonneg ha hb; omega
      rw [p1 ha', p3 hb]; rfl

theorem dy_order (k : FloatKind) {t : Nat} {x y : Nat} {a b : Int} (hx : Dy k.format t x a) (hy : Dy k.format t y b) :
    k.format.order x y = some (compare a b) := by
  obtain ⟨s, q, e1, p1, p2⟩ := hx
  obtain ⟨s', u, e2, p3, p4⟩ := hy
  unfold Format.order
  rw [e1, e2]
  simp only [Datum.order]
  have hQ : min (-((q + t : Nat) : Int)) (-((u + t : Nat) : Int)) = -((max q u + t : Nat) : Int) := by omega
  rw [hQ]
  generalize hm : max q u = Q
  have hq : q ≤ Q := by omega
  have hu : u ≤ Q := by omega
  have t1 : (-((q + t : Nat) : Int) - -((Q + t : Nat) : Int)).toNat = Q - q := by omega
  have t2 : (-((u + t : Nat) : Int) - -((Q + t : Nat) : Int)).toNat = Q - u := by omega
  rw [t1, t2, signed_int hq p1 p2, signed_int hu p3 p4]
  have hp := pow_pos_int Q
  congr 1
  simp only [compare, compareOfLessAndEq]
  have h1 : (a * 2 ^ Q < b * 2 ^ Q) ↔ a < b := Int.mul_lt_mul_right hp
  have h2 : (a * 2 ^ Q = b * 2 ^ Q) ↔ a = b := Int.mul_eq_mul_right_iff (Int.ne_of_gt hp)
  simp only [h1, h2]

theorem dy_conv (k k' : FloatKind) {t : Nat} (ht : t ≤ 100) {x : Nat} {a : Int} (hne : k ≠ k') (hx : Dy k.format t x a) (h : a.natAbs < lim k') :
    ∃ r, floatToFloatBits k x k' = some r ∧ Dy k'.format t r a := by
  obtain ⟨s, q, e1, p1, p2⟩ := hx
  rw [lim_eq] at h
  have hd := nearest_dy k'.format (fineK k') s a t ht h p1 p2 q
  refine ⟨_, ?_, hd⟩
  unfold floatToFloatBits
  rw [if_neg hne]
  unfold FloatKind.decode FloatKind.encode
  rw [e1]
  have hw : k'.format.write (Datum.number s (a.natAbs * 2 ^ q) (-((q + t : Nat) : Int))) = k'.format.nearest s (a.natAbs * 2 ^ q) (-((q + t : Nat) : Int)) := rfl
  simp only [hw]
  obtain ⟨s', q', e2, _, _⟩ := hd
  simp only [e2, Datum.isInfinity, Bool.false_eq_true, if_false]

theorem dy_quo (k : FloatKind) {t t' s : Nat} {x y : Nat} {a b c : Int} (hx : Dy k.format t x a) (hy : Dy k.format t' y b) (hb : b ≠ 0) (hc : c * b = a * 2 ^ s) (h : c.natAbs < lim k) (h1 : t' ≤ t + s) (h2 : t + s - t' ≤ 100) :
    ∃ r, floatBits .quo k x y = some r ∧ Dy k.format (t + s - t') r c := by
  obtain ⟨s1, q, e1, p1, p2⟩ := hx
  obtain ⟨s2, u, e2, p3, p4⟩ := hy
  rw [lim_eq] at h
  show ∃ r, ((k.format.read x).quotient (k.format.fractionBits + 2) (k.format.read y)).map k.format.write = some r ∧ _
  rw [e1, e2]
  simp only [Datum.quotient]
  have hbn : b.natAbs ≠ 0 := by omega
  have hcn : c.natAbs * b.natAbs = a.natAbs * 2 ^ s := by
    have := congrArg Int.natAbs hc
    rwa [Int.natAbs_mul, Int.natAbs_mul, ← pow_cast, Int.natAbs_natCast] at this
  have hn0 : b.natAbs * 2 ^ u ≠ 0 := Nat.mul_ne_zero hbn (Nat.pos_iff_ne_zero.1 (Nat.two_pow_pos u))
  rw [if_neg hn0]
  refine ⟨_, rfl, ?_⟩
  unfold Format.write
  dsimp only
  have hs1 : c < 0 → (s1 ^^ s2) = true := fun h0 => by
    rcases Int.lt_or_le 0 b with hb' | hb'
    · have : a < 0 := by
        rcases Int.lt_or_le a 0 with h' | h'
        · exact h'
        · have l1 := Int.mul_neg_of_neg_of_pos h0 hb'
          have l2 := Int.mul_nonneg h' (Int.le_of_lt (pow_pos_int s))
          omega
      rw [p1 this, p4 hb']; rfl
    · have hb'' : b < 0 := by omega
      have : 0 < a := by
        rcases Int.lt_or_le 0 a with h' | h'
        · exact h'
        · have l1 := Int.mul_pos_of_neg_of_neg h0 hb''
          have l2 := Int.mul_nonpos_of_nonpos_of_nonneg h' (Int.le_of_lt (pow_pos_int s))
          omega
      rw [p2 this, p3 hb'']; rfl
  have hs2 : 0 < c → (s1 ^^ s2) = false := fun h0 => by
    rcases Int.lt_or_le 0 b with hb' | hb'
    · have : 0 < a := by
        rcases Int.lt_or_le 0 a with h' | h'
        · exact h'
        · have l1 := Int.mul_pos h0 hb'
          have l2 := Int.mul_nonpos_of_nonpos_of_nonneg h' (Int.le_of_lt (pow_pos_int s))
          omega
      rw [p2 this, p4 hb']; rfl
    · have hb'' : b < 0 := by omega
      have : a < 0 := by
        rcases Int.lt_or_le a 0 with h' | h'
        · exact h'
        · have l1 := Int.mul_neg_of_pos_of_neg h0 hb''
          have l2 := Int.mul_nonneg h' (Int.le_of_lt (pow_pos_int s))
          omega
      rw [p1 this, p3 hb'']; rfl
  by_cases ha : a = 0
  · subst ha
    have hc0 : c = 0 := by
      rw [Int.zero_mul] at hc
      rcases Int.mul_eq_zero.1 hc with h' | h'
      · exact h'
      · exact absurd h' hb
    subst hc0
    simp only [Int.natAbs_zero, Nat.zero_mul, Nat.zero_shiftLeft, Nat.zero_div, Nat.zero_mod, Nat.mul_zero, bne_self_eq_false, Bool.toNat_false, Nat.add_zero, Format.nearest, if_true]
    exact read_zero k.format (fineK k) _ _ h2
  · have ham : a.natAbs * 2 ^ q ≠ 0 := Nat.mul_ne_zero (by omega) (Nat.pos_iff_ne_zero.1 (Nat.two_pow_pos q))
    generalize hmore : k.format.fractionBits + 2 + (b.natAbs * 2 ^ u).log2 - (a.natAbs * 2 ^ q).log2 = more
    rw [Nat.shiftLeft_eq]
    -- the quotient has more digits than c
    have big : u + s ≤ q + more := by
      apply Decidable.byContradiction
      intro hlt
      have hlt' : q + more < u + s := by omega
      obtain ⟨v, hv⟩ : ∃ v, u + s = q + more + v ∧ 1 ≤ v := ⟨u + s - (q + more), by omega, by omega⟩
      have l1 := Nat.log2_self_le ham
      have l2 : b.natAbs * 2 ^ u < 2 ^ ((b.natAbs * 2 ^ u).log2 + 1) := Nat.lt_log2_self
      have l3 : 2 ^ (k.format.fractionBits + 1) * 2 ^ ((b.natAbs * 2 ^ u).log2 + 1) ≤ a.natAbs * 2 ^ q * 2 ^ more := by
        have : 2 ^ (k.format.fractionBits + 1) * 2 ^ ((b.natAbs * 2 ^ u).log2 + 1) ≤ 2 ^ (a.natAbs * 2 ^ q).log2 * 2 ^ more := by
          rw [← Nat.pow_add, ← Nat.pow_add]
          exact Nat.pow_le_pow_right (by omega) (by omega)
        exact Nat.le_trans this (Nat.mul_le_mul_right _ l1)
      have l4 : a.natAbs * 2 ^ q * 2 ^ more * 2 ^ v = c.natAbs * (b.natAbs * 2 ^ u) := by
        have e1 : a.natAbs * 2 ^ q * 2 ^ more * 2 ^ v = a.natAbs * 2 ^ (q + more + v) := by rw [Nat.pow_add, Nat.pow_add]; ac_rfl
        rw [e1, ← hv.1, Nat.pow_add, ← Nat.mul_assoc c.natAbs, hcn]; ac_rfl
      have l5 : c.natAbs * (b.natAbs * 2 ^ u) ≤ c.natAbs * 2 ^ ((b.natAbs * 2 ^ u).log2 + 1) := Nat.mul_le_mul_left _ (Nat.le_of_lt l2)
      have l6 : c.natAbs * 2 ^ ((b.natAbs * 2 ^ u).log2 + 1) < 2 ^ (k.format.fractionBits + 1) * 2 ^ ((b.natAbs * 2 ^ u).log2 + 1) :=
        Nat.mul_lt_mul_of_pos_right h (Nat.two_pow_pos _)
      have l7 : a.natAbs * 2 ^ q * 2 ^ more ≤ a.natAbs * 2 ^ q * 2 ^ more * 2 ^ v := Nat.le_mul_of_pos_right _ (Nat.two_pow_pos v)
      omega
    obtain ⟨K, hK⟩ : ∃ K, q + more = u + s + K := ⟨q + more - (u + s), by omega⟩
    have hdiv : a.natAbs * 2 ^ q * 2 ^ more = c.natAbs * 2 ^ K * (b.natAbs * 2 ^ u) := by
      have e1 : a.natAbs * 2 ^ q * 2 ^ more = a.natAbs * 2 ^ (q + more) := by rw [Nat.pow_add]; ac_rfl
      rw [e1, hK, Nat.pow_add, Nat.pow_add]
      have e2 : a.natAbs * (2 ^ u * 2 ^ s * 2 ^ K) = a.natAbs * 2 ^ s * (2 ^ u * 2 ^ K) := by ac_rfl
      rw [e2, ← hcn]; ac_rfl
    rw [hdiv, Nat.mul_div_cancel _ (Nat.pos_iff_ne_zero.2 hn0), Nat.mul_mod_left]
    have e3 : 2 * (c.natAbs * 2 ^ K) + ((0 : Nat) != 0).toNat = c.natAbs * 2 ^ (K + 1) := by
      rw [Nat.pow_succ]; simp; ac_rfl
    have e4 : -((q + t : Nat) : Int) - -((u + t' : Nat) : Int) - (more : Int) - 1 = -((K + 1 + (t + s - t') : Nat) : Int) := by omega
    rw [e3, e4]
    exact nearest_dy k.format (fineK k) _ c (t + s - t') h2 h hs1 hs2 (K + 1)

/-- A finite word. -/
def Fin32 (f : Format) (b : Nat) : Prop := ∃ s m e, f.read b = .number s m e
theorem Dy.fin {f : Format} {t b : Nat} {a : Int} (h : Dy f t b a) : Fin32 f b := by
  obtain ⟨s, q, e, _⟩ := h
  exact ⟨_, _, _, e⟩
theorem mul_fin (k : FloatKind) {x y : Nat} (hx : Fin32 k.format x) (hy : Fin32 k.format y) : ∃ r, floatBits .mul k x y = some r := by
  obtain ⟨s, m, e, h1⟩ := hx
  obtain ⟨s', m', e', h2⟩ := hy
  show ∃ r, ((k.format.read x).product (k.format.read y)).map k.format.write = some r
  rw [h1, h2]
  exact ⟨_, rfl⟩
theorem add_fin (k : FloatKind) {x y : Nat} (hx : Fin32 k.format x) (hy : Fin32 k.format y) : ∃ r, floatBits .add k x y = some r := by
  obtain ⟨s, m, e, h1⟩ := hx
  obtain ⟨s', m', e', h2⟩ := hy
  show ∃ r, ((k.format.read x).sum (k.format.read y)).map k.format.write = some r
  rw [h1, h2]
  exact ⟨_, rfl⟩
theorem quo_fin (k : FloatKind) {x y : Nat} (hx : Fin32 k.format x) {s : Bool} {m : Nat} {e : Int} (hy : k.format.read y = .number s m e) (hm : m ≠ 0) : ∃ r, floatBits .quo k x y = some r := by
  obtain ⟨s', m', e', h1⟩ := hx
  show ∃ r, ((k.format.read x).quotient (k.format.fractionBits + 2) (k.format.read y)).map k.format.write = some r
  rw [h1, hy]
  simp only [Datum.quotient]
  rw [if_neg hm]
  exact ⟨_, rfl⟩
theorem bits_lt {op : BinOp} {x y r : Nat} (h : floatBits op .f32 x y = some r) : r < 4294967296 := by
  have := floatBits_wf h
  simpa [Lit.wf] using this
end Go.Proofs.YtglnfccglgladaaDoor
