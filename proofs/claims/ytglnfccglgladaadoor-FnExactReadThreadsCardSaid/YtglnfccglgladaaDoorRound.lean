/-
  A word that is read and written anew is the same word; words of one number are one word; what the operations write are words.
-/
import Derived.Test.YtglnfccglgladaaDoorNeg
namespace Go.Proofs.YtglnfccglgladaaDoor
open Go.RowKit Ieee
set_option linter.unusedVariables false

theorem cut_zero (neg : Bool) (n : Nat) : Toward.even.cut neg n 0 = n := by
  have := cut_exact neg n 0
  rwa [Nat.pow_zero, Nat.mul_one] at this
theorem log2_top {F m : Nat} (h1 : 2 ^ F ≤ m) (h2 : m < 2 ^ (F + 1)) : m.log2 = F := by
  have hp := Nat.two_pow_pos F
  have a := (Nat.log2_lt (by omega)).2 h2
  have b : ¬ m.log2 < F := fun h => by have := (Nat.log2_lt (n := m) (by omega)).1 h; omega
  omega
/-- Written anew. -/
theorem nearest_read (f : Format) (neg : Bool) (r : Nat) (h : r < f.infRung) {s : Bool} {m : Nat} {e : Int} (hr : f.read (f.word neg r) = .number s m e) : f.nearest s m e = f.word neg r := by
  have hb := binade_pos f
  have hF : f.binade = 2 ^ f.fractionBits := rfl
  rw [read_word f neg r h] at hr
  split at hr
  · rename_i hlt
    cases hr
    unfold Format.nearest
    by_cases h0 : r = 0
    · rw [if_pos h0, h0]
    · rw [if_neg h0]
      have hl : r.log2 < f.fractionBits := (Nat.log2_lt h0).2 (by rw [← hF]; exact hlt)
      have e1 : max (f.leastPlace + (r.log2 : Int) - (f.fractionBits : Int)) f.leastPlace = f.leastPlace := by omega
      dsimp only
      rw [e1, Int.sub_self]
      simp only [Int.toNat_zero, Nat.shiftLeft_zero, cut_zero, Nat.zero_mul, Nat.zero_add]
      rw [Nat.min_eq_left (by omega)]
  · rename_i hge
    cases hr
    have hm := Nat.mod_lt r hb
    have hl : (f.binade + r % f.binade).log2 = f.fractionBits := log2_top (by rw [← hF]; omega) (by rw [Nat.pow_succ, ← hF]; omega)
    have hd : 1 ≤ r / f.binade := (Nat.le_div_iff_mul_le hb).2 (by omega)
    unfold Format.nearest
    rw [if_neg (by omega), hl]
    have e1 : max (f.leastPlace + ((r / f.binade - 1 : Nat) : Int) + (f.fractionBits : Int) - (f.fractionBits : Int)) f.leastPlace = f.leastPlace + ((r / f.binade - 1 : Nat) : Int) := by omega
    dsimp only
    rw [e1, Int.sub_self]
    have e2 : (f.leastPlace + ((r / f.binade - 1 : Nat) : Int) - f.leastPlace).toNat = r / f.binade - 1 := by omega
    rw [e2]
    simp only [Int.toNat_zero, Nat.shiftLeft_zero, cut_zero]
    have e3 : (r / f.binade - 1) * f.binade + (f.binade + r % f.binade) = r := by
      have := Nat.div_add_mod r f.binade
      have e4 : (r / f.binade - 1) * f.binade + f.binade = r / f.binade * f.binade := by
        rw [← Nat.succ_mul]; congr 1; omega
      rw [Nat.mul_comm] at this
      omega
    rw [e3, Nat.min_eq_left (by omega)]

/-- A finite word of the format. -/
def Word (f : Format) (b : Nat) : Prop := ∃ neg r, r < f.infRung ∧ b = f.word neg r
/-- The word of a number that isn't nought is settled by the number. -/
theorem dy_word (f : Format) {b : Nat} {a : Int} {t : Nat} (h : Dy f t b a) (hw : Word f b) (h0 : a ≠ 0) : b = f.nearest (decide (a < 0)) a.natAbs (-(t : Int)) := by
  obtain ⟨s, q, hr, h1, h2⟩ := h
  obtain ⟨neg, r, hlt, rfl⟩ := hw
  have := nearest_read f neg r hlt hr
  rw [← this]
  have e : (-((q + t : Nat) : Int)) = -(t : Int) - (q : Int) := by omega
  rw [e, nearest_shift]
  have hs : s = decide (a < 0) := by
    rcases Int.lt_or_lt_of_ne h0 with h | h
    · rw [h1 h]; simp [h]
    · rw [h2 h]; simp; omega
  rw [hs]
theorem dy_unique (f : Format) {b b' : Nat} {a : Int} {t : Nat} (h : Dy f t b a) (h' : Dy f t b' a) (hw : Word f b) (hw' : Word f b') (h0 : a ≠ 0) : b = b' := by
  rw [dy_word f h hw h0, dy_word f h' hw' h0]

theorem binade_le (k : FloatKind) : k.format.binade ≤ k.format.infRung := by cases k <;> decide
theorem read_inf (k : FloatKind) (neg : Bool) : ∀ s m e, k.format.read (k.format.word neg k.format.infRung) ≠ .number s m e := by
  intro s m e h
  have hs := k.format.infRung_lt
  have hp := sw_pos k.format
  have hb := binade_le k
  have e1 : k.format.word neg k.format.infRung % k.format.signWeight = k.format.infRung := by
    unfold Format.word
    cases neg
    · simp only [Bool.false_eq_true, if_false]; exact Nat.mod_eq_of_lt (by omega)
    · simp only [if_true]; rw [Nat.add_mod_left]; exact Nat.mod_eq_of_lt (by omega)
  unfold Format.read at h
  simp only [e1] at h
  rw [if_neg (by omega), if_neg (by omega), if_pos trivial] at h
  cases h
theorem nearest_word (k : FloatKind) (neg : Bool) (m : Nat) (p : Int) {s' : Bool} {m' : Nat} {e' : Int} (h : k.format.read (k.format.nearest neg m p) = .number s' m' e') : Word k.format (k.format.nearest neg m p) := by
  unfold Format.nearest at h ⊢
  split
  · exact ⟨neg, 0, Nat.lt_of_lt_of_le (binade_pos _) (binade_le k), rfl⟩
  · rename_i hm
    rw [if_neg hm] at h
    dsimp only at h ⊢
    generalize (max (p + (m.log2 : Int) - (k.format.fractionBits : Int)) k.format.leastPlace - k.format.leastPlace).toNat * k.format.binade + _ = r at h ⊢
    by_cases hr : r < k.format.infRung
    · rw [Nat.min_eq_left (Nat.le_of_lt hr)]
      exact ⟨neg, r, hr, rfl⟩
    · rw [Nat.min_eq_right (by omega)] at h
      exact absurd h (read_inf k neg _ _ _)

theorem write_word (k : FloatKind) (d : Datum) {s' : Bool} {m' : Nat} {e' : Int} (h : k.format.read (k.format.write d) = .number s' m' e') (hn : ∀ s t, d ≠ .nan s t) : Word k.format (k.format.write d) := by
  cases d with
  | number s m e => exact nearest_word k s m e h
  | infinity s => exact absurd h (read_inf k s _ _ _)
  | nan s t => exact absurd rfl (hn s t)
theorem add_word {k : FloatKind} {x y r : Nat} (h : floatBits .add k x y = some r) {t : Nat} {a : Int} (hd : Dy k.format t r a) : Word k.format r := by
  obtain ⟨s, q, hr, _, _⟩ := hd
  have h : ((k.format.read x).sum (k.format.read y)).map k.format.write = some r := h
  obtain ⟨d, hd, rfl⟩ := Option.map_eq_some_iff.1 h
  refine write_word k d hr (fun s t e => ?_)
  subst e
  unfold Datum.sum at hd
  split at hd <;> first | cases hd | (split at hd <;> cases hd)
theorem conv_word {k k' : FloatKind} {x r : Nat} (hne : k ≠ k') (h : floatToFloatBits k x k' = some r) {t : Nat} {a : Int} (hd : Dy k'.format t r a) : Word k'.format r := by
  obtain ⟨s, q, hr, _, _⟩ := hd
  unfold floatToFloatBits at h
  rw [if_neg hne] at h
  split at h
  · cases h
  · cases h
    exact write_word k' _ hr (fun s t e => by cases e)
  · split at h
    · cases h
    · cases h
      exact write_word k' _ hr (fun s t e => by cases e)
end Go.Proofs.YtglnfccglgladaaDoor
