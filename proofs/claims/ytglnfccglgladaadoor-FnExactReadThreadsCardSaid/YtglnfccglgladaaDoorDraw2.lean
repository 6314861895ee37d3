/-
  What is drawn: numbers in their ranges.
-/
import Derived.Test.YtglnfccglgladaaDoorDraw
namespace Go.Proofs.YtglnfccglgladaaDoor
open Go.RowKit
set_option linter.unusedVariables false

theorem Src.mono {w : World} {B g m m' : Nat} (h : Src w B g m) (hm : m ≤ m') : Src w B g m' := by
  obtain ⟨hB, A, n, cp, k, seed, hb, hk, hn, hcode⟩ := h
  exact ⟨hB, A, n, cp, k, seed, hb, by omega, hn, hcode⟩

/-- What a draw leaves: its result is as told, the source has moved on, nothing else has changed. -/
def Drawn (B g m : Nat) (w : World) (R : Value → Prop) (e : Ending) (w' : World) : Prop := ∃ v, e = .returned v ∧ R v ∧ Src w' B g m ∧ w.grownBy w' (some g)

def PickR (n : Int) (v : Value) : Prop := ∃ r : Int, v = .int .i64 r ∧ 0 ≤ r ∧ (r < n ∨ (r = 0 ∧ n ≤ 1))

set_option maxHeartbeats 1000000 in
theorem pick_c {w : World} {B g m : Nat} {n : Int} (hn : n ≤ 100000) (h : Src w B g m) (hm : m ≤ 900000) :
    Calls Tryd.prog 60 #[.pointer (some ⟨g, 0, none⟩), .int .i64 n] w (Drawn B g (m + 2) w (PickR n)) := by
  by_cases h1 : n ≤ 1
  · go_enter Tryd.func60, Tryd.ntmps60
    go_wp2
    go_ret
    exact ⟨_, rfl, ⟨0, rfl, Int.le_refl 0, .inr ⟨rfl, h1⟩⟩, h.mono (by omega), World.grownBy.refl _ _⟩
  · have h1' : 1 < n := by omega
    clear h1
    by_cases h2 : n ≤ 200
    · go_enter Tryd.func60, Tryd.ntmps60
      go_wp2_with (go_at_call 106; refine (next_c (by assumption) (by omega)).mono ?_; rintro e w1 ⟨z, rfl, z0, z1, hs, hg⟩)
      go_ret
      exact ⟨_, rfl, ⟨z % n, rfl, by have := Int.emod_nonneg z (show n ≠ 0 by omega); omega, .inl (Int.emod_lt_of_pos z (by omega))⟩, hs.mono (by omega), hg⟩
    · have h2' : 200 < n := by omega
      clear h2
      go_enter Tryd.func60, Tryd.ntmps60
      go_wp2_with (go_at_call 106; refine (next_c (by assumption) (by omega)).mono ?_; rintro e w1 ⟨z, rfl, z0, z1, hs, hg⟩)
      go_ret
      exact ⟨_, rfl, ⟨_, rfl, Int.emod_nonneg _ (by omega), .inl (Int.emod_lt_of_pos _ (by omega))⟩, hs, World.grownBy.trans (by assumption) hg⟩

theorem one_c {w : World} {B g m : Nat} {n : Int} (hn : n ≤ 100000) (h : Src w B g m) (hm : m ≤ 900000) :
    Calls Tryd.prog 84 #[.pointer (some ⟨g, 0, none⟩), .int .i64 n] w (Drawn B g (m + 2) w fun v => ∃ b : Bool, v = .bool b) := by
  go_enter Tryd.func84, Tryd.ntmps84
  go_wp2_with (go_at_call 60; refine (pick_c hn h hm).mono ?_; rintro e w1 ⟨v, rfl, ⟨r, rfl, r0, r1⟩, hs, hg⟩)
  go_ret
  exact ⟨_, rfl, ⟨_, rfl⟩, hs, hg⟩

theorem frombits_run (n : Int) (w : World) : (callFunc 88 #[.int .u32 n]).run Tryd.prog w = .ok (.value (.float .f32 n.toNat)) w := by
  kernel_rfl

theorem l01From_c {n : Int} (h0 : 0 ≤ n) (h1 : n ≤ 4294967295) (w : World) :
    Calls Tryd.prog 85 #[.int .i64 n] w fun e w' => e = .returned (.float .f32 n.toNat) ∧ w = w' := by
  go_enter Tryd.func85, Tryd.ntmps85
  go_wp2_with (simp only [frombits_run])
  go_ret
  exact ⟨rfl, rfl⟩

/-- A word of single precision that stands for a / 2 ^ t. -/
abbrev D32 (t b : Nat) (a : Int) : Prop := Dy FloatKind.f32.format t b a
theorem dy4 : D32 0 1082130432 4 := ⟨false, 21, by decide, by decide, by decide⟩
theorem small_q (a : Int) (h0 : -64 ≤ a) (h1 : a ≤ 64) : okf .quo .f32 (floatOfInt .f32 a) 1082130432 ∧ D32 2 (fop .quo .f32 (floatOfInt .f32 a) 1082130432) a ∧ fop .quo .f32 (floatOfInt .f32 a) 1082130432 < 4294967296 := by
  obtain ⟨r, e, hd⟩ := dy_quo .f32 (t := 0) (t' := 0) (s := 2) (a := a) (b := 4) (c := a) (dy_of .f32 a (by show _ < 16777216; omega)) dy4 (by decide) (by omega) (by show _ < 16777216; omega) (by omega) (by omega)
  exact ⟨by simp [okf, e], by simpa [fop, e] using hd, by simpa [fop, e] using bits_lt e⟩

def SmallR (v : Value) : Prop := ∃ (b : Nat) (a : Int), v = .float .f32 b ∧ D32 2 b a ∧ -16 ≤ a ∧ a ≤ 16 ∧ b < 4294967296

set_option maxHeartbeats 1000000 in
theorem small_c {w : World} {B g m : Nat} (h : Src w B g m) (hm : m ≤ 900000) :
    Calls Tryd.prog 109 #[.pointer (some ⟨g, 0, none⟩)] w (Drawn B g (m + 2) w SmallR) := by
  go_enter Tryd.func109, Tryd.ntmps109
  go_wp2_with (go_at_call 60; (refine (pick_c (by omega) h hm).mono ?_; rintro e w1 ⟨v, rfl, ⟨r, rfl, r0, r1⟩, hs, hg⟩; have r2 : r ≤ 32 := (by omega); clear r1; have q := small_q (r - 16) (by omega) (by omega); have e1 := q.1.rf (P := Tryd.prog); have Q := Lib.hid q.2; clear q))
  go_ret
  exact ⟨_, rfl, ⟨_, r - 16, rfl, Q.out.1, by omega, by omega, Q.out.2⟩, hs, hg⟩

/-! ### Any number -/
theorem written (f : Ieee.Format) (hf : Fine f) (s : Bool) (m : Nat) (p : Int) : (f.read (f.nearest s m p)).isNaN = false := by
  have hi := f.infRung_lt
  have key : ∀ r, r ≤ f.infRung → (f.read (f.word s r)).isNaN = false := fun r hr => by
    rcases Nat.lt_or_ge r f.infRung with h | h
    · rw [read_word f s r h]
      split <;> rfl
    · have e : r = f.infRung := by omega
      subst e
      have hb := binade_pos f
      have e1 : f.word s f.infRung % f.signWeight = f.infRung := by
        unfold Ieee.Format.word
        cases s
        · simp only [Bool.false_eq_true, if_false]; exact Nat.mod_eq_of_lt (by omega)
        · simp only [if_true]; rw [Nat.add_mod_left]; exact Nat.mod_eq_of_lt (by omega)
      have hn : ¬ f.infRung < f.binade := by
        have := hf.high
        rw [Nat.add_mul] at this
        omega
      unfold Ieee.Format.read
      simp only [e1, if_neg hn, Nat.lt_irrefl, if_false, if_true]
      rfl
  unfold Ieee.Format.nearest
  split
  · exact key 0 (Nat.zero_le _)
  · exact key _ (Nat.min_le_right _ _)

/-- A number, maybe infinite. -/
def NotNan (f : Ieee.Format) (b : Nat) : Prop := (f.read b).isNaN = false
theorem quo_nn {x y r : Nat} (hx : Fin32 FloatKind.f32.format x) {s : Bool} {m : Nat} {e : Int} (hy : FloatKind.f32.format.read y = .number s m e) (hm : m ≠ 0) (h : floatBits .quo .f32 x y = some r) : NotNan FloatKind.f32.format r := by
  obtain ⟨s', m', e', h1⟩ := hx
  have h' : ((FloatKind.f32.format.read x).quotient (FloatKind.f32.format.fractionBits + 2) (FloatKind.f32.format.read y)).map FloatKind.f32.format.write = some r := h
  rw [h1, hy] at h'
  simp only [Ieee.Datum.quotient] at h'
  rw [if_neg hm] at h'
  simp only [Option.map_some, Option.some.injEq] at h'
  subst h'
  exact written _ (fineK .f32) _ _ _
/-- Times a number that is not zero. -/
theorem mul_nn {x y : Nat} (hx : NotNan FloatKind.f32.format x) {s : Bool} {m : Nat} {e : Int} (hy : FloatKind.f32.format.read y = .number s m e) (hm : m ≠ 0) : okf .mul .f32 x y := by
  unfold okf
  show (((FloatKind.f32.format.read x).product (FloatKind.f32.format.read y)).map FloatKind.f32.format.write).isSome = true
  unfold NotNan at hx
  rw [hy]
  cases h : FloatKind.f32.format.read x with
  | number s' m' e' => rfl
  | infinity s' => simp [Ieee.Datum.product, hm]
  | nan s' t => rw [h] at hx; cases hx

def PlainR (v : Value) : Prop := ∃ b : Nat, v = .float .f32 b ∧ b < 4294967296 ∧ NotNan FloatKind.f32.format b
theorem plain_q (a : Int) (h0 : -64 ≤ a) (h1 : a ≤ 64) (y : Nat) (hy : y = 1088421888 ∨ y = 1098907648) : okf .quo .f32 (floatOfInt .f32 a) y ∧ PlainR (.float .f32 (fop .quo .f32 (floatOfInt .f32 a) y)) := by
  have hx : Fin32 FloatKind.f32.format (floatOfInt .f32 a) := (dy_of .f32 a (by show _ < 16777216; omega)).fin
  obtain ⟨s, m, e, hr, hm⟩ : ∃ s m e, FloatKind.f32.format.read y = .number s m e ∧ m ≠ 0 := by
    rcases hy with rfl | rfl
    · exact ⟨false, 14680064, -21, by decide, by decide⟩
    · exact ⟨false, 8388608, -19, by decide, by decide⟩
  obtain ⟨r, hq⟩ := quo_fin .f32 hx hr hm
  have e1 : fop .quo .f32 (floatOfInt .f32 a) y = r := by simp [fop, hq]
  exact ⟨by simp [okf, hq], r, by rw [e1], bits_lt hq, quo_nn hx hr hm hq⟩

set_option maxHeartbeats 1000000 in
theorem plain_c {w : World} {B g m : Nat} (h : Src w B g m) (hm : m ≤ 800000) :
    Calls Tryd.prog 125 #[.pointer (some ⟨g, 0, none⟩)] w (Drawn B g (m + 4) w PlainR) := by
  go_enter Tryd.func125, Tryd.ntmps125
  go_wp2_with (first
    | (go_at_call 60; refine (pick_c (by omega) h (by omega)).mono ?_; rintro e w1 ⟨v, rfl, ⟨r, rfl, r0, r1⟩, hs, hg⟩; have r2 : r ≤ 128 := (by omega); clear r1; have q := plain_q (r - 64) (by omega) (by omega) _ (.inl rfl); have q' := plain_q (r - 64) (by omega) (by omega) _ (.inr rfl); have e1 := q.1.rf (P := Tryd.prog); have e2 := q'.1.rf (P := Tryd.prog); have Q := Lib.hid q.2; have Q' := Lib.hid q'.2; clear q q')
    | (go_at_call 84; refine (one_c (by omega) (by assumption) (by omega)).mono ?_; rintro e w2 ⟨v, rfl, ⟨b, rfl⟩, hs, hg⟩))
  all_goals go_ret
  all_goals exact ⟨_, rfl, by first | exact Q.out | exact Q'.out, by assumption, World.grownBy.trans (by assumption) (by assumption)⟩
end Go.Proofs.YtglnfccglgladaaDoor
