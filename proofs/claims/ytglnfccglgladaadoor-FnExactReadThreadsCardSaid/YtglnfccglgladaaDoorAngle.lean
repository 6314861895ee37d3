/-
  The angle of a point: all operations are valid at finite coordinates, and the result is a word of single precision. (No program in sight.)
-/
import Derived.Test.YtglnfccglgladaaDoorBd2
import Derived.Test.YtglnfccglgladaaDoorNanD
namespace Go.Proofs.YtglnfccglgladaaDoor
open Go.RowKit Ieee
set_option linter.unusedVariables false

theorem okf_of {op : BinOp} {k : FloatKind} {x y r : Nat} (h : floatBits op k x y = some r) : okf op k x y ∧ fop op k x y = r := by
  unfold okf fop
  rw [h]
  exact ⟨rfl, rfl⟩
theorem okq_of {x r : Nat} (h : FloatKind.f64.format.sqrt x = some r) : okq x ∧ qop x = r := by
  unfold okq qop
  rw [h]
  exact ⟨rfl, rfl⟩
theorem okc_of {s k : FloatKind} {x r : Nat} (h : floatToFloatBits s x k = some r) : okc s x k ∧ cop s x k = r := by
  unfold okc cop
  rw [h]
  exact ⟨rfl, rfl⟩

/-- The words of whole numbers. -/
theorem ofInt_bd (k : FloatKind) (n K : Nat) (hf : Holds k.format K) (h1 : 1 ≤ n) (h : n ≤ 2 ^ K) : Bd k (floatOfInt k n) K ∧ Ge1 k (floatOfInt k n) := by
  have hl : LeP n 0 K := ⟨0, by omega, by simpa using h⟩
  have hg : GeP n 0 := ⟨0, by omega, by simpa using h1⟩
  obtain ⟨m', e', hr, hl', hg'⟩ := nearest_bd k.format false n 0 K hf hl
  have e : floatOfInt k n = k.format.nearest false n 0 := by
    unfold floatOfInt FloatKind.nearest FloatKind.encode
    have : decide ((n : Int) < 0) = false := by simp
    rw [this, Int.natAbs_natCast]
    rfl
  rw [e]
  exact ⟨⟨_, _, _, hr, hl'⟩, ⟨_, _, hr, hg' hg⟩⟩

abbrev one64 : Nat := 4607182418800017408
theorem one64_of : floatOfInt .f64 ((1 : Nat) : Int) = one64 := by decide +kernel
theorem one64_bd : Bd .f64 one64 0 := by
  have := (ofInt_bd .f64 1 0 (holds64 (by omega)) (by omega) (by omega)).1
  rwa [one64_of] at this
theorem one64_ge : Ge1 .f64 one64 := by
  have := (ofInt_bd .f64 1 0 (holds64 (by omega)) (by omega) (by omega)).2
  rwa [one64_of] at this

/-- One halving of the tangent. -/
def tNext (t : Nat) : Nat := fop .quo .f64 t (fop .add .f64 one64 (qop (fop .add .f64 one64 (fop .mul .f64 t t))))
structure TOk (t : Nat) : Prop where
  o1 : okf .mul .f64 t t
  o2 : okf .add .f64 one64 (fop .mul .f64 t t)
  o3 : okq (fop .add .f64 one64 (fop .mul .f64 t t))
  o4 : okf .add .f64 one64 (qop (fop .add .f64 one64 (fop .mul .f64 t t)))
  o5 : okf .quo .f64 t (fop .add .f64 one64 (qop (fop .add .f64 one64 (fop .mul .f64 t t))))
theorem tNext_ok {t : Nat} (h : Bd .f64 t 0) : TOk t ∧ Bd .f64 (tNext t) 0 := by
  obtain ⟨a, e1, b1, n1⟩ := square_bd .f64 (holds64 (by omega)) h
  obtain ⟨k1, f1⟩ := okf_of e1
  obtain ⟨b, e2, b2, _, g2⟩ := add_bd .f64 (holds64 (by omega)) one64_bd b1
  obtain ⟨k2, f2⟩ := okf_of e2
  have g2 := g2 one64_ge n1
  obtain ⟨c, e3, b3, n3⟩ := sqrt_bd (by omega) b2 g2.nn
  obtain ⟨k3, f3⟩ := okq_of e3
  obtain ⟨d, e4, b4, _, g4⟩ := add_bd .f64 (K := 1) (holds64 (by omega)) (one64_bd.mono (by omega)) b3
  obtain ⟨k4, f4⟩ := okf_of e4
  have g4 := g4 one64_ge n3
  obtain ⟨e, e5, b5⟩ := quo_bd .f64 (holds64 (by omega)) h g4
  obtain ⟨k5, f5⟩ := okf_of e5
  unfold tNext
  refine ⟨⟨?_, ?_, ?_, ?_, ?_⟩, ?_⟩ <;> first | assumption | (simp only [f1, f2, f3, f4, f5]; assumption)
def tSeq (t : Nat) : Nat → Nat
  | 0 => t
  | k + 1 => tNext (tSeq t k)
theorem tSeq_bd {t : Nat} (h : Bd .f64 t 0) : ∀ k, Bd .f64 (tSeq t k) 0
  | 0 => h
  | k + 1 => (tNext_ok (tSeq_bd h k)).2

/-- One step of the row. -/
def kAt (i : Nat) : Nat := floatOfInt .f64 ((15 - 2 * i : Nat) : Int)
def pNext (u i p : Nat) : Nat := fop .sub .f64 (fop .quo .f64 one64 (kAt i)) (fop .mul .f64 u p)
structure POk (u i p : Nat) : Prop where
  o1 : okf .quo .f64 one64 (kAt i)
  o2 : okf .mul .f64 u p
  o3 : okf .sub .f64 (fop .quo .f64 one64 (kAt i)) (fop .mul .f64 u p)
theorem pNext_ok {u i p K : Nat} (hi : i < 8) (hu : Bd .f64 u 0) (hp : Bd .f64 p K) (hK : K ≤ 100) : POk u i p ∧ Bd .f64 (pNext u i p) (K + 1) := by
  have hk := (ofInt_bd .f64 (15 - 2 * i) 4 (holds64 (by omega)) (by omega) (by omega)).2
  obtain ⟨a, e1, b1⟩ := quo_bd .f64 (holds64 (by omega)) one64_bd hk
  obtain ⟨k1, f1⟩ := okf_of e1
  obtain ⟨b, e2, b2, _⟩ := mul_bd .f64 (holds64 (by omega)) hu hp
  obtain ⟨k2, f2⟩ := okf_of e2
  rw [Nat.zero_add] at b2
  obtain ⟨c, e3, b3⟩ := sub_bd .f64 (K := K) (holds64 (by omega)) (b1.mono (by omega)) b2
  obtain ⟨k3, f3⟩ := okf_of e3
  unfold pNext kAt
  refine ⟨⟨?_, ?_, ?_⟩, ?_⟩ <;> (try unfold kAt) <;> first | assumption | (simp only [f1, f2, f3]; assumption)
def pSeq (u : Nat) : Nat → Nat
  | 0 => 0
  | i + 1 => pNext u i (pSeq u i)
theorem zero64_bd : Bd .f64 0 0 := ⟨false, 0, -1074, by decide +kernel, LeP.zero _ _⟩
theorem pSeq_bd {u : Nat} (hu : Bd .f64 u 0) : ∀ i, i ≤ 8 → Bd .f64 (pSeq u i) i
  | 0, _ => zero64_bd
  | i + 1, h => (pNext_ok (by omega) hu (pSeq_bd hu i (by omega)) (by omega)).2

/-- A finite number. -/
theorem finB_num {x : Nat} (h : finB x = true) : ∃ s m e, FloatKind.f32.format.read x = .number s m e := by
  unfold finB at h
  have hf : floatBits .sub .f32 x x = ((FloatKind.f32.format.read x).sum (FloatKind.f32.format.read x).opposite).map FloatKind.f32.format.write := rfl
  cases hr : FloatKind.f32.format.read x with
  | number s m e => exact ⟨s, m, e, rfl⟩
  | infinity s =>
    rw [hf, hr] at h
    cases s <;> simp [Datum.opposite, Datum.sum] at h
  | nan s t =>
    rw [hf, hr] at h
    simp [Datum.sum] at h
theorem num_bd {x : Nat} (hx : W32 x) {s : Bool} {m : Nat} {e : Int} (h : FloatKind.f32.format.read x = .number s m e) : LeP m e 128 := by
  rcases read32 hx with ⟨neg, r, hr, rfl⟩ | ⟨neg, rfl⟩ | ⟨s, t, h'⟩
  · have hb : FloatKind.f32.format.binade = 8388608 := by decide
    have hl : FloatKind.f32.format.leastPlace = -149 := by decide
    have hi : FloatKind.f32.format.infRung = 2139095040 := by decide
    have hw := read_word FloatKind.f32.format neg r hr
    rw [hb, hl] at hw
    rw [hi] at hr
    have hm : m ≤ 2 ^ 24 ∧ -149 ≤ e ∧ e ≤ 104 := by
      split at hw
      · rw [h] at hw
        cases hw
        omega
      · rw [h] at hw
        cases hw
        omega
    obtain ⟨j, hj⟩ : ∃ j : Nat, j = 149 := ⟨_, rfl⟩
    refine ⟨j, by omega, ?_⟩
    have key : ∀ a b c : Nat, m ≤ 2 ^ a → a + b ≤ c → m * 2 ^ b ≤ 2 ^ c := fun a b c h1 h2 => by
      refine Nat.le_trans (Nat.mul_le_mul_right _ h1) ?_
      rw [← Nat.pow_add]
      exact Nat.pow_le_pow_right (by decide) h2
    exact key 24 _ _ hm.1 (by omega)
  · exact absurd h (read_inf .f32 neg s m e)
  · rw [h] at h'
    cases h'
end Go.Proofs.YtglnfccglgladaaDoor
