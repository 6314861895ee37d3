/-
  The absolute value; subnormal numbers, and what becomes of them.
-/
import Derived.Test.YtglnfccglgladaaDoorAngle
import Derived.Test.YtglnfccglgladaaDoorRead
import Derived.Test.YtglnfccglgladaaDoorSame
import Derived.Laws.BitsAllLaws
namespace Go.Proofs.YtglnfccglgladaaDoor
open Go.RowKit Ieee
set_option linter.unusedVariables false

theorem bits64_any (x : Nat) (w : World) : (callFunc 131 #[.float .f64 x]).run Tryd.prog w = .ok (.value (.int .u64 x)) w := by
  kernel_rfl
theorem frombits64_any (x : Nat) (w : World) : (callFunc 130 #[.int .u64 (x : Int)]).run Tryd.prog w = .ok (.value (.float .f64 x)) w := by
  kernel_rfl
set_option maxRecDepth 100000 in
theorem abs64_c {x : Nat} (hx : x < 18446744073709551616) (w : World) : Calls Tryd.prog 102 #[.float .f64 x] w fun e w' => e = .returned (.float .f64 (x % 9223372036854775808)) ∧ w = w' := by
  have hb : bits .andNot .u64 (x : Int) 9223372036854775808 = ((x % 9223372036854775808 : Nat) : Int) := by
    have := u64_andNot_nat x 9223372036854775808 hx (by omega)
    rw [show (((9223372036854775808 : Nat) : Int)) = 9223372036854775808 from rfl] at this
    rw [this, show (18446744073709551615 - 9223372036854775808 : Nat) = 2 ^ 63 - 1 from rfl, Nat.and_two_pow_sub_one_eq_mod]
  generalize x % 9223372036854775808 = r at hb ⊢
  clear hx
  go_enter Tryd.func102, Tryd.ntmps102
  go_wp2_with (first | simp only [bits64_any] | simp only [frombits64_any])
  go_ret
  exact ⟨rfl, rfl⟩
set_option maxRecDepth 100000 in
theorem abs32_c {x : Nat} (hx : W32 x) (w : World) : Calls Tryd.prog 100 #[.float .f32 x] w fun e w' => e = .returned (.float .f32 (x % 2147483648)) ∧ w = w' := by
  have hb : bits .andNot .u32 (x : Int) 2147483648 = ((x % 2147483648 : Nat) : Int) := by
    have := u32_andNot_nat x 2147483648 hx (by omega)
    rw [show (((2147483648 : Nat) : Int)) = 2147483648 from rfl] at this
    rw [this, show (4294967295 - 2147483648 : Nat) = 2 ^ 31 - 1 from rfl, Nat.and_two_pow_sub_one_eq_mod]
  generalize x % 2147483648 = r at hb ⊢
  clear hx
  go_enter Tryd.func100, Tryd.ntmps100
  go_wp2_with (first | simp only [bits32_any] | simp only [frombits_any])
  go_ret
  exact ⟨rfl, rfl⟩

def subB (x : Nat) : Bool := (FloatKind.f32.format.order x 0 != some .eq) && (FloatKind.f32.format.order (x % 2147483648) 8388608 == some .lt)
theorem isSub_c {x : Nat} (hx : W32 x) (w : World) : Calls Tryd.prog 54 #[.float .f32 x] w fun e w' => e = .returned (.bool (subB x)) ∧ w = w' := by
  have A := Lib.hid (fun w => abs32_c hx w)
  have hs : Hid (subB x = ((FloatKind.f32.format.order x 0 != some .eq) && (FloatKind.f32.format.order (x % 2147483648) 8388608 == some .lt))) := Lib.hid rfl
  generalize x % 2147483648 = a at A hs
  clear hx
  cases h1 : (FloatKind.f32.format.order x 0 != some .eq) with
  | false =>
    have hv : Hid (subB x = false) := Lib.hid (by rw [hs.out, h1]; rfl)
    go_enter Tryd.func54, Tryd.ntmps54
    go_wp2
    go_ret
    exact ⟨by rw [hv.out]; rfl, rfl⟩
  | true =>
    have hv : Hid (subB x = (FloatKind.f32.format.order a 8388608 == some .lt)) := Lib.hid (by rw [hs.out, h1]; rfl)
    go_enter Tryd.func54, Tryd.ntmps54
    go_wp2_with (go_at_call 100; refine (A.out _).mono ?_; rintro e w1 ⟨rfl, rfl⟩)
    go_ret
    exact ⟨by rw [hv.out]; rfl, rfl⟩
/-- A subnormal number becomes a zero of its sign. -/
def flushed (x : Nat) : Nat := if subB x then x &&& 2147483648 else x
set_option maxRecDepth 100000 in
theorem flush_c {x : Nat} (hx : W32 x) (w : World) : Calls Tryd.prog 49 #[.float .f32 x] w fun e w' => e = .returned (.float .f32 (flushed x)) ∧ w = w' := by
  have S := Lib.hid (fun w => isSub_c hx w)
  have hb : bits .and .u32 (x : Int) 2147483648 = ((x &&& 2147483648 : Nat) : Int) := u32_and_nat x 2147483648 hx (by omega)
  cases h : subB x with
  | true =>
    have F : Hid (flushed x = x &&& 2147483648) := Lib.hid (by unfold flushed; rw [h]; rfl)
    rw [h] at S
    generalize x &&& 2147483648 = r at hb F
    clear hx h
    go_enter Tryd.func49, Tryd.ntmps49
    go_wp2_with (first | (go_at_call 54; refine (S.out _).mono ?_; rintro e w1 ⟨rfl, rfl⟩) | simp only [bits32_any] | simp only [frombits_any])
    go_ret
    exact ⟨by rw [F.out]; rfl, rfl⟩
  | false =>
    have F : Hid (flushed x = x) := Lib.hid (by unfold flushed; rw [h]; rfl)
    rw [h] at S
    clear hx h hb
    go_enter Tryd.func49, Tryd.ntmps49
    go_wp2_with (go_at_call 54; refine (S.out _).mono ?_; rintro e w1 ⟨rfl, rfl⟩)
    go_ret
    exact ⟨by rw [F.out]; rfl, rfl⟩
theorem and_top {x : Nat} : x &&& 2147483648 = 0 ∨ x &&& 2147483648 = 2147483648 := by
  have e : (2147483648 : Nat) = 2 ^ 31 := by decide
  rw [e]
  cases h : x.testBit 31 with
  | false =>
    left
    apply Nat.eq_of_testBit_eq
    intro i
    rw [Nat.testBit_and, Nat.testBit_two_pow, Nat.zero_testBit]
    by_cases hi : 31 = i
    · subst hi; rw [h]; rfl
    · simp [hi]
  | true =>
    right
    apply Nat.eq_of_testBit_eq
    intro i
    rw [Nat.testBit_and, Nat.testBit_two_pow]
    by_cases hi : 31 = i
    · subst hi; rw [h]; rfl
    · simp [hi]
theorem flushed_w32 {x : Nat} (hx : W32 x) : W32 (flushed x) := by
  unfold flushed W32 at *
  split
  · rcases @and_top x with h | h <;> omega
  · exact hx
theorem zero_plain {z : Nat} (h : z = 0 ∨ z = 2147483648) : FloatKind.f32.format.order z 0 = some .eq ∧ nan32 z = false := by
  rcases h with rfl | rfl <;> exact ⟨by decide +kernel, by decide +kernel⟩
/-- What is flushed is not subnormal. -/
theorem flushed_plain (x : Nat) : subB (flushed x) = false := by
  unfold flushed
  cases h : subB x with
  | true =>
    simp only [if_true]
    have := (zero_plain (@and_top x)).1
    unfold subB
    rw [this]
    rfl
  | false => simpa using h
/-- A number is the same as it is flushed, unless it is subnormal. -/
theorem flushed_same (x : Nat) : (subB x == sameN x (flushed x)) = false := by
  cases h : subB x with
  | false =>
    have : flushed x = x := by unfold flushed; rw [h]; rfl
    rw [this]
    have : sameN x x = true := by unfold sameN; cases nan32 x <;> simp
    rw [this]
    rfl
  | true =>
    have hf : flushed x = x &&& 2147483648 := by unfold flushed; rw [h]; rfl
    obtain ⟨z0, z1⟩ := zero_plain (@and_top x)
    have hs : sameN x (x &&& 2147483648) = false := by
      unfold sameN
      rw [z1]
      cases hn : nan32 x with
      | true => rfl
      | false =>
        simp only [Bool.or_false, Bool.false_eq_true, if_false]
        cases he : (x == x &&& 2147483648) with
        | false => rfl
        | true =>
          have he := beq_iff_eq.1 he
          rw [← he] at z0
          unfold subB at h
          rw [z0] at h
          cases h
    rw [hf, hs]
    rfl
end Go.Proofs.YtglnfccglgladaaDoor
