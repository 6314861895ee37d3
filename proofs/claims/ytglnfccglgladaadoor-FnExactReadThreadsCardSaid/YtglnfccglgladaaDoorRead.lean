/-
  A number read from its eight digits.
-/
import Derived.Test.YtglnfccglgladaaDoorText2
import Derived.Lib.Bytealg
namespace Go.Proofs.YtglnfccglgladaaDoor
open Go.RowKit
set_option linter.unusedVariables false

def hexList : List UInt8 := [48, 49, 50, 51, 52, 53, 54, 55, 56, 57, 97, 98, 99, 100, 101, 102]
def hv (c : UInt8) : Int := Lib.indexByte hexList c
theorem hv_ge (c : UInt8) : -1 ≤ hv c := Lib.indexByte_ge _ _
theorem indexByte_lt (l : List UInt8) (c : UInt8) : Lib.indexByte l c < l.length := by
  induction l with
  | nil => simp [Lib.indexByte]
  | cons b l ih =>
    simp only [Lib.indexByte, List.length_cons]
    split
    · omega
    · split <;> omega
theorem hv_le (c : UInt8) : hv c ≤ 15 := by have := indexByte_lt hexList c; simp [hexList] at this; unfold hv hexList; omega
def hval (l : List UInt8) : Nat := l.foldl (fun n c => n * 16 + (hv c).toNat) 0
theorem hval_snoc (l : List UInt8) (c : UInt8) : hval (l ++ [c]) = hval l * 16 + (hv c).toNat := by simp [hval]
theorem hval_lt' (l : List UInt8) : ∀ a, l.foldl (fun n c => n * 16 + (hv c).toNat) a < (a + 1) * 16 ^ l.length := by
  induction l with
  | nil => intro a; simp
  | cons c l ih =>
    intro a
    have h := ih (a * 16 + (hv c).toNat)
    have := hv_le c
    rw [List.foldl_cons, List.length_cons, Nat.pow_succ]
    have h2 : (a * 16 + (hv c).toNat + 1) * 16 ^ l.length ≤ ((a + 1) * 16) * 16 ^ l.length := Nat.mul_le_mul_right _ (by omega)
    calc _ < _ := h
      _ ≤ _ := h2
      _ = _ := by rw [Nat.mul_assoc, Nat.mul_comm 16]
theorem hval_lt (l : List UInt8) : hval l < 16 ^ l.length := by have := hval_lt' l 0; simpa [hval] using this
/-- What is read of a text of digits: a number, and whether it is one. -/
def readN (l : List UInt8) : Nat × Bool := if l.length ≤ 8 ∧ l.all (fun c => 0 ≤ hv c) = true then (hval l, l.length == 8 && bitsOf (hval l) == hval l) else (0, false)

theorem frombits_any (x : Nat) (w : World) : (callFunc 88 #[.int .u32 (x : Int)]).run Tryd.prog w = .ok (.value (.float .f32 x)) w := by
  kernel_rfl
theorem conv_i64_u32 {x : Nat} (hx : W32 x) (w : World) : (convert 2 111 (.int .i64 x)).run Tryd.prog w = .ok (.int .u32 x) w := by
  unfold W32 at hx
  rw [show (convert 2 111 (.int .i64 x)).run Tryd.prog w = .ok (.int .u32 (IntKind.u32.wrap x)) w from by kernel_rfl]
  congr 2
  rw [IntKind.wrap_u32]
  omega

theorem fromBits_c (n : Nat) (hn : W32 n) (w : World) : Calls Tryd.prog 41 #[.int .i64 n] w fun e w' => e = .returned (.tuple #[.float .f32 n, .bool true]) ∧ w = w' := by
  have h1 := fun w => conv_i64_u32 hn w
  have h2 : (n : Int) ≤ 4294967295 := by unfold W32 at hn; omega
  have h3 : (0 : Int) ≤ n := by omega
  clear hn
  go_enter Tryd.func41, Tryd.ntmps41
  go_wp2_with (first | go_at_call 87; go_in | simp only [frombits_any])
  exact bodyPost_ret (v := .tuple #[.float .f32 n, .bool true]) (by simp [results, Tryd.results41, go_sem]) rfl ⟨rfl, rfl⟩
end Go.Proofs.YtglnfccglgladaaDoor
