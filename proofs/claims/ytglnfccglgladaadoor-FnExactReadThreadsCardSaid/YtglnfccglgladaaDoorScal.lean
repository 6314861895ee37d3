/-
  Contracts of small functions on numbers: bits, not-a-numbers, bounds.
-/
import Derived.Test.YtglnfccglgladaaDoorRows
import Derived.Test.YtglnfccglgladaaDoorFloatInt
import Derived.WalkKit
import Derived.WalkSpells
import Derived.WalkLawsBesides
import Derived.StillTactics
import Derived.Laws.Pointers
import Derived.Laws.Small
import Derived.KernelRfl
import Derived.Lib.Hide
import Derived.Deep.RegionHeld3
import Derived.Deep.QuietTactic
import Derived.BigQuiet
import Derived.StillTailTactics
import Derived.Below
namespace Go.Proofs.YtglnfccglgladaaDoor
open Go.RowKit
set_option linter.unusedVariables false

section
variable (P : Program) (w : World) (a : Addr) (m : Mode)
@[go_sem] theorem run_store_float (k : FloatKind) (n : Nat) : (store a (.float k n) m).run P w = stored P w a (.float k n) m := run_store P w a _ m rfl
@[go_sem] theorem run_store_complex (k : FloatKind) (n n' : Nat) : (store a (.complex k n n') m).run P w = stored P w a (.complex k n n') m := run_store P w a _ m rfl
end

@[go_sem] theorem unary_neg_float (k : FloatKind) (b : Nat) : Op.unary .neg (.float k b) = pure (.float k (Op.negFloat k b)) := rfl
@[go_sem] theorem unary_neg_complex (k : FloatKind) (b c : Nat) : Op.unary .neg (.complex k b c) = pure (.complex k (Op.negFloat k b) (Op.negFloat k c)) := rfl

theorem below1 (w : World) (o : Obj) : Below w.heap.size w (w.alloc o) := (Below.refl _ _).alloc (Nat.le_refl _) o
theorem below2 (w : World) (o p : Obj) : Below w.heap.size w ((w.alloc o).alloc p) := (below1 w o).alloc (by simp) p
theorem below3 (w : World) (o p q : Obj) : Below w.heap.size w (((w.alloc o).alloc p).alloc q) := (below2 w o p).alloc (by simp; omega) q
theorem below4 (w : World) (o p q r : Obj) : Below w.heap.size w ((((w.alloc o).alloc p).alloc q).alloc r) := (below3 w o p q).alloc (by simp; omega) r

/-- A run equation for a valid operation. -/
theorem rf {P : Program} {op : BinOp} {k : FloatKind} {x y r : Nat} (h : floatBits op k x y = some r) : ∀ t w, (binOp op t (.float k x) (.float k y)).run P w = .ok (.float k r) w :=
  fun t w => run_float_arith w op t k x y r h

def nan32 (x : Nat) : Bool := FloatKind.f32.format.order x x != some .eq
def bitsOf (x : Nat) : Nat := if nan32 x then 2143289344 else x

theorem isNaN_any (x : Nat) (w : World) : Calls Tryd.prog 89 #[.float .f32 x] w fun e w' => e = .returned (.bool (nan32 x)) ∧ w = w' := by
  unfold nan32
  go_enter Tryd.func89, Tryd.ntmps89
  go_wp2
  go_ret
  exact ⟨rfl, rfl⟩

theorem bits32_any (x : Nat) (w : World) : (callFunc 90 #[.float .f32 x]).run Tryd.prog w = .ok (.value (.int .u32 x)) w := by
  kernel_rfl

/-- A word of 32 bits. (A plain definition: the walk doesn't look into it.) -/
def W32 (x : Nat) : Prop := x < 4294967296
theorem conv_u32_i64 {x : Nat} (hx : W32 x) (w : World) : (convert 111 2 (.int .u32 x)).run Tryd.prog w = .ok (.int .i64 x) w := by
  unfold W32 at hx
  rw [show (convert 111 2 (.int .u32 x)).run Tryd.prog w = .ok (.int .i64 (IntKind.i64.wrap x)) w from by kernel_rfl]
  congr 2
  exact IntWalk.i64_in _ (by omega)

theorem l01Bits_any (x : Nat) (hx : W32 x) (w : World) : Calls Tryd.prog 107 #[.float .f32 x] w fun e w' => e = .returned (.int .i64 (bitsOf x)) ∧ w = w' := by
  unfold W32 at hx
  cases h : (FloatKind.f32.format.order x x != some .eq) with
  | true =>
    have hb : Hid (bitsOf x = 2143289344) := Lib.hid (by simp [bitsOf, nan32, h])
    clear hx
    go_enter Tryd.func107, Tryd.ntmps107
    go_wp2
    go_ret
    exact ⟨by rw [hb.out]; rfl, rfl⟩
  | false =>
    have hb : Hid (bitsOf x = x) := Lib.hid (by simp [bitsOf, nan32, h])
    have hx2 : (x : Int) ≤ 4294967295 := by omega
    clear hx
    go_enter Tryd.func107, Tryd.ntmps107
    go_wp2_with (simp only [bits32_any])
    go_ret
    exact ⟨by rw [hb.out]; rfl, rfl⟩

theorem bitsOf_c (x : Nat) (hx : W32 x) (w : World) : Calls Tryd.prog 42 #[.float .f32 x] w fun e w' => e = .returned (.int .i64 (bitsOf x)) ∧ w = w' := by
  unfold W32 at hx
  cases h : (FloatKind.f32.format.order x x != some .eq) with
  | true =>
    have hb : Hid (bitsOf x = 2143289344) := Lib.hid (by simp [bitsOf, nan32, h])
    have hn : Hid (nan32 x = true) := Lib.hid h
    clear hx h
    go_enter Tryd.func42, Tryd.ntmps42
    go_wp2_with (go_at_call 89; refine (isNaN_any _ _).mono ?_; rintro e w1 ⟨rfl, rfl⟩; rw [hn.out])
    go_ret
    exact ⟨by rw [hb.out]; rfl, rfl⟩
  | false =>
    have hb : Hid (bitsOf x = x) := Lib.hid (by simp [bitsOf, nan32, h])
    have hn : Hid (nan32 x = false) := Lib.hid h
    have hx2 : (x : Int) ≤ 4294967295 := by omega
    clear hx h
    go_enter Tryd.func42, Tryd.ntmps42
    go_wp2_with (first | (go_at_call 89; refine (isNaN_any _ _).mono ?_; rintro e w1 ⟨rfl, rfl⟩; rw [hn.out]) | simp only [bits32_any])
    go_ret
    exact ⟨by rw [hb.out]; rfl, rfl⟩
theorem bitsOf_lt {x : Nat} (hx : W32 x) : bitsOf x < 4294967296 := by
  unfold bitsOf W32 at *
  split <;> omega

/-- The value of a valid operation. -/
def fop (op : BinOp) (k : FloatKind) (x y : Nat) : Nat := (floatBits op k x y).getD 0
/-- The operation is valid. -/
def okf (op : BinOp) (k : FloatKind) (x y : Nat) : Prop := (floatBits op k x y).isSome = true
theorem okf.eq {op : BinOp} {k : FloatKind} {x y : Nat} (h : okf op k x y) : floatBits op k x y = some (fop op k x y) := by
  unfold okf at h; unfold fop
  cases e : floatBits op k x y with
  | none => rw [e] at h; cases h
  | some r => rfl
theorem okf.rf {P : Program} {op : BinOp} {k : FloatKind} {x y : Nat} (h : okf op k x y) : ∀ t w, (binOp op t (.float k x) (.float k y)).run P w = .ok (.float k (fop op k x y)) w :=
  fun t w => run_float_arith w op t k x y _ h.eq

/-- The word that a conversion gives. -/
def cop (s : FloatKind) (x : Nat) (k : FloatKind) : Nat := (floatToFloatBits s x k).getD 0
/-- The conversion is fixed by the language. -/
def okc (s : FloatKind) (x : Nat) (k : FloatKind) : Prop := (floatToFloatBits s x k).isSome = true
theorem okc.eq {s k : FloatKind} {x : Nat} (h : okc s x k) : floatToFloatBits s x k = some (cop s x k) := by
  unfold okc at h; unfold cop
  cases e : floatToFloatBits s x k with
  | none => rw [e] at h; cases h
  | some r => rfl
theorem okc.run {P : Program} {s k : FloatKind} {x : Nat} (h : okc s x k) (src dst : TypeId) (hs : (P.underlying src).isSome = true) (hd : P.underlying dst = some (.float k)) :
    ∀ w, (convert src dst (.float s x)).run P w = .ok (.float k (cop s x k)) w :=
  fun w => run_convert_float_float w src dst s k x _ hs hd h.eq

def qop (x : Nat) : Nat := (FloatKind.f64.format.sqrt x).getD 0
def okq (x : Nat) : Prop := (FloatKind.f64.format.sqrt x).isSome = true
theorem okq.eq {x : Nat} (h : okq x) : FloatKind.f64.format.sqrt x = some (qop x) := by
  unfold okq at h; unfold qop
  cases e : FloatKind.f64.format.sqrt x with
  | none => rw [e] at h; cases h
  | some r => rfl
theorem sqrt_entry {P : Program} {x r : Nat} (h : FloatKind.f64.format.sqrt x = some r) (w : World) : (Extern.MathSqrt.sqrt #[.float .f64 x]).run P w = .ok (.float .f64 r) w := by
  change Sem.run P (match FloatKind.f64.format.sqrt x with
    | some r => (pure (Value.float .f64 r) : Sem Value)
    | none => do pure (Value.float .f64 (← choose (.nanBits .f64 x x)))) w = _
  rw [h]
  rfl
theorem sqrt_run {x : Nat} (h : okq x) : ∀ w, (callFunc 122 #[.float .f64 x]).run Tryd.prog w = .ok (.value (.float .f64 (qop x))) w := fun w => by
  rw [run_callFunc_extern (e := Extern.MathSqrt.sqrt) Tryd.func122 (by kernel_rfl) (by kernel_rfl) (by kernel_rfl) (by kernel_rfl), sqrt_entry h.eq]
  rfl

theorem csum_run {P : Program} {op : BinOp} {k : FloatKind} {a b c d : Nat} (hop : op = .add ∨ op = .sub) (h1 : okf op k a c) (h2 : okf op k b d) :
    ∀ t w, (binOp op t (.complex k a b) (.complex k c d)).run P w = .ok (.complex k (fop op k a c) (fop op k b d)) w := fun t w =>
  run_complex_sum w op hop t k a b c d _ _ (by simp [cSumBits, h1.eq, h2.eq])
end Go.Proofs.YtglnfccglgladaaDoor
