/-
  Not-a-numbers whose bits are drawn: sums and conversions that have no answer.
-/
import Derived.Test.YtglnfccglgladaaDoorWide
namespace Go.Proofs.YtglnfccglgladaaDoor
open Go.RowKit Ieee
set_option linter.unusedVariables false

/-- What the tape answers. -/
def nanOf (q : Question) (w : World) : Nat := q.cut (w.tape w.drawn q)
/-- A question whose answer is a not-a-number of single precision. -/
def AsksNan (k : FloatKind) (q : Question) : Prop := (∃ x y, q = .nanBits k x y) ∨ (∃ x, q = .nanConv k x)

theorem nan_read32 (t : Nat) : ∃ s f, FloatKind.f32.format.read ((t % 2) * 2 ^ 31 + 0x7f800000 + 1 + (t / 2) % (2 ^ 23 - 1)) = .nan s f := by
  have h1 : (t / 2) % (2 ^ 23 - 1) < 2 ^ 23 - 1 := Nat.mod_lt _ (by decide)
  have hs : FloatKind.f32.format.signWeight = 2147483648 := by decide
  have hi : FloatKind.f32.format.infRung = 2139095040 := by decide
  generalize (t / 2) % (2 ^ 23 - 1) = r at *
  obtain ⟨f, hf⟩ := read_nan FloatKind.f32.format (binade_le _) (t % 2 == 1) (0x7f800000 + 1 + r) (by rw [hs]; omega) (by rw [hi]; omega)
  have e : t % 2 * 2 ^ 31 + 0x7f800000 + 1 + r = FloatKind.f32.format.word (t % 2 == 1) (0x7f800000 + 1 + r) := by
    unfold Format.word
    rw [hs]
    rcases Nat.mod_two_eq_zero_or_one t with h | h <;> rw [h] <;> simp <;> omega
  exact ⟨(t % 2 == 1), f, by rw [e]; exact hf⟩
theorem nan_read64 (t : Nat) : ∃ s f, FloatKind.f64.format.read ((t % 2) * 2 ^ 63 + 0x7ff0000000000000 + 1 + (t / 2) % (2 ^ 52 - 1)) = .nan s f := by
  have h1 : (t / 2) % (2 ^ 52 - 1) < 2 ^ 52 - 1 := Nat.mod_lt _ (by decide)
  have hs : FloatKind.f64.format.signWeight = 9223372036854775808 := by decide
  have hi : FloatKind.f64.format.infRung = 9218868437227405312 := by decide
  generalize (t / 2) % (2 ^ 52 - 1) = r at *
  obtain ⟨f, hf⟩ := read_nan FloatKind.f64.format (binade_le _) (t % 2 == 1) (0x7ff0000000000000 + 1 + r) (by rw [hs]; omega) (by rw [hi]; omega)
  have e : t % 2 * 2 ^ 63 + 0x7ff0000000000000 + 1 + r = FloatKind.f64.format.word (t % 2 == 1) (0x7ff0000000000000 + 1 + r) := by
    unfold Format.word
    rw [hs]
    rcases Nat.mod_two_eq_zero_or_one t with h | h <;> rw [h] <;> simp <;> omega
  exact ⟨(t % 2 == 1), f, by rw [e]; exact hf⟩
theorem nanOf_read32 {q : Question} (h : AsksNan .f32 q) (w : World) : ∃ s f, FloatKind.f32.format.read (nanOf q w) = .nan s f := by
  rcases h with ⟨x, y, rfl⟩ | ⟨x, rfl⟩ <;> exact nan_read32 _
theorem nanOf_read64 {q : Question} (h : AsksNan .f64 q) (w : World) : ∃ s f, FloatKind.f64.format.read (nanOf q w) = .nan s f := by
  rcases h with ⟨x, y, rfl⟩ | ⟨x, rfl⟩ <;> exact nan_read64 _
theorem nanOf_w32 {q : Question} (h : AsksNan .f32 q) (w : World) : W32 (nanOf q w) := by
  have k : ∀ t, (t % 2) * 2 ^ 31 + 0x7f800000 + 1 + (t / 2) % (2 ^ 23 - 1) < 4294967296 := fun t => by
    have h1 : (t / 2) % (2 ^ 23 - 1) < 2 ^ 23 - 1 := Nat.mod_lt _ (by decide)
    omega
  rcases h with ⟨x, y, rfl⟩ | ⟨x, rfl⟩ <;> exact k _
theorem nanOf_nan32 {q : Question} (h : AsksNan .f32 q) (w : World) : nan32 (nanOf q w) = true := by
  obtain ⟨s, f, h⟩ := nanOf_read32 h w
  exact nan32_read h
theorem order_nan {k : FloatKind} {x : Nat} {s : Bool} {f : Nat} (h : k.format.read x = .nan s f) (y : Nat) : k.format.order x y = none ∧ k.format.order y x = none := by
  unfold Format.order
  rw [h]
  refine ⟨rfl, ?_⟩
  cases k.format.read y <;> rfl
theorem nan32_iff {x : Nat} : nan32 x = true ↔ ∃ s t, FloatKind.f32.format.read x = .nan s t := by
  constructor
  · intro h
    cases hr : FloatKind.f32.format.read x with
    | number s m e => rw [nan32_num hr] at h; cases h
    | infinity s => rw [nan32_inf hr] at h; cases h
    | nan s t => exact ⟨s, t, rfl⟩
  · rintro ⟨s, t, h⟩
    exact nan32_read h

section
variable {P : Program}
theorem run_arith_nan {op : BinOp} (hop : op = .add ∨ op = .sub ∨ op = .mul ∨ op = .quo) {k : FloatKind} {x y : Nat} (h : floatBits op k x y = none) :
    ∀ t w, (binOp op t (.float k x) (.float k y)).run P w = .ok (.float k (nanOf (.nanBits k x y) w)) w.drew := by
  intro t w
  rcases hop with rfl | rfl | rfl | rfl <;> (simp only [floatBits] at h; simp [binOp, Op.floatArith, h, Question.forced, nanOf])
theorem run_conv_nan {s k : FloatKind} (hne : s ≠ k) {x : Nat} {sg : Bool} {f : Nat} (h : s.format.read x = .nan sg f) (src dst : TypeId) (hs : (P.underlying src).isSome = true) (hd : P.underlying dst = some (.float k)) :
    ∀ w, (convert src dst (.float s x)).run P w = .ok (.float k (nanOf (.nanConv k x) w)) w.drew := by
  intro w
  obtain ⟨u, hs'⟩ := Option.isSome_iff_exists.1 hs
  have hd' : s.decode x = .nan sg f := h
  cases u <;> simp [convert, run_underlying hs', run_underlying hd, Conv.floatToFloat, hne, hd', Question.forced, nanOf]
end

/-- A number that is neither an infinity nor a not-a-number, as the program asks. -/
def finB (x : Nat) : Bool := match floatBits .sub .f32 x x with
  | some r => FloatKind.f32.format.order r 0 == some .eq
  | none => false

theorem isFinite_c (x : Nat) (w : World) : Calls Tryd.prog 103 #[.float .f32 x] w fun e w' => e = .returned (.bool (finB x)) ∧ Below w.heap.size w w' := by
  cases h : floatBits .sub .f32 x x with
  | some r =>
    have hb : Hid (finB x = (FloatKind.f32.format.order r 0 == some .eq)) := Lib.hid (by unfold finB; rw [h])
    have hr := rf (P := Tryd.prog) h
    clear h
    go_enter Tryd.func103, Tryd.ntmps103
    go_wp2
    go_ret
    exact ⟨by rw [hb.out]; rfl, Below.refl _ _⟩
  | none =>
    have hb : Hid (finB x = false) := Lib.hid (by unfold finB; rw [h])
    have hr := run_arith_nan (P := Tryd.prog) (op := .sub) (by simp) h
    have hq : AsksNan .f32 (.nanBits .f32 x x) := Or.inl ⟨x, x, rfl⟩
    generalize Question.nanBits .f32 x x = q at hr hq
    have ho : ∀ w, FloatKind.f32.format.order (nanOf q w) 0 = none := fun w => by
      obtain ⟨s, f, h⟩ := nanOf_read32 hq w
      exact (order_nan h 0).1
    clear h
    go_enter Tryd.func103, Tryd.ntmps103
    go_wp2
    go_ret
    exact ⟨by rw [hb.out]; rfl, (Below.refl _ _).drew⟩
theorem specFinite_c (x : Nat) (w : World) : Calls Tryd.prog 96 #[.float .f32 x] w fun e w' => e = .returned (.bool (finB x)) ∧ Below w.heap.size w w' := by
  cases h : floatBits .sub .f32 x x with
  | some r =>
    have hb : Hid (finB x = (FloatKind.f32.format.order r 0 == some .eq)) := Lib.hid (by unfold finB; rw [h])
    have hr := rf (P := Tryd.prog) h
    clear h
    go_enter Tryd.func96, Tryd.ntmps96
    go_wp2
    go_ret
    exact ⟨by rw [hb.out]; rfl, Below.refl _ _⟩
  | none =>
    have hb : Hid (finB x = false) := Lib.hid (by unfold finB; rw [h])
    have hr := run_arith_nan (P := Tryd.prog) (op := .sub) (by simp) h
    have hq : AsksNan .f32 (.nanBits .f32 x x) := Or.inl ⟨x, x, rfl⟩
    generalize Question.nanBits .f32 x x = q at hr hq
    have ho : ∀ w, FloatKind.f32.format.order (nanOf q w) 0 = none := fun w => by
      obtain ⟨s, f, h⟩ := nanOf_read32 hq w
      exact (order_nan h 0).1
    clear h
    go_enter Tryd.func96, Tryd.ntmps96
    go_wp2
    go_ret
    exact ⟨by rw [hb.out]; rfl, (Below.refl _ _).drew⟩
theorem specIsFinite_c (x : Nat) (w : World) : Calls Tryd.prog 48 #[.float .f32 x] w fun e w' => e = .returned (.bool (finB x)) ∧ Below w.heap.size w w' := by
  go_enter Tryd.func48, Tryd.ntmps48
  go_wp2_with (go_at_call 96; refine (specFinite_c x _).mono ?_; rintro e w1 ⟨rfl, hw⟩)
  go_ret
  exact ⟨rfl, hw⟩
end Go.Proofs.YtglnfccglgladaaDoor
