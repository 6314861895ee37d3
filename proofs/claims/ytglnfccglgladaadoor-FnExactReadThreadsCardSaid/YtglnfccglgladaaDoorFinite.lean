/-
  All numbers of a list are finite.
-/
import Derived.Test.YtglnfccglgladaaDoorNanD
import Derived.Test.YtglnfccglgladaaDoorSame
import Derived.Test.YtglnfccglgladaaDoorRead5
namespace Go.Proofs.YtglnfccglgladaaDoor
open Go.RowKit
set_option linter.unusedVariables false

theorem finite1_c (x : Nat) (w : World) : Calls Tryd.prog 129 #[.float .f32 x] w fun e w' => e = .returned (.bool (!finB x)) ∧ Below w.heap.size w w' := by
  go_enter Tryd.func129, Tryd.ntmps129
  go_wp2_with (go_at_call 103; refine (isFinite_c x _).mono ?_; rintro e w1 ⟨rfl, hw⟩)
  go_ret
  exact ⟨rfl, hw⟩

theorem all_next {xs : List Nat} {p : Nat → Bool} {k : Nat} (hk : k < xs.length) (h : p xs[k] = true) (ha : (xs.take k).all p = true) : (xs.take (k + 1)).all p = true := by
  rw [take_next' _ _ hk, List.all_append, ha]
  simp [h]
theorem all_bad {xs : List Nat} {p : Nat → Bool} {k : Nat} (hk : k < xs.length) (h : p xs[k] = false) : xs.all p = false := by
  rw [Bool.eq_false_iff]
  intro ha
  rw [List.all_eq_true] at ha
  have := ha _ (List.getElem_mem hk)
  rw [h] at this
  cases this

set_option maxRecDepth 100000 in
theorem indexFunc_c {w : World} {b c : Nat} {xs : List Nat} (h : Nums w b 0 xs) (hl : xs.length ≤ 1000000) :
    Calls Tryd.prog 146 #[.slice (some ⟨b, 0, none⟩) xs.length c, .func (.func 129) #[] #[]] w fun e w' => (∃ i : Int, e = .returned (.int .i64 i) ∧ decide (0 ≤ i) = !(xs.all finB)) ∧ Below w.heap.size w w' := by
  have HB := Lib.hid h.1
  have HC := Lib.hid h.2
  clear h
  generalize hn : xs.length = n at hl
  have HN := Lib.hid hn
  clear hn
  have hn0 : (0 : Int) ≤ n := by omega
  have hn1 : (n : Int) ≤ 1000000 := by omega
  go_enter Tryd.func146, Tryd.ntmps146
  go_wp2
  go_loopw [8] (fun i wr => ∃ k : Nat, k ≤ n ∧ i = .int .i64 k ∧ Hid (Below w.heap.size w wr) ∧ Hid ((xs.take k).all finB = true)) (fun i _ => n - (intOf i).toNat)
  case atStart => exact ⟨0, Nat.zero_le _, rfl, Lib.hid (Below.refl _ _), Lib.hid rfl⟩
  case round =>
    obtain ⟨k, hk, rfl, hbel, hall⟩ := hrel
    by_cases hlt : k < n
    · have hkx : k < xs.length := by rw [HN.out]; exact hlt
      obtain ⟨x, hx⟩ : ∃ x, xs[k] = x := ⟨_, rfl⟩
      have hc : wr.cell? ⟨b, k, none⟩ = some (.float .f32 x) := by
        rw [hbel.out.cell (p := ⟨b, k, none⟩) HB.out]
        have := HC.out k x (by rw [List.getElem?_eq_getElem hkx, hx])
        rwa [Nat.zero_add] at this
      cases hf : finB x with
      | false =>
        have hbad : Hid (xs.all finB = false) := Lib.hid (all_bad hkx (by rw [hx]; exact hf))
        have HF := Lib.hid hf
        clear hx hf
        go_wp2_with (go_at_call 129; refine (finite1_c x _).mono ?_; rintro e w1 ⟨rfl, hw⟩; have hb1 := Lib.hid (bthen hbel.out hw); clear hw; rw [HF.out])
        exact bodyPost_ret (v := .int .i64 k) (by simp [results, Tryd.results146, go_sem]) rfl ⟨⟨k, rfl, by rw [hbad.out]; simp⟩, hb1.out⟩
      | true =>
        have hnext := Lib.hid (all_next (p := finB) hkx (by rw [hx]; exact hf) hall.out)
        have HF := Lib.hid hf
        clear hx hf
        go_wp2_with (go_at_call 129; refine (finite1_c x _).mono ?_; rintro e w1 ⟨rfl, hw⟩; have hb1 := Lib.hid (bthen hbel.out hw); clear hw; rw [HF.out])
        go_roundw
        case rel => exact ⟨k + 1, by omega, by simp, hb1, hnext⟩
        case measure => simp [intOf]; omega
    · have htk : xs.take k = xs := List.take_of_length_le (by rw [HN.out]; omega)
      rw [htk] at hall
      go_wp2
      exact bodyPost_ret (v := .int .i64 (-1)) (by simp [results, Tryd.results146, go_sem]) rfl ⟨⟨-1, rfl, by rw [hall.out]; rfl⟩, hbel.out⟩
theorem containsFunc_c {w : World} {b c : Nat} {xs : List Nat} (h : Nums w b 0 xs) (hl : xs.length ≤ 1000000) :
    Calls Tryd.prog 128 #[.slice (some ⟨b, 0, none⟩) xs.length c, .func (.func 129) #[] #[]] w fun e w' => e = .returned (.bool (!(xs.all finB))) ∧ Below w.heap.size w w' := by
  have H := Lib.hid (indexFunc_c (c := c) h hl)
  generalize xs.length = n at H
  clear h hl
  go_enter Tryd.func128, Tryd.ntmps128
  go_wp2_with (go_at_call 146; refine H.out.mono ?_; rintro e w1 ⟨⟨i, rfl, hi⟩, hw⟩)
  go_ret
  exact ⟨by rw [← hi]; rfl, hw⟩
theorem finite_c {w : World} {b c : Nat} {xs : List Nat} (h : Nums w b 0 xs) (hl : xs.length ≤ 1000000) :
    Calls Tryd.prog 95 #[.slice (some ⟨b, 0, none⟩) xs.length c] w fun e w' => e = .returned (.bool (xs.all finB)) ∧ Below w.heap.size w w' := by
  have H := Lib.hid (containsFunc_c (c := c) h hl)
  generalize xs.length = n at H
  clear h hl
  go_enter Tryd.func95, Tryd.ntmps95
  go_wp2_with (go_at_call 128; refine H.out.mono ?_; rintro e w1 ⟨rfl, hw⟩)
  go_ret
  exact ⟨rfl, hw⟩
theorem nums_new (W : World) (xs : List Nat) (hx : xs ≠ []) : Nums (W.alloc (.cells (xs.map (Value.float .f32)).toArray 24)) W.heap.size 0 xs := by
  refine ⟨by simp, fun j x hj => ?_⟩
  have hb := heap_alloc_new W (.cells (xs.map (Value.float .f32)).toArray 24)
  simp only [World.cell?, hb]
  simp [hj]
theorem finiteComplex_c (x y : Nat) (w : World) : Calls Tryd.prog 47 #[.complex .f32 x y] w fun e w' => e = .returned (.bool (finB x && finB y)) ∧ Below w.heap.size w w' := by
  have N := Lib.hid (finite_c (c := 2) (nums_new w [x, y] (by simp)) (by simp))
  go_enter Tryd.func47, Tryd.ntmps47
  go_wp2_with (go_at_call 95; refine N.out.mono ?_; rintro e w1 ⟨rfl, hw⟩)
  go_ret
  exact ⟨by simp, bthen (below1 _ _) hw⟩

section
open Ieee
/-- What a word becomes in double precision: the same number, or a not-a-number. -/
def Back (p x : Nat) : Prop := ((∃ s t, FloatKind.f64.format.read p = .nan s t) ∧ nan32 x = true) ∨ floatToFloatBits .f64 p .f32 = some x

theorem sameN_refl (x : Nat) : sameN x x = true := by
  unfold sameN
  cases nan32 x <;> simp
theorem sameN_nans {x y : Nat} (hx : nan32 x = true) (hy : nan32 y = true) : sameN x y = true := by
  unfold sameN
  simp [hx, hy]
theorem neg_neg32 (x : Nat) : Op.negFloat .f32 (Op.negFloat .f32 x) = x := by
  unfold Op.negFloat
  rw [Nat.xor_assoc, Nat.xor_self, Nat.xor_zero]

/-- A word widened. -/
theorem widen_run {x : Nat} (hx : W32 x) : (∃ p, Back p x ∧ ∀ w, (convert 24 65 (.float .f32 x)).run Tryd.prog w = .ok (.float .f64 p) w) ∨
    (∃ q, AsksNan .f64 q ∧ nan32 x = true ∧ ∀ w, (convert 24 65 (.float .f32 x)).run Tryd.prog w = .ok (.float .f64 (nanOf q w)) w.drew) := by
  cases hn : nan32 x with
  | false =>
    left
    obtain ⟨y, h1, h2⟩ := wide_back hx hn
    exact ⟨y, Or.inr h2, fun w => run_convert_float_float w _ _ .f32 .f64 x y (by rw [Tryd.underlying24]; rfl) Tryd.underlying65 h1⟩
  | true =>
    right
    obtain ⟨s, t, h⟩ := nan32_iff.1 hn
    exact ⟨.nanConv .f64 x, Or.inr ⟨x, rfl⟩, rfl, run_conv_nan (by decide) h _ _ (by rw [Tryd.underlying24]; rfl) Tryd.underlying65⟩
theorem back_nan {q : Question} (h : AsksNan .f64 q) {x : Nat} (hn : nan32 x = true) (w : World) : Back (nanOf q w) x := Or.inl ⟨nanOf_read64 h w, hn⟩
/-- Narrowed again. -/
theorem narrow_run {p x : Nat} (hx : W32 x) (hp : Back p x) : (∀ w, (convert 65 24 (.float .f64 p)).run Tryd.prog w = .ok (.float .f32 x) w) ∨
    (∃ q, AsksNan .f32 q ∧ nan32 x = true ∧ ∀ w, (convert 65 24 (.float .f64 p)).run Tryd.prog w = .ok (.float .f32 (nanOf q w)) w.drew) := by
  rcases hp with ⟨⟨s, t, h⟩, hn⟩ | h
  · right
    exact ⟨.nanConv .f32 p, Or.inr ⟨p, rfl⟩, hn, run_conv_nan (by decide) h _ _ (by rw [Tryd.underlying65]; rfl) Tryd.underlying24⟩
  · left
    exact fun w => run_convert_float_float w _ _ .f64 .f32 p x (by rw [Tryd.underlying65]; rfl) Tryd.underlying24 h
end
end Go.Proofs.YtglnfccglgladaaDoor
