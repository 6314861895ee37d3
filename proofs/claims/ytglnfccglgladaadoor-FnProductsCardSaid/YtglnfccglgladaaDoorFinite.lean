/-
  All numbers of a list are finite.
-/
import Derived.Test.YtglnfccglgladaaDoorNanD
import Derived.Test.YtglnfccglgladaaDoorSame
import Derived.Test.YtglnfccglgladaaDoorRead5
namespace Go.Proofs.YtglnfccglgladaaDoor
open Go.RowKit
set_option linter.unusedVariables false

theorem finite1_c (x : Nat) (w : World) : Calls Tryd.prog 129 #[.float .f32 x] w fun e w' => e = .returned (.bool (!finB x)) ∧ Below w.heap.size w w' := by
  go_enter Tryd.func129, Tryd.ntmps129
  go_wp2_with (go_at_call 103; refine (isFinite_c x _).mono ?_; rintro e w1 ⟨rfl, hw⟩)
  go_ret
  exact ⟨rfl, hw⟩

theorem all_next {xs : List Nat} {p : Nat → Bool} {k : Nat} (hk : k < xs.length) (h : p xs[k] = true) (ha : (xs.take k).all p = true) : (xs.take (k + 1)).all p = true := by
  rw [take_next' _ _ hk, List.all_append, ha]
  simp [h]
theorem all_bad {xs : List Nat} {p : Nat → Bool} {k : Nat} (hk : k < xs.length) (h : p xs[k] = false) : xs.all p = false := by
  rw [Bool.eq_false_iff]
  intro ha
  rw [List.all_eq_true] at ha
  have := ha _ (List.getElem_mem hk)
  rw [h] at this
  cases this

set_option maxRecDepth 100000 in
theorem indexFunc_c {w : World} {b c : Nat} {xs : List Nat} (h : Nums w b 0 xs) (hl : xs.length ≤ 1000000) :
    Calls Tryd.prog 146 #[.slice (some ⟨b, 0, none⟩) xs.length c, .func (.func 129) #[] #[]] w fun e w' => (∃ i : Int, e = .returned (.int .i64 i) ∧ decide (0 ≤ i) = !(xs.all finB)) ∧ Below w.heap.size w w' := by
  have HB := Lib.hid h.1
  have HC := Lib.hid h.2
  clear h
  generalize hn : xs.length = n at hl
  have HN := Lib.hid hn
  clear hn
  have hn0 : (0 : Int) ≤ n := by omega
  have hn1 : (n : Int) ≤ 1000000 := by omega
  go_enter Tryd.func146, Tryd.ntmps146
  go_wp2
  go_loopw [8] (fun i wr => ∃ k : Nat, k ≤ n ∧ i = .int .i64 k ∧ Hid (Below w.heap.size w wr) ∧ Hid ((xs.take k).all finB = true)) (fun i _ => n - (intOf i).toNat)
  case atStart => exact ⟨0, Nat.zero_le _, rfl, Lib.hid (Below.refl _ _), Lib.hid rfl⟩
  case round =>
    obtain ⟨k, hk, rfl, hbel, hall⟩ := hrel
    by_cases hlt : k < n
    · have hkx : k < xs.length := by rw [HN.out]; exact hlt
      obtain ⟨x, hx⟩ : ∃ x, xs[k] = x := ⟨_, rfl⟩
      have hc : wr.cell? ⟨b, k, none⟩ = some (.float .f32 x) := by
        rw [hbel.out.cell (p := ⟨b, k, none⟩) HB.out]
        have := HC.out k x (by rw [List.getElem?_eq_getElem hkx, hx])
        rwa [Nat.zero_add] at this
      cases hf : finB x with
      | false =>
        have hbad : Hid (xs.all finB = false) := Lib.hid (all_bad hkx (by rw [hx]; exact hf))
        have HF := Lib.hid hf
        clear hx hf
        go_wp2_with (go_at_call 129; refine (finite1_c x _).mono ?_; rintro e w1 ⟨rfl, hw⟩; have hb1 := Lib.hid (bthen hbel.out hw); clear hw; rw [HF.out])
        exact bodyPost_ret (v := .int .i64 k) (by simp [results, Tryd.results146, go_sem]) rfl ⟨⟨k, rfl, by rw [hbad.out]; simp⟩, hb1.out⟩
      | true =>
        have hnext := Lib.hid (all_next (p := finB) hkx (by rw [hx]; exact hf) hall.out)
        have HF := Lib.hid hf
        clear hx hf
        go_wp2_with (go_at_call 129; refine (finite1_c x _).mono ?_; rintro e w1 ⟨rfl, hw⟩; have hb1 := Lib.hid (bthen hbel.out hw); clear hw; rw [HF.out])
        go_roundw
        case rel => exact ⟨k + 1, by omega, by simp, hb1, hnext⟩
        case measure => simp [intOf]; omega
    · have htk : xs.take k = xs := List.take_of_length_le (by rw [HN.out]; omega)
      rw [htk] at hall
      go_wp2
      exact bodyPost_ret (v := .int .i64 (-1)) (by simp [results, Tryd.results146, go_sem]) rfl ⟨⟨-1, rfl, by rw [hall.out]; rfl⟩, hbel.out⟩
theorem containsFunc_c {w : World} {b c : Nat} {xs : List Nat} (h : Nums w b 0 xs) (hl : xs.length ≤ 1000000) :
    Calls Tryd.prog 128 #[.slice (some ⟨b, 0, none⟩) xs.length c, .func (.func 129) #[] #[]] w fun e w' => e = .returned (.bool (!(xs.all finB))) ∧ Below w.heap.size w w' := by
  have H := Lib.hid (indexFunc_c (c := c) h hl)
  generalize xs.length = n at H
  clear h hl
  go_enter Tryd.func128, Tryd.ntmps128
  go_wp2_with (go_at_call 146; refine H.out.mono ?_; rintro e w1 ⟨⟨i, rfl, hi⟩, hw⟩)
  go_ret
  exact ⟨by rw [← hi]; rfl, hw⟩
theorem finite_c {w : World} {b c : Nat} {xs : List Nat} (h : Nums w b 0 xs) (hl : xs.length ≤ 1000000) :
    Calls Tryd.prog 95 #[.slice (some ⟨b, 0, none⟩) xs.length c] w fun e w' => e = .returned (.bool (xs.all finB)) ∧ Below w.heap.size w w' := by
  have H := Lib.hid (containsFunc_c (c := c) h hl)
  generalize xs.length = n at H
  clear h hl
  go_enter Tryd.func95, Tryd.ntmps95
  go_wp2_with (go_at_call 128; refine H.out.mono ?_; rintro e w1 ⟨rfl, hw⟩)
  go_ret
  exact ⟨rfl, hw⟩
theorem nums_new (W : World) (xs : List Nat) (hx : xs ≠ []) : Nums (W.alloc (.cells (xs.map (Value.float .f32)).toArray 24)) W.heap.size 0 xs := by
  refine ⟨by simp, fun j x hj => ?_⟩
  have hb := heap_alloc_new W (.cells (xs.map (Value.float .f32)).toArray 24)
  simp only [World.cell?, hb]
  simp [hj]
theorem finiteComplex_c (x y : Nat) (w : World) : Calls Tryd.prog 47 #[.complex .f32 x y] w fun e w' => e = .returned (.bool (finB x && finB y)) ∧ Below w.heap.size w w' := by
  have N := Lib.hid (finite_c (c := 2) (nums_new w [x, y] (by simp)) (by simp))
  go_enter Tryd.func47, Tryd.ntmps47
  go_wp2_with (go_at_call 95; refine N.out.mono ?_; rintro e w1 ⟨rfl, hw⟩)
  go_ret
  exact ⟨by simp, bthen (below1 _ _) hw⟩
end Go.Proofs.YtglnfccglgladaaDoor
