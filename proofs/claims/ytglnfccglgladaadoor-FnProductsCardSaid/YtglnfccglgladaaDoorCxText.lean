/-
  The text of a list of complex numbers.
-/
import Derived.Test.YtglnfccglgladaaDoorText2
import Derived.Test.YtglnfccglgladaaDoorDraw9
import Derived.Test.YtglnfccglgladaaDoorRead4
import Derived.Test.YtglnfccglgladaaDoorSplit
namespace Go.Proofs.YtglnfccglgladaaDoor
open Go.RowKit
set_option linter.unusedVariables false

/-- The text of one complex number: sixteen digits. -/
def cxT (p : Nat × Nat) : ByteArray := ⟨(hex8 (bitsOf p.1) ++ hex8 (bitsOf p.2)).toArray⟩
theorem cxT_add (x y : Nat) : (⟨(hex8 (bitsOf x)).toArray⟩ : ByteArray) ++ (⟨(hex8 (bitsOf y)).toArray⟩ : ByteArray) = cxT (x, y) := by
  apply bytes_eq
  simp [cxT]
def cxTexts (xs : List (Nat × Nat)) : List ByteArray := xs.map cxT
def cxText (xs : List (Nat × Nat)) : ByteArray := joinT (cxTexts xs)
theorem lens_cx (xs : List (Nat × Nat)) : Lib.lens ((cxTexts xs).map (·.data.toList)) = 16 * xs.length := by
  induction xs with
  | nil => rfl
  | cons x r ih =>
    simp only [cxTexts, Lib.lens, List.map_cons, List.sum_cons, List.map_map, List.length_cons] at ih ⊢
    simp only [cxT, List.length_append, hex8_length]
    omega
theorem join_cx (xs : List (Nat × Nat)) : (Lib.join ((cxTexts xs).map (·.data.toList)) [44]).length ≤ 17 * xs.length := by
  cases xs with
  | nil => simp [cxTexts, Lib.join_nil]
  | cons x r =>
    have h := lens_cx (x :: r)
    simp only [cxTexts, List.map_cons] at h ⊢
    rw [Lib.join_length, h]
    simp
    omega

theorem cxOk_c (a : Option Addr) (n c : Nat) (hn : n ≤ 256) (w : World) : Calls Tryd.prog 79 #[.slice a n c] w fun e w' => e = .returned (.bool true) ∧ w = w' := by
  have hl' : (n : Int) ≤ 256 := by omega
  go_enter Tryd.func79, Tryd.ntmps79
  go_wp2
  go_ret
  exact ⟨rfl, rfl⟩

/-- One more text. -/
theorem cxtexts_next {w0 W : World} {v : Value} {xs : List (Nat × Nat)} {k : Nat} (hk : k < xs.length) (h : Own w0 W 9 v (((cxTexts xs).take k).map Value.string ++ [Value.string (cxT (xs.getD k (0, 0)))])) :
    Own w0 W 9 v (((cxTexts xs).take (k + 1)).map Value.string) := by
  have : (cxTexts xs).take (k + 1) = (cxTexts xs).take k ++ [cxT (xs.getD k (0, 0))] := by
    rw [List.take_add_one]
    simp [cxTexts, hk]
  rw [this, List.map_append]
  exact h

theorem complexText_nil (a : Option Addr) (c : Nat) (w : World) : Calls Tryd.prog 38 #[.slice a 0 c] w fun e w' => e = .returned (.tuple #[.string noneB, .bool true]) ∧ Below w.heap.size w w' := by
  go_enter Tryd.func38, Tryd.ntmps38
  go_wp2_with (go_at_call 79; refine (cxOk_c a 0 c (by omega) _).mono ?_; rintro e w1 ⟨rfl, rfl⟩)
  have H0 := Lib.hid (Own.lit (e := 9) (Below.refl w.heap.size w) #[] 0 (by omega) rfl)
  refine wp_loop_rounds 1 ?_
  rw [rounds_succ]
  go_wp2_with (go_at_call 81; refine (joined_c (ts := []) H0.out (by simp [Lib.join_nil]) (by simp)).mono ?_; rintro e w1 ⟨rfl, hw1⟩; have hbel := Lib.hid (bthen H0.out.bel hw1); clear hw1 H0)
  exact bodyPost_ret (v := .tuple #[.string noneB, .bool true]) (by simp [results, Tryd.results38, go_sem, joinT, noneB]) rfl ⟨rfl, hbel.out⟩

set_option maxRecDepth 100000 in
set_option maxHeartbeats 4000000 in
theorem complexText_some {w : World} {b c : Nat} {xs : List (Nat × Nat)} (hb : b < w.heap.size) (hc : ∀ j x, (xs.map cxV)[j]? = some x → w.cell? ⟨b, j, none⟩ = some x) (h32 : ∀ x ∈ xs, Cx32 x) (hl : xs.length ≤ 256) :
    Calls Tryd.prog 38 #[.slice (some ⟨b, 0, none⟩) xs.length c] w fun e w' => e = .returned (.tuple #[.string (cxText xs), .bool true]) ∧ Below w.heap.size w w' := by
  have hjl := join_cx xs
  generalize hn : xs.length = n at hl hjl
  have HN := Lib.hid hn
  clear hn
  have hl' : (n : Int) ≤ 256 := by omega
  have h0 : (0 : Int) ≤ (n : Int) := by omega
  have HC := Lib.hid hc
  have HB := Lib.hid hb
  have H32 := Lib.hid h32
  have HJ := Lib.hid hjl
  clear hc h32 hjl hb
  go_enter Tryd.func38, Tryd.ntmps38
  go_wp2_with (go_at_call 79; refine (cxOk_c _ n c hl _).mono ?_; rintro e w1 ⟨rfl, rfl⟩)
  have H0 := Lib.hid (Own.lit (e := 9) (Below.refl w.heap.size w) #[] 0 (by omega) rfl)
  go_loopw [4, 13] (fun v i wr => ∃ k : Nat, k ≤ n ∧ i = .int .i64 k ∧ Hid (Own w wr 9 v (((cxTexts xs).take k).map Value.string)))
    (fun _ i _ => n - (intOf i).toNat)
  case atStart => exact ⟨0, Nat.zero_le _, rfl, H0⟩
  case round =>
    clear H0
    obtain ⟨k, hk, rfl, hown⟩ := hrel
    obtain ⟨⟨x, y⟩, hxk⟩ : ∃ p, xs.getD k (0, 0) = p := ⟨_, rfl⟩
    have hcx : k < n → wr.cell? ⟨b, k, none⟩ = some (.complex .f32 x y) := fun h => by
      have hkx : k < xs.length := by rw [HN.out]; exact h
      have e : xs[k] = (x, y) := by simpa [List.getElem?_eq_getElem hkx] using hxk
      rw [hown.out.cell b _ HB.out, HC.out k (cxV (x, y)) (by simp [hkx, e])]
      rfl
    have hx32 : k < n → W32 x ∧ W32 y := fun h => by
      have hkx : k < xs.length := by rw [HN.out]; exact h
      have e : xs[k] = (x, y) := by simpa [List.getElem?_eq_getElem hkx] using hxk
      have := H32.out _ (List.getElem_mem hkx)
      rw [e] at this
      exact this
    have hdone : ¬ k < n → Own w wr 9 u4 ((cxTexts xs).map Value.string) := fun h => by
      have e : (cxTexts xs).take k = cxTexts xs := List.take_of_length_le (by simp [cxTexts, HN.out]; omega)
      rw [e] at hown
      exact hown.out
    have HD := Lib.hid hdone
    clear hdone
    have HX := Lib.hid hx32
    clear hx32
    have hx8 : (hex8 (bitsOf x)).length = 8 := hex8_length _
    have hy8 : (hex8 (bitsOf y)).length = 8 := hex8_length _
    have HXK := Lib.hid hxk
    clear hxk
    go_wp2_with (first
      | (go_at_call 80; first
          | (with_reducible refine (hexText_c (x := x) (HX.out (by assumption)).1 _).mono ?_; rintro e w1 ⟨rfl, hw1⟩; have hown1 := Lib.hid (hown.out.after hw1); clear hown hw1 hcx)
          | (with_reducible refine (hexText_c (x := y) (HX.out (by assumption)).2 _).mono ?_; rintro e w2 ⟨rfl, hw2⟩; have hown2 := Lib.hid (hown1.out.after hw2); clear hown1 hw2))
      | (at_builtin; go_loud (refine app_one rfl (.tmp 17) (.tmp 25) 87 9 (.string ⟨#[]⟩) 16 rfl Tryd.underlying87 info_str rfl rfl rfl (by simp) rfl hown2.out (by simp; omega) (by omega) ?_; intro v1 w3 H1 hg))
      | (go_at_call 81; go_loud (refine (joined_c (HD.out (by omega)) (by have := HJ.out; omega) (by simp [cxTexts, HN.out]; omega)).mono ?_; rintro e w1 ⟨rfl, hw1⟩; have hbel := Lib.hid (bthen hown.out.bel hw1); clear hown hw1 hcx HX HD)))
    · have hlt : k < n := by assumption
      have hkx : k < xs.length := by rw [HN.out]; exact hlt
      rw [cxT_add, ← HXK.out] at H1
      have H2 := Lib.hid (cxtexts_next hkx H1)
      clear H1 hg hown2 HX HD HXK
      go_wp2
      go_roundw
      case rel => exact ⟨k + 1, by omega, by simp, H2⟩
      case measure => simp [intOf]; omega
    · exact bodyPost_ret (v := .tuple #[.string (cxText xs), .bool true]) (by simp [results, Tryd.results38, go_sem, cxText]) rfl ⟨rfl, hbel.out⟩
end Go.Proofs.YtglnfccglgladaaDoor
