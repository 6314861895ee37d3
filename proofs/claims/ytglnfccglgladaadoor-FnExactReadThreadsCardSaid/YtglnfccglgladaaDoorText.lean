/-
  The text of a list of numbers.
-/
import Derived.Test.YtglnfccglgladaaDoorHex
import Derived.Test.YtglnfccglgladaaDoorShelf
namespace Go.Proofs.YtglnfccglgladaaDoor
open Go.RowKit
set_option linter.unusedVariables false

theorem info_str : (Tryd.prog.info? 9).map (fun i => (i.zero, i.size, i.bytes)) = some (some (.string ⟨#[]⟩), 1, 16) := by kernel_rfl

/-- A list of numbers that lies in memory. -/
def Nums (W : World) (b o : Nat) (xs : List Nat) : Prop := b < W.heap.size ∧ ∀ j x, xs[j]? = some x → W.cell? ⟨b, o + j, none⟩ = some (.float .f32 x)

def numTexts (xs : List Nat) : List ByteArray := xs.map fun x => ⟨(hex8 (bitsOf x)).toArray⟩
/-- The texts, joined by commas; of none the word none. -/
def joinT (ts : List ByteArray) : ByteArray := if ts = [] then ⟨#[110, 111, 110, 101]⟩ else ⟨(Lib.join (ts.map (·.data.toList)) [44]).toArray⟩

theorem joined_c {w w0 : World} {v : Value} {ts : List ByteArray} (h : Own w0 w 9 v (ts.map Value.string)) (hlen : (Lib.join (ts.map (·.data.toList)) [44]).length ≤ 140737488355328) (hn : ts.length ≤ 1000000) :
    Calls Tryd.prog 81 #[v] w fun e w' => e = .returned (.string (joinT ts)) ∧ Below w.heap.size w w' := by
  by_cases h0 : ts = []
  · obtain ⟨a, c, rfl⟩ := h.len
    have e0 : joinT ts = ⟨#[110, 111, 110, 101]⟩ := by simp [joinT, h0]
    rw [e0]
    subst h0
    clear h hlen hn e0
    go_enter Tryd.func81, Tryd.ntmps81
    go_wp2
    go_ret
    exact ⟨rfl, Below.refl _ _⟩
  · have hp : 0 < ts.length := List.length_pos_iff.2 h0
    obtain ⟨g, c, rfl, h1, h2, h3, h4⟩ := h.at_ (by simpa using hp)
    have e0 : joinT ts = ⟨(Lib.join (ts.map (·.data.toList)) [44]).toArray⟩ := by simp [joinT, h0]
    rw [e0]
    have J := Lib.hid (Tryd.strings_Join g 0 c ts ⟨#[44]⟩ w (by intro j x hj; rw [Nat.zero_add, h4 j (by simpa using (List.getElem?_eq_some_iff.1 hj).1)]; simp [hj]) h2 (by omega) (by simpa using h3) hlen)
    rw [List.length_map] at *
    generalize ts.length = n at *
    have hn' : (n : Int) ≤ 1000000 := by omega
    have hp' : (1 : Int) ≤ (n : Int) := by omega
    clear e0 h h1 h3 h4 hlen h0
    go_enter Tryd.func81, Tryd.ntmps81
    go_wp2_with (go_at_call 123; refine J.out.mono ?_; rintro e w1 ⟨rfl, hw1⟩)
    go_ret
    exact ⟨rfl, by assumption⟩

def numText (xs : List Nat) : ByteArray := joinT (numTexts xs)
theorem hex8_length (b : Nat) : (hex8 b).length = 8 := rfl
theorem lens_hex (xs : List Nat) : Lib.lens ((numTexts xs).map (·.data.toList)) = 8 * xs.length := by
  induction xs with
  | nil => rfl
  | cons x r ih =>
    simp only [numTexts, Lib.lens, List.map_cons, List.sum_cons, List.map_map, List.length_cons] at ih ⊢
    simp only [hex8_length]
    omega
theorem join_hex (xs : List Nat) : (Lib.join ((numTexts xs).map (·.data.toList)) [44]).length ≤ 9 * xs.length := by
  cases xs with
  | nil => simp [numTexts, Lib.join_nil]
  | cons x r =>
    have h := lens_hex (x :: r)
    simp only [numTexts, List.map_cons] at h ⊢
    rw [Lib.join_length, h]
    simp
    omega

theorem listOk_c (b o n c : Nat) (hn : n ≤ 256) (w : World) : Calls Tryd.prog 98 #[.slice (some ⟨b, o, none⟩) n c] w fun e w' => e = .returned (.bool true) ∧ w = w' := by
  have hl' : (n : Int) ≤ 256 := by omega
  go_enter Tryd.func98, Tryd.ntmps98
  go_wp2
  go_ret
  exact ⟨rfl, rfl⟩

/-- One more text. -/
theorem texts_next {w0 W : World} {v : Value} {xs : List Nat} {k : Nat} (hk : k < xs.length) (h : Own w0 W 9 v (((numTexts xs).take k).map Value.string ++ [Value.string ⟨(hex8 (bitsOf (xs.getD k 0))).toArray⟩])) :
    Own w0 W 9 v (((numTexts xs).take (k + 1)).map Value.string) := by
  have : (numTexts xs).take (k + 1) = (numTexts xs).take k ++ [⟨(hex8 (bitsOf (xs.getD k 0))).toArray⟩] := by
    rw [List.take_add_one]
    simp [numTexts, hk]
  rw [this, List.map_append]
  exact h

set_option maxRecDepth 100000 in
set_option maxHeartbeats 4000000 in
theorem numbersText_c {w : World} {b o c : Nat} {xs : List Nat} (hx : Nums w b o xs) (h32 : ∀ x ∈ xs, W32 x) (hl : xs.length ≤ 256) :
    Calls Tryd.prog 52 #[.slice (some ⟨b, o, none⟩) xs.length c] w fun e w' => e = .returned (.tuple #[.string (numText xs), .bool true]) ∧ Below w.heap.size w w' := by
  obtain ⟨hb, hc⟩ := hx
  have hjl := join_hex xs
  generalize hn : xs.length = n at hl hjl
  have HN := Lib.hid hn
  clear hn
  have hl' : (n : Int) ≤ 256 := by omega
  have h0 : (0 : Int) ≤ (n : Int) := by omega
  have HC := Lib.hid hc
  have HB := Lib.hid hb
  have H32 := Lib.hid h32
  have HJ := Lib.hid hjl
  clear hc h32 hjl hb
  go_enter Tryd.func52, Tryd.ntmps52
  go_wp2_with (go_at_call 98; refine (listOk_c b o n c hl _).mono ?_; rintro e w1 ⟨rfl, rfl⟩)
  have H0 := Lib.hid (Own.lit (e := 9) (Below.refl w.heap.size w) #[] 0 (by omega) rfl)
  go_loopw [4, 13] (fun v i wr => ∃ k : Nat, k ≤ n ∧ i = .int .i64 k ∧ Hid (Own w wr 9 v (((numTexts xs).take k).map Value.string)))
    (fun _ i _ => n - (intOf i).toNat)
  case atStart => exact ⟨0, Nat.zero_le _, rfl, H0⟩
  case round =>
    clear H0
    obtain ⟨k, hk, rfl, hown⟩ := hrel
    have hcx : k < n → wr.cell? ⟨b, o + k, none⟩ = some (.float .f32 (xs.getD k 0)) := fun h => by
      have hkx : k < xs.length := by rw [HN.out]; exact h
      rw [hown.out.cell b _ HB.out, HC.out k _ (List.getElem?_eq_getElem hkx)]
      simp [List.getElem?_eq_getElem hkx]
    have hx32 : k < n → W32 (xs.getD k 0) := fun h => by
      have hkx : k < xs.length := by rw [HN.out]; exact h
      have e : xs.getD k 0 = xs[k] := by simp [List.getElem?_eq_getElem hkx]
      rw [e]
      exact H32.out _ (List.getElem_mem hkx)
    have hdone : ¬ k < n → Own w wr 9 u4 ((numTexts xs).map Value.string) := fun h => by
      have e : (numTexts xs).take k = numTexts xs := List.take_of_length_le (by simp [numTexts, HN.out]; omega)
      rw [e] at hown
      exact hown.out
    have HD := Lib.hid hdone
    clear hdone
    have HX := Lib.hid hx32
    clear hx32
    generalize hxk : xs.getD k 0 = x at hcx HX
    have HXK := Lib.hid hxk
    clear hxk
    go_wp2_with (first
      | (go_at_call 80; refine (hexText_c (HX.out (by assumption)) _).mono ?_; rintro e w1 ⟨rfl, hw1⟩; have hown1 := Lib.hid (hown.out.after hw1); clear hown hw1 hcx)
      | (at_builtin; go_loud (refine app_one rfl (.tmp 17) (.tmp 20) 87 9 (.string ⟨#[]⟩) 16 rfl Tryd.underlying87 info_str rfl rfl rfl (by simp) rfl hown1.out (by simp; omega) (by omega) ?_; intro v1 w2 H1 hg))
      | (go_at_call 81; go_loud (refine (joined_c (HD.out (by omega)) (by have := HJ.out; omega) (by simp [numTexts, HN.out]; omega)).mono ?_; rintro e w1 ⟨rfl, hw1⟩; have hbel := Lib.hid (bthen hown.out.bel hw1); clear hown hw1 hcx HX HD)))
    · have hlt : k < n := by assumption
      have hkx : k < xs.length := by rw [HN.out]; exact hlt
      rw [← HXK.out] at H1
      have H2 := Lib.hid (texts_next hkx H1)
      clear H1 hg hown1 HX HD HXK
      go_wp2
      go_roundw
      case rel => exact ⟨k + 1, by omega, by simp, H2⟩
      case measure => simp [intOf]; omega
    · exact bodyPost_ret (v := .tuple #[.string (numText xs), .bool true]) (by simp [results, Tryd.results52, go_sem, numText]) rfl ⟨rfl, hbel.out⟩
end Go.Proofs.YtglnfccglgladaaDoor
