/-
  The same numbers.
-/
import Derived.Test.YtglnfccglgladaaDoorRead6
namespace Go.Proofs.YtglnfccglgladaaDoor
open Go.RowKit
set_option linter.unusedVariables false

def sameN (x y : Nat) : Bool := if nan32 x || nan32 y then nan32 x && nan32 y else x == y
theorem sameN_bitsOf (x : Nat) : sameN (bitsOf x) x = true := by
  unfold sameN
  cases h : nan32 x with
  | true =>
    have e : bitsOf x = 2143289344 := by simp [bitsOf, h]
    have n : nan32 2143289344 = true := by rfl
    rw [e, n]; rfl
  | false =>
    have e : bitsOf x = x := by simp [bitsOf, h]
    rw [e, h]; simp

set_option maxRecDepth 100000 in
theorem sameNumber_c (x y : Nat) (w : World) : Calls Tryd.prog 94 #[.float .f32 x, .float .f32 y] w fun e w' => e = .returned (.bool (sameN x y)) ∧ w = w' := by
  have hs : Hid (sameN x y = if nan32 x || nan32 y then nan32 x && nan32 y else x == y) := Lib.hid rfl
  have N := Lib.hid (fun x w => isNaN_any x w)
  cases hx : nan32 x <;> cases hy : nan32 y
  · have HX := Lib.hid hx
    have HY := Lib.hid hy
    clear hx hy
    by_cases he : x = y
    · have hs2 : Hid (sameN x y = true) := Lib.hid (by rw [hs.out, HX.out, HY.out]; simp [he])
      have he' : (x : Int) = (y : Int) := by omega
      clear hs he
      go_enter Tryd.func94, Tryd.ntmps94
      go_wp2_with (first | (go_at_call 89; refine (N.out _ _).mono ?_; rintro e w1 ⟨rfl, rfl⟩; first | rw [HX.out] | rw [HY.out]) | simp only [bits32_any])
      go_ret
      exact ⟨by rw [hs2.out]; rfl, rfl⟩
    · have hs2 : Hid (sameN x y = false) := Lib.hid (by rw [hs.out, HX.out, HY.out]; simp [he])
      have he' : ((x : Int) == (y : Int)) = false := by simp; omega
      clear hs he
      go_enter Tryd.func94, Tryd.ntmps94
      go_wp2_with (first | (go_at_call 89; refine (N.out _ _).mono ?_; rintro e w1 ⟨rfl, rfl⟩; first | rw [HX.out] | rw [HY.out]) | simp only [bits32_any])
      go_ret
      exact ⟨by rw [hs2.out]; rfl, rfl⟩
  all_goals
    have hs2 := hs.out
    rw [hx, hy] at hs2
    have HS := Lib.hid hs2
    have HX := Lib.hid hx
    have HY := Lib.hid hy
    clear hx hy hs2
    go_enter Tryd.func94, Tryd.ntmps94
    go_wp2_with (go_at_call 89; refine (N.out _ _).mono ?_; rintro e w1 ⟨rfl, rfl⟩; first | rw [HX.out] | rw [HY.out])
    go_ret
    exact ⟨by rw [HS.out]; rfl, rfl⟩

/-- Two lists, number by number. -/
def sameNs : List Nat → List Nat → Bool
  | [], [] => true
  | x :: xs, y :: ys => sameN x y && sameNs xs ys
  | _, _ => false
theorem sameNs_length {xs ys : List Nat} (h : xs.length ≠ ys.length) : sameNs xs ys = false := by
  induction xs generalizing ys with
  | nil => cases ys with
    | nil => exact absurd rfl h
    | cons => rfl
  | cons x xs ih => cases ys with
    | nil => rfl
    | cons y ys => simp only [List.length_cons] at h; rw [sameNs, ih (by omega), Bool.and_false]
theorem sameNs_bad {xs ys : List Nat} {k : Nat} (hx : k < xs.length) (hy : k < ys.length) (h : sameN xs[k] ys[k] = false) : sameNs xs ys = false := by
  induction xs generalizing ys k with
  | nil => simp at hx
  | cons x xs ih => cases ys with
    | nil => rfl
    | cons y ys =>
      cases k with
      | zero => simp only [List.getElem_cons_zero] at h; rw [sameNs, h, Bool.false_and]
      | succ k => rw [sameNs, ih (k := k) (by simpa using hx) (by simpa using hy) (by simpa using h), Bool.and_false]
theorem sameNs_next {xs ys : List Nat} {k : Nat} (hx : k < xs.length) (hy : k < ys.length) (h : sameN xs[k] ys[k] = true) (hk : sameNs (xs.take k) (ys.take k) = true) : sameNs (xs.take (k + 1)) (ys.take (k + 1)) = true := by
  induction xs generalizing ys k with
  | nil => simp at hx
  | cons x xs ih => cases ys with
    | nil => simp at hy
    | cons y ys =>
      cases k with
      | zero => simp only [List.getElem_cons_zero] at h; simp [sameNs, h]
      | succ k =>
        simp only [List.take_succ_cons, sameNs, Bool.and_eq_true] at hk ⊢
        exact ⟨hk.1, ih (by simpa using hx) (by simpa using hy) (by simpa using h) hk.2⟩

set_option maxRecDepth 100000 in
set_option maxHeartbeats 4000000 in
theorem equalFunc_c {w : World} {b1 o1 c1 b2 o2 c2 : Nat} {xs ys : List Nat} (h1 : Nums w b1 o1 xs) (h2 : Nums w b2 o2 ys) (hl1 : xs.length ≤ 1000000) (hl2 : ys.length ≤ 1000000) :
    Calls Tryd.prog 110 #[.slice (some ⟨b1, o1, none⟩) xs.length c1, .slice (some ⟨b2, o2, none⟩) ys.length c2, .func (.func 94) #[] #[]] w fun e w' => e = .returned (.bool (sameNs xs ys)) ∧ w = w' := by
  have HC1 := Lib.hid h1.2
  have HC2 := Lib.hid h2.2
  clear h1 h2
  generalize hn : xs.length = n at hl1
  generalize hm : ys.length = m at hl2
  have HN := Lib.hid hn
  have HM := Lib.hid hm
  clear hn hm
  have hn0 : (0 : Int) ≤ n := by omega
  have hm0 : (0 : Int) ≤ m := by omega
  have hn1 : (n : Int) ≤ 1000000 := by omega
  have hm1 : (m : Int) ≤ 1000000 := by omega
  by_cases hnm : n = m
  · subst hnm
    go_enter Tryd.func110, Tryd.ntmps110
    go_wp2
    go_loop [17] (fun i => ∃ k : Nat, k ≤ n ∧ i = .int .i64 k ∧ Hid (sameNs (xs.take k) (ys.take k) = true)) (fun i => n - (intOf i).toNat)
    case atStart => exact ⟨0, Nat.zero_le _, rfl, Lib.hid rfl⟩
    case round =>
      obtain ⟨k, hk, rfl, hall⟩ := hrel
      by_cases hlt : k < n
      · have hkx : k < xs.length := by rw [HN.out]; exact hlt
        have hky : k < ys.length := by rw [HM.out]; exact hlt
        obtain ⟨x, hx⟩ : ∃ x, xs[k] = x := ⟨_, rfl⟩
        obtain ⟨y, hy⟩ : ∃ y, ys[k] = y := ⟨_, rfl⟩
        have hc1 : w.cell? ⟨b1, o1 + k, none⟩ = some (.float .f32 x) := HC1.out k x (by rw [List.getElem?_eq_getElem hkx, hx])
        have hc2 : w.cell? ⟨b2, o2 + k, none⟩ = some (.float .f32 y) := HC2.out k y (by rw [List.getElem?_eq_getElem hky, hy])
        cases hxy : sameN x y with
        | false =>
          have hbad : Hid (sameNs xs ys = false) := Lib.hid (sameNs_bad hkx hky (by rw [hx, hy, hxy]))
          have HXY := Lib.hid hxy
          clear hx hy hxy
          go_wp2_with (go_at_call 94; refine (sameNumber_c x y _).mono ?_; rintro e w1 ⟨rfl, rfl⟩; rw [HXY.out])
          go_ret
          exact ⟨by rw [hbad.out]; rfl, rfl⟩
        | true =>
          have hnext := Lib.hid (sameNs_next hkx hky (by rw [hx, hy, hxy]) hall.out)
          have HXY := Lib.hid hxy
          clear hx hy hxy
          go_wp2_with (go_at_call 94; refine (sameNumber_c x y _).mono ?_; rintro e w1 ⟨rfl, rfl⟩; rw [HXY.out])
          exact ⟨⟨k + 1, by omega, by simp, hnext⟩, by simp [intOf]; omega⟩
      · have e1 : xs.take k = xs := List.take_of_length_le (by rw [HN.out]; omega)
        have e2 : ys.take k = ys := List.take_of_length_le (by rw [HM.out]; omega)
        rw [e1, e2] at hall
        clear e1 e2
        go_wp2
        go_ret
        exact ⟨by rw [hall.out]; rfl, rfl⟩
  · have hb : Hid (sameNs xs ys = false) := Lib.hid (sameNs_length (by rw [HN.out, HM.out]; exact hnm))
    have hnm' : ¬ (n : Int) = (m : Int) := by omega
    clear hnm
    go_enter Tryd.func110, Tryd.ntmps110
    go_wp2
    go_ret
    exact ⟨by rw [hb.out]; rfl, rfl⟩
end Go.Proofs.YtglnfccglgladaaDoor
