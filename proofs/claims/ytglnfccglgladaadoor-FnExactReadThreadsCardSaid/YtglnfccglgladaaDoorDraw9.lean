/-
  What is drawn, from the codes: lists, numbers, complex numbers; the number in a code.
-/
import Derived.Test.YtglnfccglgladaaDoorDraw8
namespace Go.Proofs.YtglnfccglgladaaDoor
open Go.RowKit
set_option linter.unusedVariables false

/-- A list that lies in memory (of the empty one nothing is known). -/
def VList (W : World) (v : Value) (xs : List Value) : Prop := ∃ a c, v = .slice a xs.length c ∧ (0 < xs.length → ∃ b, a = some ⟨b, 0, none⟩ ∧ b < W.heap.size ∧ ∀ j x, xs[j]? = some x → W.cell? ⟨b, j, none⟩ = some x)
theorem VList.after {W W' : World} {v : Value} {xs : List Value} (h : VList W v xs) (k : Below W.heap.size W W') : VList W' v xs := by
  obtain ⟨a, c, e, hp⟩ := h
  refine ⟨a, c, e, fun hx => ?_⟩
  obtain ⟨b, e, hb, hc⟩ := hp hx
  exact ⟨b, e, Nat.lt_of_lt_of_le hb k.size, fun j x hj => by rw [k.cell (p := ⟨b, j, none⟩) hb]; exact hc j x hj⟩
theorem OwnG.list {w0 W : World} {g : Nat} {e : TypeId} {v : Value} {xs : List Value} (h : OwnG w0 W g e v xs) : VList W v xs := by
  obtain ⟨a, c, e, hp⟩ := h.nums
  refine ⟨a, c, e, fun hx => ?_⟩
  obtain ⟨b, e, _, hb, hc⟩ := hp hx
  refine ⟨b, e, hb, fun j x hj => ?_⟩
  have hl := (List.getElem?_eq_some_iff.1 hj).1
  rw [hc j hl, hj]
theorem Own.list {w0 W : World} {e : TypeId} {v : Value} {xs : List Value} (h : Own w0 W e v xs) : VList W v xs := by
  by_cases hp : 0 < xs.length
  · obtain ⟨g, c, e, _, hb, _, hc⟩ := h.at_ hp
    refine ⟨_, c, e, fun hx => ⟨g, rfl, hb, fun j x hj => ?_⟩⟩
    have hl := (List.getElem?_eq_some_iff.1 hj).1
    rw [hc j hl, hj]
  · obtain ⟨a, c, e⟩ := h.len
    exact ⟨a, c, e, fun hx => absurd hx hp⟩

theorem b10any_c {w : World} {n cp k : Nat} {A : Option Addr} (hn : n ≤ 9223372036854775807) (hc : Code w w.heap.size A n) (hk : k ≤ 100) :
    Calls Tryd.prog 36 #[.slice A n cp, .int .i64 k] w fun e w' => (∃ (v : Value) (ps : List (Nat × Nat)), e = .returned v ∧ ps.length = k ∧ VList w' v (ps.map cxV) ∧ ∀ p ∈ ps, Cx32 p) ∧ Below w.heap.size w w' := by
  go_enter Tryd.func36, Tryd.ntmps36
  go_wp2_with fail
  refine (from_c (B := w.heap.size) (Nat.le_refl _) hn hc).mono ?_
  rintro e w1 ⟨rfl, hs, hb⟩
  have HB := Lib.hid hb
  clear hc
  go_wp2_with fail
  refine (drawcomplexes_c hs (by omega) hk hb.size).mono ?_
  rintro e w2 ⟨v, rfl, ps, hl, ho, hp, hs2⟩
  have HB2 := Lib.hid (HB.out.grown ho.gr HB.out.size (fun k e => by simp at e; omega))
  have HO := Lib.hid ho.list
  have HP := Lib.hid hp
  have HL := Lib.hid hl
  clear ho hs2 hp hl hs hb HB
  go_wp2
  go_ret
  exact ⟨⟨_, ps, rfl, HL.out, HO.out, HP.out⟩, HB2.out⟩

theorem b10numbers_c {w : World} {n cp k : Nat} {A : Option Addr} (hn : n ≤ 9223372036854775807) (hc : Code w w.heap.size A n) (hk : k ≤ 100) :
    Calls Tryd.prog 50 #[.slice A n cp, .int .i64 k] w fun e w' => (∃ (v : Value) (ps : List Nat), e = .returned v ∧ ps.length = k ∧ VList w' v (ps.map flV) ∧ ∀ p ∈ ps, W32 p) ∧ Below w.heap.size w w' := by
  go_enter Tryd.func50, Tryd.ntmps50
  go_wp2_with fail
  refine (from_c (B := w.heap.size) (Nat.le_refl _) hn hc).mono ?_
  rintro e w1 ⟨rfl, hs, hb⟩
  have HB := Lib.hid hb
  clear hc
  go_wp2_with fail
  refine (drawfloats_c hs (by omega) hk hb.size).mono ?_
  rintro e w2 ⟨v, rfl, ps, hl, ho, hp, hs2⟩
  have HB2 := Lib.hid (HB.out.grown ho.gr HB.out.size (fun k e => by simp at e; omega))
  have HO := Lib.hid ho.list
  have HP := Lib.hid hp
  have HL := Lib.hid hl
  clear ho hs2 hp hl hs hb HB
  go_wp2
  go_ret
  exact ⟨⟨_, ps, rfl, HL.out, HO.out, HP.out⟩, HB2.out⟩

theorem b10complex_c {w : World} {n cp : Nat} {A : Option Addr} (hn : n ≤ 9223372036854775807) (hc : Code w w.heap.size A n) :
    Calls Tryd.prog 43 #[.slice A n cp] w fun e w' => (∃ x y, e = .returned (.complex .f32 x y) ∧ W32 x ∧ W32 y) ∧ Below w.heap.size w w' := by
  go_enter Tryd.func43, Tryd.ntmps43
  go_wp2_with fail
  refine (from_c (B := w.heap.size) (Nat.le_refl _) hn hc).mono ?_
  rintro e w1 ⟨rfl, hs, hb⟩
  have HB := Lib.hid hb
  clear hc
  go_wp2_with fail
  refine (one_c (by omega) hs (by omega)).mono ?_
  rintro e w2 ⟨v, rfl, ⟨b, rfl⟩, hs2, hg2⟩
  have HB2 := Lib.hid (HB.out.grown hg2 HB.out.size (fun k e => by simp at e; omega))
  clear hg2 hs hb HB
  go_wp2_with (first
    | (go_at_call 91; refine (drawcomplex_c hs2 (by omega)).mono ?_; rintro e w3 ⟨v, rfl, ⟨x, y, rfl, hx, hy⟩, hs3, hg3⟩; have HB3 := Lib.hid (HB2.out.grown hg3 HB2.out.size (fun k e => by simp at e; omega)); have HX := Lib.hid hx; have HY := Lib.hid hy; clear hs3 hg3 hx hy)
    | (go_at_call 92; refine (drawfine_c hs2 (by omega)).mono ?_; rintro e w3 ⟨v, rfl, ⟨x, y, rfl, hx, hy⟩, hs3, hg3⟩; have HB3 := Lib.hid (HB2.out.grown hg3 HB2.out.size (fun k e => by simp at e; omega)); have HX := Lib.hid hx; have HY := Lib.hid hy; clear hs3 hg3 hx hy))
  all_goals go_ret
  all_goals exact ⟨⟨_, _, rfl, HX.out, HY.out⟩, HB3.out⟩
end Go.Proofs.YtglnfccglgladaaDoor
