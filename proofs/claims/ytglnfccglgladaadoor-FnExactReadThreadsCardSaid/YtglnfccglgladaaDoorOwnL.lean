/-
  A list that the call has built: the slice value v owns its cells; append of one element; what is read of it.
-/
import Derived.Test.YtglnfccglgladaaDoorTame
import Derived.WalkKit
import Derived.WalkSpells
import Derived.OwnWalk
import Derived.Laws.OwnMore
import Derived.Maps.AppendAt
import Derived.Lib.Hide
namespace Go.Proofs.YtglnfccglgladaaDoor
open Go.RowKit
set_option linter.unusedVariables false

/-- In the world W, reached from w0 by writing new memory alone, v is a slice of type []e over one-cell elements and owns just the cells xs. -/
structure Own (w0 W : World) (e : TypeId) (v : Value) (xs : List Value) : Prop where
  row : W.ownsRow w0.heap.size e 1 v xs.length xs
  bel : Below w0.heap.size w0 W

theorem Own.lit {w0 W : World} {e : TypeId} (h : Below w0.heap.size w0 W) (cs : Array Value) (n : Nat) (hn : n ≤ 1000000) (hs : cs.size = n) : Own w0 (W.alloc (.cells cs e)) e (.slice (some ⟨W.heap.size, 0, none⟩) n n) cs.toList := by
  refine ⟨?_, balloc h _⟩
  have := World.ownsRow_lit (base := w0.heap.size) (e := e) (size := 1) W cs n h.size (by simp only [maxLen]; omega) (by omega)
  have e1 : cs.toList.length = n := by simpa using hs
  rw [e1]
  simpa using this
theorem Own.drew {w0 W : World} {e : TypeId} {v : Value} {xs : List Value} (h : Own w0 W e v xs) : Own w0 W.drew e v xs := ⟨h.row, h.bel.drew⟩
theorem Own.alloc {w0 W : World} {e : TypeId} {v : Value} {xs : List Value} (h : Own w0 W e v xs) (o : Obj) : Own w0 (W.alloc o) e v xs := ⟨h.row.alloc o, balloc h.bel o⟩
/-- What makes memory alone leaves it. -/
theorem Own.after {w0 W W' : World} {e : TypeId} {v : Value} {xs : List Value} (h : Own w0 W e v xs) (k : Below W.heap.size W W') : Own w0 W' e v xs :=
  ⟨h.row.kept (row := none) ⟨k.os, k.tape, k.output, k.size, fun i hi _ => k.block i hi⟩ (by cases v.ownBlock <;> simp), bthen h.bel k⟩
theorem Own.len {w0 W : World} {e : TypeId} {v : Value} {xs : List Value} (h : Own w0 W e v xs) : ∃ a c, v = .slice a xs.length c := by
  rcases h.row.2 with ⟨rfl, h0⟩ | ⟨g, cap, cur, rfl, _⟩
  · exact ⟨none, 0, by rw [h0]⟩
  · exact ⟨_, _, rfl⟩
/-- A list that is not empty lies at the head of a block. -/
theorem Own.at_ {w0 W : World} {e : TypeId} {v : Value} {xs : List Value} (h : Own w0 W e v xs) (hn : 0 < xs.length) : ∃ g c, v = .slice (some ⟨g, 0, none⟩) xs.length c ∧ w0.heap.size ≤ g ∧ g < W.heap.size ∧ xs.length ≤ c ∧ (∀ j, j < xs.length → W.cell? ⟨g, j, none⟩ = xs[j]?) := by
  rcases h.row.2 with ⟨rfl, h0⟩ | ⟨g, cap, cur, rfl, hb, hc, hnc, _⟩
  · omega
  · refine ⟨g, cap, rfl, hb, (Array.getElem?_eq_some_iff.1 hc).1, hnc, fun j hj => ?_⟩
    exact h.row.cellAt j (by omega)

section
variable {P : Program} {ops : Array Oper} {rest : List Oper} {o : Oper} {a : Act} {Q : Exit → Act → World → Prop}
/-- v = append(v, y). -/
theorem app_one {w0 W : World} (hgd : o.guard = none) (s x : Operand) (t e : TypeId) (z : Value) (bytes : Nat)
    (ho : o.op = .call { callee := .builtin .append, args := #[s, x], argTypes := #[t, t] })
    (ht : P.underlying t = some (.slice e)) (hinfo : (P.info? e).map (fun i => (i.zero, i.size, i.bytes)) = some (some z, 1, bytes)) (hz : z.cells.size = 1)
    {v : Value} {xs : List Value} {y : Value} {bk : Nat} (hs : a.eval s = v) (hx : a.eval x = .slice (some ⟨bk, 0, none⟩) 1 1) (hbk : bk = W.heap.size) (h1 : y.oneCell' = true)
    (H : Own w0 W e v xs) (hl : xs.length ≤ 1000000) (hb : bytes ≤ 1000)
    (h : ∀ v1 w1, Own w0 w1 e v1 (xs ++ [y]) → W.grownBy w1 v.ownBlock → wpList P ops Q rest (a.put o.dst v1) w1) :
    wpList P ops Q (o :: rest) a (W.alloc (.cells #[y] e)) := by
  subst hbk
  obtain ⟨i0, hi, hzz⟩ := Option.map_eq_some_iff.1 hinfo
  simp only [Prod.mk.injEq] at hzz
  obtain ⟨hz0, hz1, hz2⟩ := hzz
  have hbig : (xs.length + 1) * bytes ≤ 140737488355328 := by
    have : (xs.length + 1) * bytes ≤ 1000001 * 1000 := Nat.mul_le_mul (by omega) hb
    omega
  refine wpList_append_own (W.alloc (.cells #[y] e)) hgd s x t ho w0.heap.size e i0 z 1 bytes ht hi hz0 hz1 hz2 hz (by omega) v xs.length xs hs (H.row.alloc _) ⟨W.heap.size, 0, none⟩ 1 1 [y] hx rfl
    (cell_one_new _ _ _) (by simpa using h1) (by simp only [maxLen]; omega) hbig (by have := H.bel.size; simp; omega) ?_
  intro v1 w1 hown hg _
  have hg' : W.grownBy w1 v.ownBlock := World.grownBy.trans (World.grownBy_alloc W _ _) hg
  refine h v1 w1 ⟨by simpa using hown, H.bel.grown hg' H.bel.size (fun k hk => (H.row.lt k hk).1)⟩ hg'
end
/-- The world behind an append: below the call's own memory nothing has changed. -/
theorem Own.cell {w0 W : World} {e : TypeId} {v : Value} {xs : List Value} (h : Own w0 W e v xs) : ∀ b o, b < w0.heap.size → W.cell? ⟨b, o, none⟩ = w0.cell? ⟨b, o, none⟩ := Held.cell h.bel
/-- A block of another type of elements is not the list's own. -/
theorem Own.apart {w0 W : World} {e e' : TypeId} {v : Value} {xs : List Value} {g : Nat} {cs : Array Value} {fz : Nat × Nat} (h : Own w0 W e v xs) (hb : W.heap[g]? = some (.cells cs e' fz)) (hne : e' ≠ e) : v.ownBlock ≠ some g := by
  rcases h.row.2 with ⟨rfl, _⟩ | ⟨g', cap, cur, rfl, _, hc, _⟩
  · simp [Value.ownBlock]
  · intro k
    simp only [Value.ownBlock, Option.some.injEq] at k
    subst k
    rw [hc] at hb
    simp only [Option.some.injEq, Obj.cells.injEq] at hb
    exact hne hb.2.1.symm
theorem gheap' {W w1 : World} {r : Option Nat} {g : Nat} {o : Obj} (hg : W.grownBy w1 r) (h : W.heap[g]? = some o) (hne : r ≠ some g) : w1.heap[g]? = some o :=
  (hg.block g (Array.getElem?_eq_some_iff.1 h).1 (Ne.symm hne)).trans h
end Go.Proofs.YtglnfccglgladaaDoor
