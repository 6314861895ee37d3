/-
  A list that the call builds while it draws from a source in block g.
-/
import Derived.Test.YtglnfccglgladaaDoorOwnL
import Derived.Test.YtglnfccglgladaaDoorDraw6
namespace Go.Proofs.YtglnfccglgladaaDoor
open Go.RowKit
set_option linter.unusedVariables false

structure OwnG (w0 W : World) (g : Nat) (e : TypeId) (v : Value) (xs : List Value) : Prop where
  row : W.ownsRow w0.heap.size e 1 v xs.length xs
  gr : w0.grownBy W (some g)
  lt : g < w0.heap.size

section
variable {w0 W W' : World} {g : Nat} {e : TypeId} {v : Value} {xs : List Value}
theorem OwnG.lit (hg : g < w0.heap.size) (cs : Array Value) (n : Nat) (hn : n ≤ 1000000) (hs : cs.size = n) : OwnG w0 (w0.alloc (.cells cs e)) g e (.slice (some ⟨w0.heap.size, 0, none⟩) n n) cs.toList := by
  refine ⟨?_, World.grownBy_alloc _ _ _, hg⟩
  have := World.ownsRow_lit (base := w0.heap.size) (e := e) (size := 1) w0 cs n (Nat.le_refl _) (by simp only [maxLen]; omega) (by omega)
  have e1 : cs.toList.length = n := by simpa using hs
  rw [e1]
  simpa using this
theorem OwnG.ne (h : OwnG w0 W g e v xs) : v.ownBlock ≠ some g := fun k => by
  have := (h.row.lt g k).1
  have := h.lt
  omega
theorem OwnG.draw (h : OwnG w0 W g e v xs) (k : W.grownBy W' (some g)) : OwnG w0 W' g e v xs :=
  ⟨h.row.kept k (Or.inr h.ne), World.grownBy.trans h.gr k, h.lt⟩
theorem OwnG.len (h : OwnG w0 W g e v xs) : ∃ a c, v = .slice a xs.length c := by
  rcases h.row.2 with ⟨rfl, h0⟩ | ⟨g, cap, cur, rfl, _⟩
  · exact ⟨none, 0, by rw [h0]⟩
  · exact ⟨_, _, rfl⟩
theorem OwnG.app (h : OwnG w0 W g e v xs) {ys : List Value} {v1 : Value} (hr : W'.ownsRow w0.heap.size e 1 v1 ys.length ys) (k : W.grownBy W' v.ownBlock) : OwnG w0 W' g e v1 ys :=
  ⟨hr, ⟨k.os.trans h.gr.os, k.tape.trans h.gr.tape, k.output.trans h.gr.output, Nat.le_trans h.gr.size k.size, fun b hb hne => by
    rw [k.block b (Nat.lt_of_lt_of_le hb h.gr.size) (fun e => by have := (h.row.lt b e.symm).1; omega)]
    exact h.gr.block b hb hne⟩, h.lt⟩
theorem OwnG.src (h : OwnG w0 W g e v xs) {B m : Nat} (hs : Src W B g m) (hB : B ≤ w0.heap.size) (k : W.grownBy W' v.ownBlock) : Src W' B g m :=
  hs.grown (r := v.ownBlock) (fun b e => by have h1 := (h.row.lt b e).1; have h2 := h.lt; omega) k
/-- In the end: a list in new memory. -/
theorem OwnG.nums (h : OwnG w0 W g e v xs) : (∃ a c, v = .slice a xs.length c ∧ (0 < xs.length → ∃ b, a = some ⟨b, 0, none⟩ ∧ w0.heap.size ≤ b ∧ b < W.heap.size ∧ ∀ j, j < xs.length → W.cell? ⟨b, j, none⟩ = xs[j]?)) := by
  rcases h.row.2 with ⟨rfl, h0⟩ | ⟨g', cap, cur, rfl, hb, hc, hnc, _⟩
  · exact ⟨none, 0, by rw [h0], fun hp => by omega⟩
  · refine ⟨_, _, rfl, fun hp => ⟨g', rfl, hb, (Array.getElem?_eq_some_iff.1 hc).1, fun j hj => ?_⟩⟩
    exact h.row.cellAt j (by omega)
end

section
variable {P : Program} {ops : Array Oper} {rest : List Oper} {o : Oper} {a : Act} {Q : Exit → Act → World → Prop}
/-- v = append(v, y). -/
theorem app_oneG {w0 W : World} {g : Nat} (hgd : o.guard = none) (s x : Operand) (t e : TypeId) (z : Value) (bytes : Nat)
    (ho : o.op = .call { callee := .builtin .append, args := #[s, x], argTypes := #[t, t] })
    (ht : P.underlying t = some (.slice e)) (hinfo : (P.info? e).map (fun i => (i.zero, i.size, i.bytes)) = some (some z, 1, bytes)) (hz : z.cells.size = 1)
    {v : Value} {xs : List Value} {y : Value} {bk : Nat} (hs : a.eval s = v) (hx : a.eval x = .slice (some ⟨bk, 0, none⟩) 1 1) (hbk : bk = W.heap.size) (h1 : y.oneCell' = true)
    (H : OwnG w0 W g e v xs) (hl : xs.length ≤ 1000000) (hb : bytes ≤ 1000)
    (h : ∀ v1 w1, OwnG w0 w1 g e v1 (xs ++ [y]) → W.grownBy w1 v.ownBlock → wpList P ops Q rest (a.put o.dst v1) w1) :
    wpList P ops Q (o :: rest) a (W.alloc (.cells #[y] e)) := by
  subst hbk
  obtain ⟨i0, hi, hzz⟩ := Option.map_eq_some_iff.1 hinfo
  simp only [Prod.mk.injEq] at hzz
  obtain ⟨hz0, hz1, hz2⟩ := hzz
  have hbig : (xs.length + 1) * bytes ≤ 140737488355328 := by
    have : (xs.length + 1) * bytes ≤ 1000001 * 1000 := Nat.mul_le_mul (by omega) hb
    omega
  refine wpList_append_own (W.alloc (.cells #[y] e)) hgd s x t ho w0.heap.size e i0 z 1 bytes ht hi hz0 hz1 hz2 hz (by omega) v xs.length xs hs (H.row.alloc _) ⟨W.heap.size, 0, none⟩ 1 1 [y] hx rfl
    (cell_one_new _ _ _) (by simpa using h1) (by simp only [maxLen]; omega) hbig (by have := H.gr.size; simp; omega) ?_
  intro v1 w1 hown hg _
  have hg' : W.grownBy w1 v.ownBlock := World.grownBy.trans (World.grownBy_alloc W _ _) hg
  exact h v1 w1 (H.app (by simpa using hown) hg') hg'
end
end Go.Proofs.YtglnfccglgladaaDoor
