/-
  A list that the call has built, of elements of several cells: append of one element; what is read of it.
-/
import Derived.Test.YtglnfccglgladaaDoorVRead
namespace Go.Proofs.YtglnfccglgladaaDoor
open Go.RowKit
set_option linter.unusedVariables false

structure OwnK (w0 W : World) (e : TypeId) (k : Nat) (v : Value) (n : Nat) (xs : List Value) : Prop where
  row : W.ownsRow w0.heap.size e k v n xs
  bel : Below w0.heap.size w0 W

theorem OwnK.nil {w0 W : World} {e : TypeId} (k : Nat) (h : Below w0.heap.size w0 W) : OwnK w0 (W.alloc (.cells #[] e)) e k (.slice (some ⟨W.heap.size, 0, none⟩) 0 0) 0 [] := by
  refine ⟨?_, balloc h _⟩
  have := World.ownsRow_lit (base := w0.heap.size) (e := e) (size := k) W #[] 0 h.size (by simp only [maxLen]; omega) (by simp)
  simpa using this
theorem OwnK.alloc {w0 W : World} {e : TypeId} {k n : Nat} {v : Value} {xs : List Value} (h : OwnK w0 W e k v n xs) (o : Obj) : OwnK w0 (W.alloc o) e k v n xs := ⟨h.row.alloc o, balloc h.bel o⟩
theorem OwnK.after {w0 W W' : World} {e : TypeId} {k n : Nat} {v : Value} {xs : List Value} (h : OwnK w0 W e k v n xs) (b : Below W.heap.size W W') : OwnK w0 W' e k v n xs :=
  ⟨h.row.kept (row := none) ⟨b.os, b.tape, b.output, b.size, fun i hi _ => b.block i hi⟩ (by cases v.ownBlock <;> simp), bthen h.bel b⟩
theorem OwnK.len {w0 W : World} {e : TypeId} {k n : Nat} {v : Value} {xs : List Value} (h : OwnK w0 W e k v n xs) : ∃ a c, v = .slice a n c := by
  rcases h.row.2 with ⟨rfl, h0⟩ | ⟨g, cap, cur, rfl, _⟩
  · exact ⟨none, 0, by rw [h0]⟩
  · exact ⟨_, _, rfl⟩
theorem OwnK.block {w0 W : World} {e : TypeId} {k n : Nat} {v : Value} {xs : List Value} (h : OwnK w0 W e k v n xs) (hn : 0 < n) :
    ∃ g c cur, v = .slice (some ⟨g, 0, none⟩) n c ∧ W.heap[g]? = some (.cells cur e (0, 0)) ∧ (∀ (j : Nat) (x : Value), xs[j]? = some x → cur[j]? = some x) ∧ w0.heap.size ≤ g ∧ g < W.heap.size := by
  have hl := h.row.1
  rcases h.row.2 with ⟨rfl, h0⟩ | ⟨g, cap, cur, rfl, hb, hc, hnc, _, _, ht⟩
  · omega
  · refine ⟨g, cap, cur, rfl, hc, fun j x hj => ?_, hb, (Array.getElem?_eq_some_iff.1 hc).1⟩
    have hl2 := (List.getElem?_eq_some_iff.1 hj).1
    rw [← ht, List.getElem?_take] at hj
    rw [if_pos (by rw [← hl]; exact hl2)] at hj
    simpa using hj
theorem OwnK.apart {w0 W : World} {e e' : TypeId} {k n : Nat} {v : Value} {xs : List Value} {g : Nat} {cs : Array Value} {fz : Nat × Nat} (h : OwnK w0 W e k v n xs) (hb : W.heap[g]? = some (.cells cs e' fz)) (hne : e' ≠ e) : v.ownBlock ≠ some g := by
  rcases h.row.2 with ⟨rfl, _⟩ | ⟨g', cap, cur, rfl, _, hc, _⟩
  · simp [Value.ownBlock]
  · intro q
    simp only [Value.ownBlock, Option.some.injEq] at q
    subst q
    rw [hc] at hb
    simp only [Option.some.injEq, Obj.cells.injEq] at hb
    exact hne hb.2.1.symm

section
variable {P : Program} {ops : Array Oper} {rest : List Oper} {o : Oper} {a : Act} {Q : Exit → Act → World → Prop}
theorem cells_new (W : World) (ys : Array Value) (e : TypeId) : ∀ (j : Nat) u, ys.toList[j]? = some u → (W.alloc (.cells ys e)).cell? ((⟨W.heap.size, 0, none⟩ : Addr).add j) = some u := by
  intro j u hj
  have hb := heap_alloc_new W (.cells ys e)
  have e1 : (⟨W.heap.size, 0, none⟩ : Addr).add j = ⟨W.heap.size, j, none⟩ := by unfold Addr.add; split <;> simp_all
  rw [e1]
  exact cell_of_block hb (by simpa using hj)
/-- v = append(v, y), y of k cells. -/
theorem app_k {w0 W : World} (k : Nat) (hk : 0 < k) (hgd : o.guard = none) (s x : Operand) (t e : TypeId) (z : Value) (bytes : Nat)
    (ho : o.op = .call { callee := .builtin .append, args := #[s, x], argTypes := #[t, t] })
    (ht : P.underlying t = some (.slice e)) (hinfo : (P.info? e).map (fun i => (i.zero, i.size, i.bytes)) = some (some z, k, bytes)) (hz : z.cells.size = k)
    {v : Value} {n : Nat} {xs : List Value} {ys : Array Value} (hys : ys.size = k) {bk : Nat} (hs : a.eval s = v) (hx : a.eval x = .slice (some ⟨bk, 0, none⟩) 1 1) (hbk : bk = W.heap.size) (h1 : ∀ u ∈ ys.toList, u.oneCell' = true)
    (H : OwnK w0 W e k v n xs) (hl : n ≤ 1000000000) (hb : bytes ≤ 1000)
    (h : ∀ v1 w1, OwnK w0 w1 e k v1 (n + 1) (xs ++ ys.toList) → W.grownBy w1 v.ownBlock → wpList P ops Q rest (a.put o.dst v1) w1) :
    wpList P ops Q (o :: rest) a (W.alloc (.cells ys e)) := by
  subst hbk
  obtain ⟨i0, hi, hzz⟩ := Option.map_eq_some_iff.1 hinfo
  simp only [Prod.mk.injEq] at hzz
  obtain ⟨hz0, hz1, hz2⟩ := hzz
  have hbig : (n + 1) * bytes ≤ 140737488355328 := by
    have : (n + 1) * bytes ≤ 1000000001 * 1000 := Nat.mul_le_mul (by omega) hb
    omega
  refine wpList_append_own (W.alloc (.cells ys e)) hgd s x t ho w0.heap.size e i0 z k bytes ht hi hz0 hz1 hz2 hz hk v n xs hs (H.row.alloc _) ⟨W.heap.size, 0, none⟩ 1 1 ys.toList hx (by simp [hys])
    (cells_new _ _ _) h1 (by simp only [maxLen]; omega) hbig (by have := H.bel.size; simp; omega) ?_
  intro v1 w1 hown hg _
  have hg' : W.grownBy w1 v.ownBlock := World.grownBy.trans (World.grownBy_alloc W _ _) hg
  exact h v1 w1 ⟨hown, H.bel.grown hg' H.bel.size (fun k hk => (H.row.lt k hk).1)⟩ hg'
end

/-- The cells of vectors. -/
def vCells (vs : List V3) : List Value := vs.flatMap fun p => [.float .f32 p.1, .float .f32 p.2.1, .float .f32 p.2.2]
theorem vCells_len (vs : List V3) : (vCells vs).length = vs.length * 3 := by
  induction vs with
  | nil => rfl
  | cons p r ih => simp only [vCells, List.flatMap_cons, List.length_append, List.length_cons, List.length_nil] at ih ⊢; omega
theorem vCells_at : ∀ (vs : List V3) (j : Nat) (p : V3), vs[j]? = some p → (vCells vs)[j * 3]? = some (.float .f32 p.1) ∧ (vCells vs)[j * 3 + 1]? = some (.float .f32 p.2.1) ∧ (vCells vs)[j * 3 + 2]? = some (.float .f32 p.2.2)
  | [], j, p, h => by simp at h
  | q :: r, 0, p, h => by
    simp at h
    subst h
    exact ⟨rfl, rfl, rfl⟩
  | q :: r, j + 1, p, h => by
    have ih := vCells_at r j p (by simpa using h)
    have e : vCells (q :: r) = .float .f32 q.1 :: .float .f32 q.2.1 :: .float .f32 q.2.2 :: vCells r := rfl
    have e0 : (j + 1) * 3 = j * 3 + 1 + 1 + 1 := by omega
    rw [e, e0]
    refine ⟨?_, ?_, ?_⟩
    · simpa using ih.1
    · have : j * 3 + 1 + 1 + 1 + 1 = (j * 3 + 1) + 1 + 1 + 1 := by omega
      rw [this]
      simpa using ih.2.1
    · have : j * 3 + 1 + 1 + 1 + 2 = (j * 3 + 2) + 1 + 1 + 1 := by omega
      rw [this]
      simpa using ih.2.2
/-- Vectors that lie in a block. -/
def VNums (W : World) (g : Nat) (vs : List V3) : Prop := g < W.heap.size ∧ ∀ (j : Nat) (p : V3), vs[j]? = some p → W.cell? ⟨g, j * 3, none⟩ = some (.float .f32 p.1) ∧ W.cell? ⟨g, j * 3 + 1, none⟩ = some (.float .f32 p.2.1) ∧ W.cell? ⟨g, j * 3 + 2, none⟩ = some (.float .f32 p.2.2)
theorem VNums.after {W W' : World} {g : Nat} {vs : List V3} (h : VNums W g vs) (k : Below W.heap.size W W') : VNums W' g vs := by
  refine ⟨Nat.lt_of_lt_of_le h.1 k.size, fun j p hj => ?_⟩
  obtain ⟨h1, h2, h3⟩ := h.2 j p hj
  exact ⟨by rw [k.cell (p := ⟨g, j * 3, none⟩) h.1]; exact h1, by rw [k.cell (p := ⟨g, j * 3 + 1, none⟩) h.1]; exact h2, by rw [k.cell (p := ⟨g, j * 3 + 2, none⟩) h.1]; exact h3⟩
theorem VNums.of {W : World} {g : Nat} {cur : Array Value} {e : TypeId} {fz : Nat × Nat} {vs : List V3} (h : W.heap[g]? = some (.cells cur e fz)) (hc : ∀ (j : Nat) (x : Value), (vCells vs)[j]? = some x → cur[j]? = some x) : VNums W g vs := by
  refine ⟨(Array.getElem?_eq_some_iff.1 h).1, fun j p hj => ?_⟩
  obtain ⟨h1, h2, h3⟩ := vCells_at vs j p hj
  exact ⟨cell_of_block h (hc _ _ h1), cell_of_block h (hc _ _ h2), cell_of_block h (hc _ _ h3)⟩
theorem info_vec : (Tryd.prog.info? 26).map (fun i => (i.zero, i.size, i.bytes)) = some (some (.agg #[.float .f32 0, .float .f32 0, .float .f32 0]), 3, 12) := by kernel_rfl
theorem info_thread : (Tryd.prog.info? 91).map (fun i => (i.zero, i.size, i.bytes)) = some (some (.agg #[.slice none 0 0, .float .f32 0]), 2, 32) := by kernel_rfl
end Go.Proofs.YtglnfccglgladaaDoor
