/-
  The law of vectors: the walk.
-/
import Derived.Test.YtglnfccglgladaaDoorVecRun
namespace Go.Proofs.YtglnfccglgladaaDoor
open Go.RowKit
set_option linter.unusedVariables false

theorem long_true {n c m d : Nat} {A B : Option Addr} (hn : 1048576 < n ∨ 1048576 < m) (w : World) : Calls Tryd.prog 7 #[.slice A n c, .slice B m d] w fun e w' => e = .returned (.bool true) ∧ w = w' := by
  by_cases h1 : 1048576 < n
  · have h1 : decide (1048576 < (n : Int)) = true := by simp; omega
    clear hn
    go_enter Tryd.func7, Tryd.ntmps7
    go_wp2
    go_ret
    exact ⟨rfl, rfl⟩
  · have h2 : decide (1048576 < (m : Int)) = true := by simp; omega
    have h1 : decide (1048576 < (n : Int)) = false := by simp; omega
    clear hn
    go_enter Tryd.func7, Tryd.ntmps7
    go_wp2
    go_ret
    exact ⟨rfl, rfl⟩

/-- A variable of three numbers. -/
def VAt (W : World) (b x y z : Nat) : Prop := W.heap[b]? = some (.cells #[.float .f32 x, .float .f32 y, .float .f32 z] 26 (0, 0))
theorem VAt.lt {W : World} {b x y z : Nat} (h : VAt W b x y z) : b < W.heap.size := (Array.getElem?_eq_some_iff.1 h).1
theorem VAt.after {W W' : World} {b x y z : Nat} (h : VAt W b x y z) (k : Below W.heap.size W W') : VAt W' b x y z := (k.block b h.lt).trans h
theorem VAt.alloc {W : World} {b x y z : Nat} (h : VAt W b x y z) (o : Obj) : VAt (W.alloc o) b x y z := (heap_alloc_old W o (h := h.lt)).trans h
theorem VAt.set {W : World} {b x y z : Nat} (h : VAt W b x y z) {a : Addr} (ha : b ≠ a.block) (v : Value) : VAt (W.setCell a v) b x y z := (Below.heap_setCell W a v b ha).trans h
theorem VAt.facts {W : World} {b x y z : Nat} (h : VAt W b x y z) : W.cell? ⟨b, 0, none⟩ = some (.float .f32 x) ∧ W.cell? ⟨b, 1, none⟩ = some (.float .f32 y) ∧ W.cell? ⟨b, 2, none⟩ = some (.float .f32 z) := (three_facts h).1
theorem VAt.new (W : World) (x y z : Nat) : VAt (W.alloc (.cells #[.float .f32 x, .float .f32 y, .float .f32 z] 26)) W.heap.size x y z := heap_alloc_new W _
theorem Code.into {w W : World} {n : Nat} {A : Option Addr} (h : Code w w.heap.size A n) (k : Below w.heap.size w W) : Code W W.heap.size A n := fun hn => by
  obtain ⟨b, off, e, hb, hz⟩ := h hn
  refine ⟨b, off, e, Nat.lt_of_lt_of_le hb k.size, fun i hi => ?_⟩
  obtain ⟨z, h0, h1, h2⟩ := hz i hi
  exact ⟨z, h0, h1, by rw [k.cell (p := ⟨b, off + i, none⟩) hb]; exact h2⟩
theorem MaxLen.into {w W : World} (h : MaxLen w) (k : Below w.heap.size w W) : MaxLen W := h.after k

end Go.Proofs.YtglnfccglgladaaDoor
