/-
  What is drawn: any number, any vector, a vector of small whole numbers.
-/
import Derived.Test.YtglnfccglgladaaDoorDraw2
namespace Go.Proofs.YtglnfccglgladaaDoor
open Go.RowKit
set_option linter.unusedVariables false

theorem Code.grown {w w' : World} {B n : Nat} {A : Option Addr} {r : Option Nat} (h : Code w B A n) (hB : ∀ k, r = some k → B ≤ k) (hg : w.grownBy w' r) : Code w' B A n := fun hn => by
  obtain ⟨b, off, e, hb, hc⟩ := h hn
  refine ⟨b, off, e, hb, fun i hi => ?_⟩
  obtain ⟨z, z0, z1, hz⟩ := hc i hi
  exact ⟨z, z0, z1, hg.cell hz (fun e => by have := hB b e.symm; omega)⟩
/-- Another block is written. -/
theorem Src.grown {w w' : World} {B g m : Nat} {r : Option Nat} (h : Src w B g m) (hB : ∀ k, r = some k → B ≤ k ∧ k ≠ g) (hg : w.grownBy w' r) : Src w' B g m := by
  obtain ⟨hle, A, n, cp, k, seed, hb, hk, hn, hcode⟩ := h
  have hgl : g < w.heap.size := (Array.getElem?_eq_some_iff.1 hb).1
  exact ⟨hle, A, n, cp, k, seed, by rw [hg.block g hgl (fun e => (hB g e.symm).2 rfl)]; exact hb, hk, hn, hcode.grown (fun k e => (hB k e).1) hg⟩
theorem Src.alloc {w : World} {B g m : Nat} (h : Src w B g m) (o : Obj) : Src (w.alloc o) B g m :=
  h.grown (r := none) (fun k e => by cases e) (World.grownBy_alloc w o none)
theorem Src.lt {w : World} {B g m : Nat} (h : Src w B g m) : g < w.heap.size := by
  obtain ⟨hle, A, n, cp, k, seed, hb, hk, hn, hcode⟩ := h
  exact (Array.getElem?_eq_some_iff.1 hb).1

theorem galloc {w X : World} {r : Option Nat} (h : w.grownBy X r) (o : Obj) : w.grownBy (X.alloc o) r := World.grownBy.trans h (World.grownBy_alloc _ _ _)

/-- A list of whole numbers with some property. -/
def Ints (w : World) (b n : Nat) (P : Int → Prop) : Prop := ∀ i, i < n → ∃ z, P z ∧ w.cell? ⟨b, i, none⟩ = some (.int .i64 z)

set_option maxHeartbeats 1000000 in
theorem among_c {w : World} {B g m b n : Nat} {P : Int → Prop} (h : Src w B g m) (hm : m ≤ 900000) (hn : 2 ≤ n) (hn' : n ≤ 100) (hbg : b ≠ g) (hi : Ints w b n P) :
    Calls Tryd.prog 126 #[.pointer (some ⟨g, 0, none⟩), .slice (some ⟨b, 0, none⟩) n n] w (Drawn B g (m + 2) w fun v => ∃ z, v = .int .i64 z ∧ P z) := by
  have HI := Lib.hid hi
  clear hi
  have k0 : (2 : Int) ≤ (n : Int) := by omega
  have k1 : (n : Int) ≤ 100 := by omega
  go_enter Tryd.func126, Tryd.ntmps126
  go_wp2_with (go_at_call 60; refine (pick_c (by omega) h hm).mono ?_; rintro e w1 ⟨v, rfl, ⟨r, rfl, r0, r1⟩, hs, hg⟩; have r2 : r < (n : Int) := (by omega); clear r1; obtain ⟨i, rfl⟩ := Int.eq_ofNat_of_zero_le r0; obtain ⟨z, hP, hz⟩ := HI.out i (by omega); have hz' := hg.cell hz (by simp; omega); clear hz; have HP := Lib.hid hP; clear hP)
  go_ret
  exact ⟨_, rfl, ⟨_, rfl, HP.out⟩, hs, hg⟩

def AnyZ (Y : Nat → Prop) (z : Int) : Prop := 0 ≤ z ∧ z ≤ 4294967295 ∧ Y z.toNat
def YOk (y : Nat) : Prop := ∃ s m e, FloatKind.f32.format.read y = .number s m e ∧ m ≠ 0
def AnyR (v : Value) : Prop := ∃ b : Nat, v = .float .f32 b ∧ b < 4294967296
theorem toNat_lt {z : Int} (h0 : 0 ≤ z) (h1 : z ≤ 4294967295) : z.toNat < 4294967296 := by omega

theorem ints_lit {w : World} {b : Nat} {P : Int → Prop} : ∀ (l : List Int) (k : Nat), (∀ z ∈ l, P z) → (∀ i z, l[i]? = some z → w.cell? ⟨b, i, none⟩ = some (.int .i64 z)) → k = l.length → Ints w b k P := fun l k hP hc e i hi => by
  subst e
  exact ⟨l[i], hP _ (List.getElem_mem hi), hc i _ (List.getElem?_eq_getElem hi)⟩

def list1 : List Int := [0, 2147483648, 2139095040, 4286578688, 2143289344, 1, 2139095039, 8388608, 8388607, 2147483649]
def list2 : List Int := [8388608, 2130706432, 1610612736, 536870912]
theorem list1_ok : ∀ z ∈ list1, AnyZ (fun _ => True) z := by
  unfold list1 AnyZ
  simp
theorem list2_ok : ∀ z ∈ list2, AnyZ YOk z := by
  have h1 : YOk 8388608 := ⟨false, 8388608, -149, by decide, by decide⟩
  have h2 : YOk 2130706432 := ⟨false, 8388608, 104, by decide, by decide⟩
  have h3 : YOk 1610612736 := ⟨false, 8388608, 42, by decide, by decide⟩
  have h4 : YOk 536870912 := ⟨false, 8388608, -86, by decide, by decide⟩
  unfold list2 AnyZ
  simp [h1, h2, h3, h4]
def boxes (l : List Int) : Array Value := (l.map fun z => Value.int .i64 z).toArray
theorem ints_new {w : World} (l : List Int) (P : Int → Prop) (t : TypeId) (hP : ∀ z ∈ l, P z) : Ints (w.alloc (.cells (boxes l) t)) w.heap.size l.length P :=
  ints_lit l _ hP (fun i z h => by
    have e : (w.alloc (.cells (boxes l) t)).heap[w.heap.size]? = some (.cells (boxes l) t) := heap_alloc_new w _
    unfold World.cell?
    rw [e]
    simp [boxes, h]) rfl

set_option maxHeartbeats 2000000 in
theorem float_c {w : World} {B g m : Nat} (h : Src w B g m) (hm : m ≤ 700000) :
    Calls Tryd.prog 86 #[.pointer (some ⟨g, 0, none⟩)] w (Drawn B g (m + 10) w AnyR) := by
  go_enter Tryd.func86, Tryd.ntmps86
  go_wp2_with (first
    | (go_at_call 84; refine (one_c (by omega) (by assumption) (by omega)).mono ?_; rintro e w1 ⟨v, rfl, ⟨b, rfl⟩, hs, hg⟩)
    | (go_at_call 60; refine (pick_c (by omega) (by assumption) (by omega)).mono ?_; rintro e w2 ⟨v, rfl, ⟨r, rfl, r0, r1⟩, hs, hg⟩)
    | (go_at_call 125; refine (plain_c (by assumption) (by omega)).mono ?_; rintro e w3 ⟨v, rfl, ⟨pb, rfl, pb1, pb2⟩, hs, hg⟩)
    | (go_at_call 85; refine (l01From_c (by omega) (by omega) _).mono ?_; rintro e w4 ⟨rfl, rfl⟩)
    | (go_at_call 126; (with_reducible refine (among_c (n := 10) (Src.alloc (by assumption) _) (by omega) (by omega) (by omega) (Nat.ne_of_gt (Src.lt (by assumption))) (ints_new list1 (AnyZ fun _ => True) _ list1_ok)).mono ?_); rintro e w5 ⟨v, rfl, ⟨z, rfl, z0, z1, hY⟩, hs, hg⟩)
    | (go_at_call 126; (with_reducible refine (among_c (n := 4) (Src.alloc (by assumption) _) (by omega) (by omega) (by omega) (Nat.ne_of_gt (Src.lt (by assumption))) (ints_new list2 (AnyZ YOk) _ list2_ok)).mono ?_); rintro e w5 ⟨v, rfl, ⟨z, rfl, z0, z1, ⟨sy, my, ey, hy1, hy2⟩⟩, hs, hg⟩; have HK := Lib.hid (mul_nn pb2 hy1 hy2); have e1 := HK.out.rf (P := Tryd.prog); clear hy1 hy2))
  all_goals go_ret
  all_goals exact ⟨_, rfl, ⟨_, rfl, by first | assumption | exact toNat_lt (by omega) (by omega) | exact bits_lt HK.out.eq⟩, Src.mono (by assumption) (by omega), by repeat (first | exact World.grownBy.refl _ _ | assumption | refine galloc ?_ _ | refine World.grownBy.trans ?_ (by assumption))⟩
end Go.Proofs.YtglnfccglgladaaDoor
