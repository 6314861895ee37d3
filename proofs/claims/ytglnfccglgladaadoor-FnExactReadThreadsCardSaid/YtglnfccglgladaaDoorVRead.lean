/-
  Vectors and single numbers read from any text, by the program and by the reference. (Printed by wip/tools/vread.py.)
-/
import Derived.Test.YtglnfccglgladaaDoorNRead
import Derived.Test.YtglnfccglgladaaDoorRead6
import Derived.Test.YtglnfccglgladaaDoorDraw9
namespace Go.Proofs.YtglnfccglgladaaDoor
open Go.RowKit
set_option linter.unusedVariables false

/-- What a reader of lists answers. -/
def ReadsL (w' : World) (r : Option (List Nat)) (e : Ending) : Prop :=
  match r with
  | none => e = .returned (.tuple #[.slice none 0 0, .bool false])
  | some xs => ∃ v, e = .returned (.tuple #[v, .bool true]) ∧ VList w' v (xs.map flV)
theorem readsL_of {w w' : World} {r : Option (List Nat)} {e : Ending} (h : ReadsTo w w' r e) : ReadsL w' r e := by
  cases r with
  | none => exact h
  | some xs =>
    obtain ⟨v, he, ho⟩ := h
    exact ⟨v, he, ho.list⟩
theorem readNs_noneB : readNs (partsOf noneB) = some [] := by
  rw [partsOf, if_pos rfl]
  rfl
theorem readNumbersAny {s : ByteArray} (hs : s.size < 4294967281) {w : World} (hm : MaxLen w) :
    Calls Tryd.prog 53 #[.string s] w fun e w' => ReadsL w' (readNs (partsOf s)) e ∧ Below w.heap.size w w' := by
  by_cases h : s = noneB
  · subst h
    rw [readNs_noneB]
    refine (readNumbers_none w).mono ?_
    rintro e w' ⟨⟨c, g, rfl⟩, hw⟩
    exact ⟨⟨_, rfl, ⟨_, _, rfl, fun h => by simp at h⟩⟩, hw⟩
  · refine (readNumbers_some h hs hm).mono ?_
    rintro e w' ⟨h1, hw⟩
    exact ⟨readsL_of h1, hw⟩
theorem nreadAny {s : ByteArray} (hs : s.size ≤ 100000000) {w : World} :
    Calls Tryd.prog 148 #[.string s] w fun e w' => ReadsL w' (readNs (partsOf s)) e ∧ Below w.heap.size w w' := by
  by_cases h : s = noneB
  · subst h
    rw [readNs_noneB]
    refine (nread_none w).mono ?_
    rintro e w' ⟨⟨c, g, rfl⟩, hw⟩
    exact ⟨⟨_, rfl, ⟨_, _, rfl, fun h => by simp at h⟩⟩, hw⟩
  · refine (nread_some h hs).mono ?_
    rintro e w' ⟨h1, hw⟩
    exact ⟨readsL_of h1, hw⟩

abbrev V3 : Type := Nat × Nat × Nat
def v3A (p : V3) : Value := .agg #[.float .f32 p.1, .float .f32 p.2.1, .float .f32 p.2.2]
def vecL (r : Option (List Nat)) : Option V3 := match r with
  | some [a, b, c] => some (a, b, c)
  | _ => none
def numL (r : Option (List Nat)) : Option Nat := match r with
  | some [a] => some a
  | _ => none
def vecOf (s : ByteArray) : Option V3 := vecL (readNs (partsOf s))
def numOf (s : ByteArray) : Option Nat := numL (readNs (partsOf s))
theorem vecL_len {xs : List Nat} (h : xs.length ≠ 3) : vecL (some xs) = none := by
  unfold vecL
  split
  · rename_i he; cases he; simp at h
  · rfl
theorem numL_len {xs : List Nat} (h : xs.length ≠ 1) : numL (some xs) = none := by
  unfold numL
  split
  · rename_i he; cases he; simp at h
  · rfl
def vecRet (r : Option V3) : Ending := match r with
  | none => .returned (.tuple #[.agg #[.float .f32 0, .float .f32 0, .float .f32 0], .bool false])
  | some p => .returned (.tuple #[v3A p, .bool true])
def numRet (r : Option Nat) : Ending := match r with
  | none => .returned (.tuple #[.float .f32 0, .bool false])
  | some p => .returned (.tuple #[.float .f32 p, .bool true])
theorem len3 {xs : List Nat} (h : xs.length = 3) : ∃ a b c, xs = [a, b, c] := by
  match xs, h with
  | [a, b, c], _ => exact ⟨a, b, c, rfl⟩
theorem len1 {xs : List Nat} (h : xs.length = 1) : ∃ a, xs = [a] := by
  match xs, h with
  | [a], _ => exact ⟨a, rfl⟩

set_option maxRecDepth 100000 in
set_option maxHeartbeats 4000000 in
theorem readVectorAny {s : ByteArray} (hs : s.size < 4294967281) {w : World} (hm : MaxLen w) : Calls Tryd.prog 22 #[.string s] w fun e w' => e = vecRet (vecOf s) ∧ Below w.heap.size w w' := by
  have R := Lib.hid (fun w hm => readNumbersAny hs (w := w) hm)
  unfold vecOf
  generalize readNs (partsOf s) = r at R
  have HM := Lib.hid hm
  clear hs hm
  go_enter Tryd.func22, Tryd.ntmps22
  go_wp2_with fail
  refine (R.out _ (HM.out.after (below1 w _))).mono ?_
  rintro e w1 ⟨hr, hb⟩
  have hrb := (hb.block w.heap.size (by simp)).trans (heap_alloc_new w _)
  have hB := Lib.hid (bthen (below1 _ _) hb)
  have hz1 := hb.size
  rw [World.size_alloc] at hz1
  clear R hb
  obtain ⟨⟨r0, r1, r2⟩, ⟨f0, f1, f2⟩, hrl⟩ := three_facts hrb
  clear hrb
  cases r with
  | none =>
    obtain rfl := hr
    go_wp2
    exact bodyPost_ret (v := .tuple #[.agg #[.float .f32 0, .float .f32 0, .float .f32 0], .bool false]) (by simp [results, Tryd.results22, go_sem, *]) rfl ⟨rfl, by repeat (first | exact hB.out | refine bset ?_ (by simp <;> omega) _)⟩
  | some xs =>
    obtain ⟨v, rfl, ho⟩ := hr
    by_cases h3 : xs.length = 3
    · obtain ⟨a, b, c, rfl⟩ := len3 h3
      obtain ⟨g, cg, hv, hp⟩ := ho
      obtain ⟨g, rfl, hg1, hg4⟩ := hp (by simp)
      subst hv
      have c0 : w1.cell? ⟨g, 0, none⟩ = some (.float .f32 a) := hg4 0 _ rfl
      have c1 : w1.cell? ⟨g, 1, none⟩ = some (.float .f32 b) := hg4 1 _ rfl
      have c2 : w1.cell? ⟨g, 2, none⟩ = some (.float .f32 c) := hg4 2 _ rfl
      clear hg4 hp h3
      simp only [List.map_cons, List.map_nil, List.length_cons, List.length_nil]
      go_wp2
      refine wp_region_held 10 (by kernel_rfl) (by kernel_rfl) ?_
      simp only [List.take_succ_cons, List.take_zero, List.drop_succ_cons, List.drop_zero]
      repeat (refine tame_step rfl ?_; apply Exists.intro; refine ⟨fun w' hw => ?_, ?_⟩; (have hc := hw.cell; go_simp; first | (with_reducible rfl)); (try simp only [Act.put, List.setIfInBounds_toArray, List.set_cons_zero, List.set_cons_succ]))
      refine wpQuiet_nil ?_
      intro w' hw
      have hc := hw.cell
      have hf := hw.frozen
      have hB2 := Lib.hid (bthen hB.out hw)
      go_wp2
      exact bodyPost_ret (v := .tuple #[.agg #[.float .f32 a, .float .f32 b, .float .f32 c], .bool true]) (by simp [results, Tryd.results22, go_sem, *]) rfl ⟨rfl, by repeat (first | exact hB2.out | refine bset ?_ (by simp <;> omega) _)⟩
    · have hn := Lib.hid (vecL_len h3)
      obtain ⟨g, cg, hv, hp⟩ := ho
      rw [List.length_map] at hv
      subst hv
      generalize xs.length = n at *
      have h3' : ((n : Int) == 3) = false := by rw [beq_eq_false_iff_ne]; omega
      clear hp h3
      go_wp2
      exact bodyPost_ret (v := .tuple #[.agg #[.float .f32 0, .float .f32 0, .float .f32 0], .bool false]) (by simp [results, Tryd.results22, go_sem, *]) rfl ⟨by rw [hn.out]; rfl, by repeat (first | exact hB.out | refine bset ?_ (by simp <;> omega) _)⟩

set_option maxRecDepth 100000 in
set_option maxHeartbeats 4000000 in
theorem l01VRead_c {s : ByteArray} (hs : s.size ≤ 100000000) {w : World} : Calls Tryd.prog 134 #[.string s] w fun e w' => e = vecRet (vecOf s) ∧ Below w.heap.size w w' := by
  have R := Lib.hid (fun w => nreadAny hs (w := w))
  unfold vecOf
  generalize readNs (partsOf s) = r at R
  clear hs
  go_enter Tryd.func134, Tryd.ntmps134
  go_wp2_with fail
  refine (R.out _).mono ?_
  rintro e w1 ⟨hr, hb⟩
  have hrb := (hb.block w.heap.size (by simp)).trans (heap_alloc_new w _)
  have hB := Lib.hid (bthen (below1 _ _) hb)
  have hz1 := hb.size
  rw [World.size_alloc] at hz1
  clear R hb
  obtain ⟨⟨r0, r1, r2⟩, ⟨f0, f1, f2⟩, hrl⟩ := three_facts hrb
  clear hrb
  cases r with
  | none =>
    obtain rfl := hr
    go_wp2
    exact bodyPost_ret (v := .tuple #[.agg #[.float .f32 0, .float .f32 0, .float .f32 0], .bool false]) (by simp [results, Tryd.results134, go_sem, *]) rfl ⟨rfl, by repeat (first | exact hB.out | refine bset ?_ (by simp <;> omega) _)⟩
  | some xs =>
    obtain ⟨v, rfl, ho⟩ := hr
    by_cases h3 : xs.length = 3
    · obtain ⟨a, b, c, rfl⟩ := len3 h3
      obtain ⟨g, cg, hv, hp⟩ := ho
      obtain ⟨g, rfl, hg1, hg4⟩ := hp (by simp)
      subst hv
      have c0 : w1.cell? ⟨g, 0, none⟩ = some (.float .f32 a) := hg4 0 _ rfl
      have c1 : w1.cell? ⟨g, 1, none⟩ = some (.float .f32 b) := hg4 1 _ rfl
      have c2 : w1.cell? ⟨g, 2, none⟩ = some (.float .f32 c) := hg4 2 _ rfl
      clear hg4 hp h3
      simp only [List.map_cons, List.map_nil, List.length_cons, List.length_nil]
      go_wp2
      refine wp_region_held 10 (by kernel_rfl) (by kernel_rfl) ?_
      simp only [List.take_succ_cons, List.take_zero, List.drop_succ_cons, List.drop_zero]
      repeat (refine tame_step rfl ?_; apply Exists.intro; refine ⟨fun w' hw => ?_, ?_⟩; (have hc := hw.cell; go_simp; first | (with_reducible rfl)); (try simp only [Act.put, List.setIfInBounds_toArray, List.set_cons_zero, List.set_cons_succ]))
      refine wpQuiet_nil ?_
      intro w' hw
      have hc := hw.cell
      have hf := hw.frozen
      have hB2 := Lib.hid (bthen hB.out hw)
      go_wp2
      exact bodyPost_ret (v := .tuple #[.agg #[.float .f32 a, .float .f32 b, .float .f32 c], .bool true]) (by simp [results, Tryd.results134, go_sem, *]) rfl ⟨rfl, by repeat (first | exact hB2.out | refine bset ?_ (by simp <;> omega) _)⟩
    · have hn := Lib.hid (vecL_len h3)
      obtain ⟨g, cg, hv, hp⟩ := ho
      rw [List.length_map] at hv
      subst hv
      generalize xs.length = n at *
      have h3' : ((n : Int) == 3) = false := by rw [beq_eq_false_iff_ne]; omega
      clear hp h3
      go_wp2
      exact bodyPost_ret (v := .tuple #[.agg #[.float .f32 0, .float .f32 0, .float .f32 0], .bool false]) (by simp [results, Tryd.results134, go_sem, *]) rfl ⟨by rw [hn.out]; rfl, by repeat (first | exact hB.out | refine bset ?_ (by simp <;> omega) _)⟩

theorem l08Number_c {s : ByteArray} (hs : s.size ≤ 100000000) {w : World} : Calls Tryd.prog 133 #[.string s] w fun e w' => e = numRet (numOf s) ∧ Below w.heap.size w w' := by
  have R := Lib.hid (fun w => nreadAny hs (w := w))
  unfold numOf
  generalize readNs (partsOf s) = r at R
  clear hs
  go_enter Tryd.func133, Tryd.ntmps133
  go_wp2_with fail
  refine (R.out _).mono ?_
  rintro e w1 ⟨hr, hb⟩
  have hB := Lib.hid hb
  clear R hb
  cases r with
  | none =>
    obtain rfl := hr
    go_wp2
    exact bodyPost_ret (v := .tuple #[.float .f32 0, .bool false]) (by simp [results, Tryd.results133, go_sem]) rfl ⟨rfl, hB.out⟩
  | some xs =>
    obtain ⟨v, rfl, ho⟩ := hr
    by_cases h3 : xs.length = 1
    · obtain ⟨a, rfl⟩ := len1 h3
      obtain ⟨g, cg, hv, hp⟩ := ho
      obtain ⟨g, rfl, hg1, hg4⟩ := hp (by simp)
      subst hv
      have c0 : w1.cell? ⟨g, 0, none⟩ = some (.float .f32 a) := hg4 0 _ rfl
      clear hg4 hp h3
      simp only [List.map_cons, List.map_nil, List.length_cons, List.length_nil]
      go_wp2
      exact bodyPost_ret (v := .tuple #[.float .f32 a, .bool true]) (by simp [results, Tryd.results133, go_sem]) rfl ⟨rfl, hB.out⟩
    · have hn := Lib.hid (numL_len h3)
      obtain ⟨g, cg, hv, hp⟩ := ho
      rw [List.length_map] at hv
      subst hv
      generalize xs.length = n at *
      have h3' : ((n : Int) == 1) = false := by rw [beq_eq_false_iff_ne]; omega
      clear hp h3
      go_wp2
      exact bodyPost_ret (v := .tuple #[.float .f32 0, .bool false]) (by simp [results, Tryd.results133, go_sem]) rfl ⟨by rw [hn.out]; rfl, hB.out⟩
end Go.Proofs.YtglnfccglgladaaDoor
