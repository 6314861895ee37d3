/-
  What straight-line functions on numbers compute, and their contracts: each returns just that where every operation on the way is valid.
  WRITTEN BY wip/straight.py.
-/
import Derived.Test.YtglnfccglgladaaDoorScal
import Derived.Test.YtglnfccglgladaaDoorTame
namespace Go.Proofs.YtglnfccglgladaaDoor
open Go.RowKit
set_option linter.unusedVariables false

def impl_crossed_V0 (a0 : Nat) (a1 : Nat) (a2 : Nat) (a3 : Nat) : Nat := fop .sub .f32 (fop .mul .f32 a0 a1) (fop .mul .f32 a2 a3)
def impl_crossed_Ok (a0 : Nat) (a1 : Nat) (a2 : Nat) (a3 : Nat) : Prop := okf .mul .f32 a0 a1 ∧ okf .mul .f32 a2 a3 ∧ okf .sub .f32 (fop .mul .f32 a0 a1) (fop .mul .f32 a2 a3)
set_option maxRecDepth 100000 in
set_option maxHeartbeats 1000000 in
theorem impl_crossed_c {a0 : Nat} {a1 : Nat} {a2 : Nat} {a3 : Nat} (h : impl_crossed_Ok a0 a1 a2 a3) (w : World) : Calls Tryd.prog 61 #[.float .f32 a0, .float .f32 a1, .float .f32 a2, .float .f32 a3] w fun e w' => e = .returned (.float .f32 (impl_crossed_V0 a0 a1 a2 a3)) ∧ w = w' := by
  unfold impl_crossed_Ok at h
  obtain ⟨h1, h2, h3⟩ := h
  have e1 := h1.rf (P := Tryd.prog)
  have e2 := h2.rf (P := Tryd.prog)
  have e3 := h3.rf (P := Tryd.prog)
  clear h1 h2 h3
  go_enter Tryd.func61, Tryd.ntmps61
  go_wp2
  go_ret
  exact ⟨rfl, rfl⟩

def impl_InnerOf_V0 (a0_0 : Nat) (a0_1 : Nat) (a0_2 : Nat) (a1_0 : Nat) (a1_1 : Nat) (a1_2 : Nat) : Nat := fop .add .f32 (fop .add .f32 (fop .mul .f32 a0_0 a1_0) (fop .mul .f32 a0_1 a1_1)) (fop .mul .f32 a0_2 a1_2)
def impl_InnerOf_Ok (a0_0 : Nat) (a0_1 : Nat) (a0_2 : Nat) (a1_0 : Nat) (a1_1 : Nat) (a1_2 : Nat) : Prop := okf .mul .f32 a0_0 a1_0 ∧ okf .mul .f32 a0_1 a1_1 ∧ okf .add .f32 (fop .mul .f32 a0_0 a1_0) (fop .mul .f32 a0_1 a1_1) ∧ okf .mul .f32 a0_2 a1_2 ∧ okf .add .f32 (fop .add .f32 (fop .mul .f32 a0_0 a1_0) (fop .mul .f32 a0_1 a1_1)) (fop .mul .f32 a0_2 a1_2)
set_option maxRecDepth 100000 in
set_option maxHeartbeats 1000000 in
theorem impl_InnerOf_c {a0_0 : Nat} {a0_1 : Nat} {a0_2 : Nat} {a1_0 : Nat} {a1_1 : Nat} {a1_2 : Nat} (h : impl_InnerOf_Ok a0_0 a0_1 a0_2 a1_0 a1_1 a1_2) (w : World) : Calls Tryd.prog 14 #[.agg #[.float .f32 a0_0, .float .f32 a0_1, .float .f32 a0_2], .agg #[.float .f32 a1_0, .float .f32 a1_1, .float .f32 a1_2]] w fun e w' => e = .returned (.float .f32 (impl_InnerOf_V0 a0_0 a0_1 a0_2 a1_0 a1_1 a1_2)) ∧ Below w.heap.size w w' := by
  unfold impl_InnerOf_Ok at h
  obtain ⟨h1, h2, h3, h4, h5⟩ := h
  have e1 := h1.rf (P := Tryd.prog)
  have e2 := h2.rf (P := Tryd.prog)
  have e3 := h3.rf (P := Tryd.prog)
  have e4 := h4.rf (P := Tryd.prog)
  have e5 := h5.rf (P := Tryd.prog)
  clear h1 h2 h3 h4 h5
  go_enter Tryd.func14, Tryd.ntmps14
  go_wp2
  go_ret
  exact ⟨rfl, by repeat (first | exact Below.refl _ _ | apply Below.drew | refine balloc ?_ _ | refine bset ?_ (by simp <;> omega) _ | refine bthen ?_ (by assumption))⟩

def impl_AddVectors_V0 (a0_0 : Nat) (a0_1 : Nat) (a0_2 : Nat) (a1_0 : Nat) (a1_1 : Nat) (a1_2 : Nat) : Nat := fop .add .f32 a0_0 a1_0
def impl_AddVectors_V1 (a0_0 : Nat) (a0_1 : Nat) (a0_2 : Nat) (a1_0 : Nat) (a1_1 : Nat) (a1_2 : Nat) : Nat := fop .add .f32 a0_1 a1_1
def impl_AddVectors_V2 (a0_0 : Nat) (a0_1 : Nat) (a0_2 : Nat) (a1_0 : Nat) (a1_1 : Nat) (a1_2 : Nat) : Nat := fop .add .f32 a0_2 a1_2
def impl_AddVectors_Ok (a0_0 : Nat) (a0_1 : Nat) (a0_2 : Nat) (a1_0 : Nat) (a1_1 : Nat) (a1_2 : Nat) : Prop := okf .add .f32 a0_0 a1_0 ∧ okf .add .f32 a0_1 a1_1 ∧ okf .add .f32 a0_2 a1_2
set_option maxRecDepth 100000 in
set_option maxHeartbeats 1000000 in
theorem impl_AddVectors_c {a0_0 : Nat} {a0_1 : Nat} {a0_2 : Nat} {a1_0 : Nat} {a1_1 : Nat} {a1_2 : Nat} (h : impl_AddVectors_Ok a0_0 a0_1 a0_2 a1_0 a1_1 a1_2) (w : World) : Calls Tryd.prog 10 #[.agg #[.float .f32 a0_0, .float .f32 a0_1, .float .f32 a0_2], .agg #[.float .f32 a1_0, .float .f32 a1_1, .float .f32 a1_2]] w fun e w' => e = .returned (.agg #[.float .f32 (impl_AddVectors_V0 a0_0 a0_1 a0_2 a1_0 a1_1 a1_2), .float .f32 (impl_AddVectors_V1 a0_0 a0_1 a0_2 a1_0 a1_1 a1_2), .float .f32 (impl_AddVectors_V2 a0_0 a0_1 a0_2 a1_0 a1_1 a1_2)]) ∧ Below w.heap.size w w' := by
  unfold impl_AddVectors_Ok at h
  obtain ⟨h1, h2, h3⟩ := h
  have e1 := h1.rf (P := Tryd.prog)
  have e2 := h2.rf (P := Tryd.prog)
  have e3 := h3.rf (P := Tryd.prog)
  clear h1 h2 h3
  go_enter Tryd.func10, Tryd.ntmps10
  go_wp2
  exact bodyPost_ret (v := .agg #[.float .f32 (fop .add .f32 a0_0 a1_0), .float .f32 (fop .add .f32 a0_1 a1_1), .float .f32 (fop .add .f32 a0_2 a1_2)]) (by simp [results, Tryd.results10, go_sem]) rfl ⟨rfl, by repeat (first | exact Below.refl _ _ | apply Below.drew | refine balloc ?_ _ | refine bset ?_ (by simp <;> omega) _ | refine bthen ?_ (by assumption))⟩

def impl_LessVectors_V0 (a0_0 : Nat) (a0_1 : Nat) (a0_2 : Nat) (a1_0 : Nat) (a1_1 : Nat) (a1_2 : Nat) : Nat := fop .sub .f32 a0_0 a1_0
def impl_LessVectors_V1 (a0_0 : Nat) (a0_1 : Nat) (a0_2 : Nat) (a1_0 : Nat) (a1_1 : Nat) (a1_2 : Nat) : Nat := fop .sub .f32 a0_1 a1_1
def impl_LessVectors_V2 (a0_0 : Nat) (a0_1 : Nat) (a0_2 : Nat) (a1_0 : Nat) (a1_1 : Nat) (a1_2 : Nat) : Nat := fop .sub .f32 a0_2 a1_2
def impl_LessVectors_Ok (a0_0 : Nat) (a0_1 : Nat) (a0_2 : Nat) (a1_0 : Nat) (a1_1 : Nat) (a1_2 : Nat) : Prop := okf .sub .f32 a0_0 a1_0 ∧ okf .sub .f32 a0_1 a1_1 ∧ okf .sub .f32 a0_2 a1_2
set_option maxRecDepth 100000 in
set_option maxHeartbeats 1000000 in
theorem impl_LessVectors_c {a0_0 : Nat} {a0_1 : Nat} {a0_2 : Nat} {a1_0 : Nat} {a1_1 : Nat} {a1_2 : Nat} (h : impl_LessVectors_Ok a0_0 a0_1 a0_2 a1_0 a1_1 a1_2) (w : World) : Calls Tryd.prog 11 #[.agg #[.float .f32 a0_0, .float .f32 a0_1, .float .f32 a0_2], .agg #[.float .f32 a1_0, .float .f32 a1_1, .float .f32 a1_2]] w fun e w' => e = .returned (.agg #[.float .f32 (impl_LessVectors_V0 a0_0 a0_1 a0_2 a1_0 a1_1 a1_2), .float .f32 (impl_LessVectors_V1 a0_0 a0_1 a0_2 a1_0 a1_1 a1_2), .float .f32 (impl_LessVectors_V2 a0_0 a0_1 a0_2 a1_0 a1_1 a1_2)]) ∧ Below w.heap.size w w' := by
  unfold impl_LessVectors_Ok at h
  obtain ⟨h1, h2, h3⟩ := h
  have e1 := h1.rf (P := Tryd.prog)
  have e2 := h2.rf (P := Tryd.prog)
  have e3 := h3.rf (P := Tryd.prog)
  clear h1 h2 h3
  go_enter Tryd.func11, Tryd.ntmps11
  go_wp2
  exact bodyPost_ret (v := .agg #[.float .f32 (fop .sub .f32 a0_0 a1_0), .float .f32 (fop .sub .f32 a0_1 a1_1), .float .f32 (fop .sub .f32 a0_2 a1_2)]) (by simp [results, Tryd.results11, go_sem]) rfl ⟨rfl, by repeat (first | exact Below.refl _ _ | apply Below.drew | refine balloc ?_ _ | refine bset ?_ (by simp <;> omega) _ | refine bthen ?_ (by assumption))⟩

def impl_ScaleVector_V0 (a0_0 : Nat) (a0_1 : Nat) (a0_2 : Nat) (a1 : Nat) : Nat := fop .mul .f32 a0_0 a1
def impl_ScaleVector_V1 (a0_0 : Nat) (a0_1 : Nat) (a0_2 : Nat) (a1 : Nat) : Nat := fop .mul .f32 a0_1 a1
def impl_ScaleVector_V2 (a0_0 : Nat) (a0_1 : Nat) (a0_2 : Nat) (a1 : Nat) : Nat := fop .mul .f32 a0_2 a1
def impl_ScaleVector_Ok (a0_0 : Nat) (a0_1 : Nat) (a0_2 : Nat) (a1 : Nat) : Prop := okf .mul .f32 a0_0 a1 ∧ okf .mul .f32 a0_1 a1 ∧ okf .mul .f32 a0_2 a1
set_option maxRecDepth 100000 in
set_option maxHeartbeats 1000000 in
theorem impl_ScaleVector_c {a0_0 : Nat} {a0_1 : Nat} {a0_2 : Nat} {a1 : Nat} (h : impl_ScaleVector_Ok a0_0 a0_1 a0_2 a1) (w : World) : Calls Tryd.prog 12 #[.agg #[.float .f32 a0_0, .float .f32 a0_1, .float .f32 a0_2], .float .f32 a1] w fun e w' => e = .returned (.agg #[.float .f32 (impl_ScaleVector_V0 a0_0 a0_1 a0_2 a1), .float .f32 (impl_ScaleVector_V1 a0_0 a0_1 a0_2 a1), .float .f32 (impl_ScaleVector_V2 a0_0 a0_1 a0_2 a1)]) ∧ Below w.heap.size w w' := by
  unfold impl_ScaleVector_Ok at h
  obtain ⟨h1, h2, h3⟩ := h
  have e1 := h1.rf (P := Tryd.prog)
  have e2 := h2.rf (P := Tryd.prog)
  have e3 := h3.rf (P := Tryd.prog)
  clear h1 h2 h3
  go_enter Tryd.func12, Tryd.ntmps12
  go_wp2
  exact bodyPost_ret (v := .agg #[.float .f32 (fop .mul .f32 a0_0 a1), .float .f32 (fop .mul .f32 a0_1 a1), .float .f32 (fop .mul .f32 a0_2 a1)]) (by simp [results, Tryd.results12, go_sem]) rfl ⟨rfl, by repeat (first | exact Below.refl _ _ | apply Below.drew | refine balloc ?_ _ | refine bset ?_ (by simp <;> omega) _ | refine bthen ?_ (by assumption))⟩

def impl_CrossOf_V0 (a0_0 : Nat) (a0_1 : Nat) (a0_2 : Nat) (a1_0 : Nat) (a1_1 : Nat) (a1_2 : Nat) : Nat := impl_crossed_V0 a0_1 a1_2 a0_2 a1_1
def impl_CrossOf_V1 (a0_0 : Nat) (a0_1 : Nat) (a0_2 : Nat) (a1_0 : Nat) (a1_1 : Nat) (a1_2 : Nat) : Nat := impl_crossed_V0 a0_2 a1_0 a0_0 a1_2
def impl_CrossOf_V2 (a0_0 : Nat) (a0_1 : Nat) (a0_2 : Nat) (a1_0 : Nat) (a1_1 : Nat) (a1_2 : Nat) : Nat := impl_crossed_V0 a0_0 a1_1 a0_1 a1_0
def impl_CrossOf_Ok (a0_0 : Nat) (a0_1 : Nat) (a0_2 : Nat) (a1_0 : Nat) (a1_1 : Nat) (a1_2 : Nat) : Prop := impl_crossed_Ok a0_1 a1_2 a0_2 a1_1 ∧ impl_crossed_Ok a0_2 a1_0 a0_0 a1_2 ∧ impl_crossed_Ok a0_0 a1_1 a0_1 a1_0
set_option maxRecDepth 100000 in
set_option maxHeartbeats 1000000 in
theorem impl_CrossOf_c {a0_0 : Nat} {a0_1 : Nat} {a0_2 : Nat} {a1_0 : Nat} {a1_1 : Nat} {a1_2 : Nat} (h : impl_CrossOf_Ok a0_0 a0_1 a0_2 a1_0 a1_1 a1_2) (w : World) : Calls Tryd.prog 9 #[.agg #[.float .f32 a0_0, .float .f32 a0_1, .float .f32 a0_2], .agg #[.float .f32 a1_0, .float .f32 a1_1, .float .f32 a1_2]] w fun e w' => e = .returned (.agg #[.float .f32 (impl_CrossOf_V0 a0_0 a0_1 a0_2 a1_0 a1_1 a1_2), .float .f32 (impl_CrossOf_V1 a0_0 a0_1 a0_2 a1_0 a1_1 a1_2), .float .f32 (impl_CrossOf_V2 a0_0 a0_1 a0_2 a1_0 a1_1 a1_2)]) ∧ Below w.heap.size w w' := by
  unfold impl_CrossOf_Ok at h
  obtain ⟨h1, h2, h3⟩ := h
  go_enter Tryd.func9, Tryd.ntmps9
  go_wp2
  refine wp_region_held 28 (by kernel_rfl) (by kernel_rfl) ?_
  simp only [List.take_succ_cons, List.take_zero, List.drop_succ_cons, List.drop_zero]
  repeat (refine tame_step rfl ?_; apply Exists.intro; refine ⟨fun w' hw => ?_, ?_⟩; (have hc := hw.cell; go_simp; first | (with_reducible rfl) | (go_at_call 61; exact hw.same (impl_crossed_c (by assumption) _))); (try simp only [Act.put, List.setIfInBounds_toArray, List.set_cons_zero, List.set_cons_succ]))
  refine wpQuiet_nil ?_
  intro w' hw
  have hc := hw.cell
  have hf := hw.frozen
  go_wp2
  exact bodyPost_ret (v := .agg #[.float .f32 (impl_crossed_V0 a0_1 a1_2 a0_2 a1_1), .float .f32 (impl_crossed_V0 a0_2 a1_0 a0_0 a1_2), .float .f32 (impl_crossed_V0 a0_0 a1_1 a0_1 a1_0)]) (by simp [results, Tryd.results9, go_sem, hc]) rfl ⟨rfl, by repeat (first | exact Below.refl _ _ | apply Below.drew | refine balloc ?_ _ | refine bset ?_ (by simp <;> omega) _ | refine bthen ?_ (by assumption))⟩

def math_Sqrt_V0 (a0 : Nat) : Nat := qop a0
def math_Sqrt_Ok (a0 : Nat) : Prop := okq a0
set_option maxRecDepth 100000 in
set_option maxHeartbeats 1000000 in
theorem math_Sqrt_c {a0 : Nat} (h : math_Sqrt_Ok a0) (w : World) : Calls Tryd.prog 77 #[.float .f64 a0] w fun e w' => e = .returned (.float .f64 (math_Sqrt_V0 a0)) ∧ w = w' := by
  unfold math_Sqrt_Ok at h
  have h1 := h
  have e1 := sqrt_run h1
  clear h1 h
  go_enter Tryd.func77, Tryd.ntmps77
  go_wp2
  go_ret
  exact ⟨rfl, rfl⟩

def impl_RootNumber_V0 (a0 : Nat) : Nat := cop .f64 (math_Sqrt_V0 (cop .f32 a0 .f64)) .f32
def impl_RootNumber_Ok (a0 : Nat) : Prop := okc .f32 a0 .f64 ∧ math_Sqrt_Ok (cop .f32 a0 .f64) ∧ okc .f64 (math_Sqrt_V0 (cop .f32 a0 .f64)) .f32
set_option maxRecDepth 100000 in
set_option maxHeartbeats 1000000 in
theorem impl_RootNumber_c {a0 : Nat} (h : impl_RootNumber_Ok a0) (w : World) : Calls Tryd.prog 63 #[.float .f32 a0] w fun e w' => e = .returned (.float .f32 (impl_RootNumber_V0 a0)) ∧ w = w' := by
  unfold impl_RootNumber_Ok at h
  obtain ⟨h1, h2, h3⟩ := h
  have e1 := h1.run (P := Tryd.prog) 24 65 (by rw [Tryd.underlying24]; rfl) Tryd.underlying65
  have e3 := h3.run (P := Tryd.prog) 65 24 (by rw [Tryd.underlying65]; rfl) Tryd.underlying24
  clear h1 h3
  go_enter Tryd.func63, Tryd.ntmps63
  go_wp2_with ((go_at_call 77; refine (math_Sqrt_c (by assumption) _).mono ?_; rintro e w1 ⟨rfl, rfl⟩))
  go_ret
  exact ⟨rfl, rfl⟩

def impl_SizeOfVector_V0 (a0_0 : Nat) (a0_1 : Nat) (a0_2 : Nat) : Nat := impl_RootNumber_V0 (impl_InnerOf_V0 a0_0 a0_1 a0_2 a0_0 a0_1 a0_2)
def impl_SizeOfVector_Ok (a0_0 : Nat) (a0_1 : Nat) (a0_2 : Nat) : Prop := impl_InnerOf_Ok a0_0 a0_1 a0_2 a0_0 a0_1 a0_2 ∧ impl_RootNumber_Ok (impl_InnerOf_V0 a0_0 a0_1 a0_2 a0_0 a0_1 a0_2)
set_option maxRecDepth 100000 in
set_option maxHeartbeats 1000000 in
theorem impl_SizeOfVector_c {a0_0 : Nat} {a0_1 : Nat} {a0_2 : Nat} (h : impl_SizeOfVector_Ok a0_0 a0_1 a0_2) (w : World) : Calls Tryd.prog 17 #[.agg #[.float .f32 a0_0, .float .f32 a0_1, .float .f32 a0_2]] w fun e w' => e = .returned (.float .f32 (impl_SizeOfVector_V0 a0_0 a0_1 a0_2)) ∧ Below w.heap.size w w' := by
  unfold impl_SizeOfVector_Ok at h
  obtain ⟨h1, h2⟩ := h
  go_enter Tryd.func17, Tryd.ntmps17
  go_wp2_with (first | (go_at_call 14; refine (impl_InnerOf_c (by assumption) _).mono ?_; rintro e w1 ⟨rfl, hb⟩; have hc := Held.cell hb; have hf := Held.frozen hb) | (go_at_call 63; refine (impl_RootNumber_c (by assumption) _).mono ?_; rintro e w1 ⟨rfl, rfl⟩))
  go_ret
  exact ⟨rfl, by repeat (first | exact Below.refl _ _ | apply Below.drew | refine balloc ?_ _ | refine bset ?_ (by simp <;> omega) _ | refine bthen ?_ (by assumption))⟩

def impl_BetweenVectors_V0 (a0_0 : Nat) (a0_1 : Nat) (a0_2 : Nat) (a1_0 : Nat) (a1_1 : Nat) (a1_2 : Nat) (a2 : Nat) : Nat := impl_AddVectors_V0 a0_0 a0_1 a0_2 (impl_ScaleVector_V0 (impl_LessVectors_V0 a1_0 a1_1 a1_2 a0_0 a0_1 a0_2) (impl_LessVectors_V1 a1_0 a1_1 a1_2 a0_0 a0_1 a0_2) (impl_LessVectors_V2 a1_0 a1_1 a1_2 a0_0 a0_1 a0_2) a2) (impl_ScaleVector_V1 (impl_LessVectors_V0 a1_0 a1_1 a1_2 a0_0 a0_1 a0_2) (impl_LessVectors_V1 a1_0 a1_1 a1_2 a0_0 a0_1 a0_2) (impl_LessVectors_V2 a1_0 a1_1 a1_2 a0_0 a0_1 a0_2) a2) (impl_ScaleVector_V2 (impl_LessVectors_V0 a1_0 a1_1 a1_2 a0_0 a0_1 a0_2) (impl_LessVectors_V1 a1_0 a1_1 a1_2 a0_0 a0_1 a0_2) (impl_LessVectors_V2 a1_0 a1_1 a1_2 a0_0 a0_1 a0_2) a2)
def impl_BetweenVectors_V1 (a0_0 : Nat) (a0_1 : Nat) (a0_2 : Nat) (a1_0 : Nat) (a1_1 : Nat) (a1_2 : Nat) (a2 : Nat) : Nat := impl_AddVectors_V1 a0_0 a0_1 a0_2 (impl_ScaleVector_V0 (impl_LessVectors_V0 a1_0 a1_1 a1_2 a0_0 a0_1 a0_2) (impl_LessVectors_V1 a1_0 a1_1 a1_2 a0_0 a0_1 a0_2) (impl_LessVectors_V2 a1_0 a1_1 a1_2 a0_0 a0_1 a0_2) a2) (impl_ScaleVector_V1 (impl_LessVectors_V0 a1_0 a1_1 a1_2 a0_0 a0_1 a0_2) (impl_LessVectors_V1 a1_0 a1_1 a1_2 a0_0 a0_1 a0_2) (impl_LessVectors_V2 a1_0 a1_1 a1_2 a0_0 a0_1 a0_2) a2) (impl_ScaleVector_V2 (impl_LessVectors_V0 a1_0 a1_1 a1_2 a0_0 a0_1 a0_2) (impl_LessVectors_V1 a1_0 a1_1 a1_2 a0_0 a0_1 a0_2) (impl_LessVectors_V2 a1_0 a1_1 a1_2 a0_0 a0_1 a0_2) a2)
def impl_BetweenVectors_V2 (a0_0 : Nat) (a0_1 : Nat) (a0_2 : Nat) (a1_0 : Nat) (a1_1 : Nat) (a1_2 : Nat) (a2 : Nat) : Nat := impl_AddVectors_V2 a0_0 a0_1 a0_2 (impl_ScaleVector_V0 (impl_LessVectors_V0 a1_0 a1_1 a1_2 a0_0 a0_1 a0_2) (impl_LessVectors_V1 a1_0 a1_1 a1_2 a0_0 a0_1 a0_2) (impl_LessVectors_V2 a1_0 a1_1 a1_2 a0_0 a0_1 a0_2) a2) (impl_ScaleVector_V1 (impl_LessVectors_V0 a1_0 a1_1 a1_2 a0_0 a0_1 a0_2) (impl_LessVectors_V1 a1_0 a1_1 a1_2 a0_0 a0_1 a0_2) (impl_LessVectors_V2 a1_0 a1_1 a1_2 a0_0 a0_1 a0_2) a2) (impl_ScaleVector_V2 (impl_LessVectors_V0 a1_0 a1_1 a1_2 a0_0 a0_1 a0_2) (impl_LessVectors_V1 a1_0 a1_1 a1_2 a0_0 a0_1 a0_2) (impl_LessVectors_V2 a1_0 a1_1 a1_2 a0_0 a0_1 a0_2) a2)
def impl_BetweenVectors_Ok (a0_0 : Nat) (a0_1 : Nat) (a0_2 : Nat) (a1_0 : Nat) (a1_1 : Nat) (a1_2 : Nat) (a2 : Nat) : Prop := impl_LessVectors_Ok a1_0 a1_1 a1_2 a0_0 a0_1 a0_2 ∧ impl_ScaleVector_Ok (impl_LessVectors_V0 a1_0 a1_1 a1_2 a0_0 a0_1 a0_2) (impl_LessVectors_V1 a1_0 a1_1 a1_2 a0_0 a0_1 a0_2) (impl_LessVectors_V2 a1_0 a1_1 a1_2 a0_0 a0_1 a0_2) a2 ∧ impl_AddVectors_Ok a0_0 a0_1 a0_2 (impl_ScaleVector_V0 (impl_LessVectors_V0 a1_0 a1_1 a1_2 a0_0 a0_1 a0_2) (impl_LessVectors_V1 a1_0 a1_1 a1_2 a0_0 a0_1 a0_2) (impl_LessVectors_V2 a1_0 a1_1 a1_2 a0_0 a0_1 a0_2) a2) (impl_ScaleVector_V1 (impl_LessVectors_V0 a1_0 a1_1 a1_2 a0_0 a0_1 a0_2) (impl_LessVectors_V1 a1_0 a1_1 a1_2 a0_0 a0_1 a0_2) (impl_LessVectors_V2 a1_0 a1_1 a1_2 a0_0 a0_1 a0_2) a2) (impl_ScaleVector_V2 (impl_LessVectors_V0 a1_0 a1_1 a1_2 a0_0 a0_1 a0_2) (impl_LessVectors_V1 a1_0 a1_1 a1_2 a0_0 a0_1 a0_2) (impl_LessVectors_V2 a1_0 a1_1 a1_2 a0_0 a0_1 a0_2) a2)
set_option maxRecDepth 100000 in
set_option maxHeartbeats 1000000 in
theorem impl_BetweenVectors_c {a0_0 : Nat} {a0_1 : Nat} {a0_2 : Nat} {a1_0 : Nat} {a1_1 : Nat} {a1_2 : Nat} {a2 : Nat} (h : impl_BetweenVectors_Ok a0_0 a0_1 a0_2 a1_0 a1_1 a1_2 a2) (w : World) : Calls Tryd.prog 19 #[.agg #[.float .f32 a0_0, .float .f32 a0_1, .float .f32 a0_2], .agg #[.float .f32 a1_0, .float .f32 a1_1, .float .f32 a1_2], .float .f32 a2] w fun e w' => e = .returned (.agg #[.float .f32 (impl_BetweenVectors_V0 a0_0 a0_1 a0_2 a1_0 a1_1 a1_2 a2), .float .f32 (impl_BetweenVectors_V1 a0_0 a0_1 a0_2 a1_0 a1_1 a1_2 a2), .float .f32 (impl_BetweenVectors_V2 a0_0 a0_1 a0_2 a1_0 a1_1 a1_2 a2)]) ∧ Below w.heap.size w w' := by
  unfold impl_BetweenVectors_Ok at h
  obtain ⟨h1, h2, h3⟩ := h
  go_enter Tryd.func19, Tryd.ntmps19
  go_wp2
  refine wp_region_held 7 (by kernel_rfl) (by kernel_rfl) ?_
  simp only [List.take_succ_cons, List.take_zero, List.drop_succ_cons, List.drop_zero]
  repeat (refine tame_step rfl ?_; apply Exists.intro; refine ⟨fun w' hw => ?_, ?_⟩; (have hc := hw.cell; go_simp; first | (with_reducible rfl) | (go_at_call 11; exact hw.makes (impl_LessVectors_c (by assumption) _)) | (go_at_call 12; exact hw.makes (impl_ScaleVector_c (by assumption) _)) | (go_at_call 10; exact hw.makes (impl_AddVectors_c (by assumption) _))); (try simp only [Act.put, List.setIfInBounds_toArray, List.set_cons_zero, List.set_cons_succ]))
  refine wpQuiet_nil ?_
  intro w' hw
  have hc := hw.cell
  have hf := hw.frozen
  go_wp2
  exact bodyPost_ret (v := .agg #[.float .f32 (impl_AddVectors_V0 a0_0 a0_1 a0_2 (impl_ScaleVector_V0 (impl_LessVectors_V0 a1_0 a1_1 a1_2 a0_0 a0_1 a0_2) (impl_LessVectors_V1 a1_0 a1_1 a1_2 a0_0 a0_1 a0_2) (impl_LessVectors_V2 a1_0 a1_1 a1_2 a0_0 a0_1 a0_2) a2) (impl_ScaleVector_V1 (impl_LessVectors_V0 a1_0 a1_1 a1_2 a0_0 a0_1 a0_2) (impl_LessVectors_V1 a1_0 a1_1 a1_2 a0_0 a0_1 a0_2) (impl_LessVectors_V2 a1_0 a1_1 a1_2 a0_0 a0_1 a0_2) a2) (impl_ScaleVector_V2 (impl_LessVectors_V0 a1_0 a1_1 a1_2 a0_0 a0_1 a0_2) (impl_LessVectors_V1 a1_0 a1_1 a1_2 a0_0 a0_1 a0_2) (impl_LessVectors_V2 a1_0 a1_1 a1_2 a0_0 a0_1 a0_2) a2)), .float .f32 (impl_AddVectors_V1 a0_0 a0_1 a0_2 (impl_ScaleVector_V0 (impl_LessVectors_V0 a1_0 a1_1 a1_2 a0_0 a0_1 a0_2) (impl_LessVectors_V1 a1_0 a1_1 a1_2 a0_0 a0_1 a0_2) (impl_LessVectors_V2 a1_0 a1_1 a1_2 a0_0 a0_1 a0_2) a2) (impl_ScaleVector_V1 (impl_LessVectors_V0 a1_0 a1_1 a1_2 a0_0 a0_1 a0_2) (impl_LessVectors_V1 a1_0 a1_1 a1_2 a0_0 a0_1 a0_2) (impl_LessVectors_V2 a1_0 a1_1 a1_2 a0_0 a0_1 a0_2) a2) (impl_ScaleVector_V2 (impl_LessVectors_V0 a1_0 a1_1 a1_2 a0_0 a0_1 a0_2) (impl_LessVectors_V1 a1_0 a1_1 a1_2 a0_0 a0_1 a0_2) (impl_LessVectors_V2 a1_0 a1_1 a1_2 a0_0 a0_1 a0_2) a2)), .float .f32 (impl_AddVectors_V2 a0_0 a0_1 a0_2 (impl_ScaleVector_V0 (impl_LessVectors_V0 a1_0 a1_1 a1_2 a0_0 a0_1 a0_2) (impl_LessVectors_V1 a1_0 a1_1 a1_2 a0_0 a0_1 a0_2) (impl_LessVectors_V2 a1_0 a1_1 a1_2 a0_0 a0_1 a0_2) a2) (impl_ScaleVector_V1 (impl_LessVectors_V0 a1_0 a1_1 a1_2 a0_0 a0_1 a0_2) (impl_LessVectors_V1 a1_0 a1_1 a1_2 a0_0 a0_1 a0_2) (impl_LessVectors_V2 a1_0 a1_1 a1_2 a0_0 a0_1 a0_2) a2) (impl_ScaleVector_V2 (impl_LessVectors_V0 a1_0 a1_1 a1_2 a0_0 a0_1 a0_2) (impl_LessVectors_V1 a1_0 a1_1 a1_2 a0_0 a0_1 a0_2) (impl_LessVectors_V2 a1_0 a1_1 a1_2 a0_0 a0_1 a0_2) a2))]) (by simp [results, Tryd.results19, go_sem, hc]) rfl ⟨rfl, by repeat (first | exact Below.refl _ _ | apply Below.drew | refine balloc ?_ _ | refine bset ?_ (by simp <;> omega) _ | refine bthen ?_ (by assumption))⟩

def spec_l01Narrow_V0 (a0 : Nat) : Nat := cop .f64 a0 .f32
def spec_l01Narrow_Ok (a0 : Nat) : Prop := okc .f64 a0 .f32
set_option maxRecDepth 100000 in
set_option maxHeartbeats 1000000 in
theorem spec_l01Narrow_c {a0 : Nat} (h : spec_l01Narrow_Ok a0) (w : World) : Calls Tryd.prog 108 #[.float .f64 a0] w fun e w' => e = .returned (.float .f32 (spec_l01Narrow_V0 a0)) ∧ w = w' := by
  unfold spec_l01Narrow_Ok at h
  have h1 := h
  have e1 := h1.run (P := Tryd.prog) 65 24 (by rw [Tryd.underlying65]; rfl) Tryd.underlying24
  clear h1 h
  go_enter Tryd.func108, Tryd.ntmps108
  go_wp2
  go_ret
  exact ⟨rfl, rfl⟩

def spec_l01Sqrt_V0 (a0 : Nat) : Nat := spec_l01Narrow_V0 (math_Sqrt_V0 (cop .f32 a0 .f64))
def spec_l01Sqrt_Ok (a0 : Nat) : Prop := okc .f32 a0 .f64 ∧ math_Sqrt_Ok (cop .f32 a0 .f64) ∧ spec_l01Narrow_Ok (math_Sqrt_V0 (cop .f32 a0 .f64))
set_option maxRecDepth 100000 in
set_option maxHeartbeats 1000000 in
theorem spec_l01Sqrt_c {a0 : Nat} (h : spec_l01Sqrt_Ok a0) (w : World) : Calls Tryd.prog 64 #[.float .f32 a0] w fun e w' => e = .returned (.float .f32 (spec_l01Sqrt_V0 a0)) ∧ w = w' := by
  unfold spec_l01Sqrt_Ok at h
  obtain ⟨h1, h2, h3⟩ := h
  have e1 := h1.run (P := Tryd.prog) 24 65 (by rw [Tryd.underlying24]; rfl) Tryd.underlying65
  clear h1
  go_enter Tryd.func64, Tryd.ntmps64
  go_wp2_with (first | (go_at_call 77; refine (math_Sqrt_c (by assumption) _).mono ?_; rintro e w1 ⟨rfl, rfl⟩) | (go_at_call 108; refine (spec_l01Narrow_c (by assumption) _).mono ?_; rintro e w1 ⟨rfl, rfl⟩))
  go_ret
  exact ⟨rfl, rfl⟩

def spec_RootNumber_V0 (a0 : Nat) : Nat := spec_l01Sqrt_V0 a0
def spec_RootNumber_Ok (a0 : Nat) : Prop := spec_l01Sqrt_Ok a0
set_option maxRecDepth 100000 in
set_option maxHeartbeats 1000000 in
theorem spec_RootNumber_c {a0 : Nat} (h : spec_RootNumber_Ok a0) (w : World) : Calls Tryd.prog 18 #[.float .f32 a0] w fun e w' => e = .returned (.float .f32 (spec_RootNumber_V0 a0)) ∧ w = w' := by
  unfold spec_RootNumber_Ok at h
  have h1 := h
  go_enter Tryd.func18, Tryd.ntmps18
  go_wp2_with ((go_at_call 64; refine (spec_l01Sqrt_c (by assumption) _).mono ?_; rintro e w1 ⟨rfl, rfl⟩))
  go_ret
  exact ⟨rfl, rfl⟩

def laws_b10Square_V0 (a0_0 : Nat) (a0_1 : Nat) (a0_2 : Nat) : Nat := fop .add .f32 (fop .add .f32 (fop .mul .f32 a0_0 a0_0) (fop .mul .f32 a0_1 a0_1)) (fop .mul .f32 a0_2 a0_2)
def laws_b10Square_Ok (a0_0 : Nat) (a0_1 : Nat) (a0_2 : Nat) : Prop := okf .mul .f32 a0_0 a0_0 ∧ okf .mul .f32 a0_1 a0_1 ∧ okf .add .f32 (fop .mul .f32 a0_0 a0_0) (fop .mul .f32 a0_1 a0_1) ∧ okf .mul .f32 a0_2 a0_2 ∧ okf .add .f32 (fop .add .f32 (fop .mul .f32 a0_0 a0_0) (fop .mul .f32 a0_1 a0_1)) (fop .mul .f32 a0_2 a0_2)
set_option maxRecDepth 100000 in
set_option maxHeartbeats 1000000 in
theorem laws_b10Square_c {a0_0 : Nat} {a0_1 : Nat} {a0_2 : Nat} (h : laws_b10Square_Ok a0_0 a0_1 a0_2) (w : World) : Calls Tryd.prog 15 #[.agg #[.float .f32 a0_0, .float .f32 a0_1, .float .f32 a0_2]] w fun e w' => e = .returned (.float .f32 (laws_b10Square_V0 a0_0 a0_1 a0_2)) ∧ Below w.heap.size w w' := by
  unfold laws_b10Square_Ok at h
  obtain ⟨h1, h2, h3, h4, h5⟩ := h
  have e1 := h1.rf (P := Tryd.prog)
  have e2 := h2.rf (P := Tryd.prog)
  have e3 := h3.rf (P := Tryd.prog)
  have e4 := h4.rf (P := Tryd.prog)
  have e5 := h5.rf (P := Tryd.prog)
  clear h1 h2 h3 h4 h5
  go_enter Tryd.func15, Tryd.ntmps15
  go_wp2
  go_ret
  exact ⟨rfl, by repeat (first | exact Below.refl _ _ | apply Below.drew | refine balloc ?_ _ | refine bset ?_ (by simp <;> omega) _ | refine bthen ?_ (by assumption))⟩

def impl_wide_V0 (a0r : Nat) (a0i : Nat) : Nat := cop .f32 a0r .f64
def impl_wide_V1 (a0r : Nat) (a0i : Nat) : Nat := cop .f32 a0i .f64
def impl_wide_Ok (a0r : Nat) (a0i : Nat) : Prop := okc .f32 a0r .f64 ∧ okc .f32 a0i .f64
set_option maxRecDepth 100000 in
set_option maxHeartbeats 1000000 in
theorem impl_wide_c {a0r : Nat} {a0i : Nat} (h : impl_wide_Ok a0r a0i) (w : World) : Calls Tryd.prog 75 #[.complex .f32 a0r a0i] w fun e w' => e = .returned (.tuple #[.float .f64 (impl_wide_V0 a0r a0i), .float .f64 (impl_wide_V1 a0r a0i)]) ∧ w = w' := by
  unfold impl_wide_Ok at h
  obtain ⟨h1, h2⟩ := h
  have e1 := h1.run (P := Tryd.prog) 24 65 (by rw [Tryd.underlying24]; rfl) Tryd.underlying65
  have e2 := h2.run (P := Tryd.prog) 24 65 (by rw [Tryd.underlying24]; rfl) Tryd.underlying65
  clear h1 h2
  go_enter Tryd.func75, Tryd.ntmps75
  go_wp2
  exact bodyPost_ret (v := .tuple #[.float .f64 (cop .f32 a0r .f64), .float .f64 (cop .f32 a0i .f64)]) (by simp [results, Tryd.results75, go_sem]) rfl ⟨rfl, rfl⟩

def impl_power_V0 (a0r : Nat) (a0i : Nat) : Nat := fop .add .f64 (fop .mul .f64 (impl_wide_V0 a0r a0i) (impl_wide_V0 a0r a0i)) (fop .mul .f64 (impl_wide_V1 a0r a0i) (impl_wide_V1 a0r a0i))
def impl_power_Ok (a0r : Nat) (a0i : Nat) : Prop := impl_wide_Ok a0r a0i ∧ okf .mul .f64 (impl_wide_V0 a0r a0i) (impl_wide_V0 a0r a0i) ∧ okf .mul .f64 (impl_wide_V1 a0r a0i) (impl_wide_V1 a0r a0i) ∧ okf .add .f64 (fop .mul .f64 (impl_wide_V0 a0r a0i) (impl_wide_V0 a0r a0i)) (fop .mul .f64 (impl_wide_V1 a0r a0i) (impl_wide_V1 a0r a0i))
set_option maxRecDepth 100000 in
set_option maxHeartbeats 1000000 in
theorem impl_power_c {a0r : Nat} {a0i : Nat} (h : impl_power_Ok a0r a0i) (w : World) : Calls Tryd.prog 76 #[.complex .f32 a0r a0i] w fun e w' => e = .returned (.float .f64 (impl_power_V0 a0r a0i)) ∧ w = w' := by
  unfold impl_power_Ok at h
  obtain ⟨h1, h2, h3, h4⟩ := h
  have e2 := h2.rf (P := Tryd.prog)
  have e3 := h3.rf (P := Tryd.prog)
  have e4 := h4.rf (P := Tryd.prog)
  clear h2 h3 h4
  go_enter Tryd.func76, Tryd.ntmps76
  go_wp2_with ((go_at_call 75; refine (impl_wide_c (by assumption) _).mono ?_; rintro e w1 ⟨rfl, rfl⟩))
  go_ret
  exact ⟨rfl, rfl⟩

def impl_PowerOf_V0 (a0r : Nat) (a0i : Nat) : Nat := cop .f64 (impl_power_V0 a0r a0i) .f32
def impl_PowerOf_Ok (a0r : Nat) (a0i : Nat) : Prop := impl_power_Ok a0r a0i ∧ okc .f64 (impl_power_V0 a0r a0i) .f32
set_option maxRecDepth 100000 in
set_option maxHeartbeats 1000000 in
theorem impl_PowerOf_c {a0r : Nat} {a0i : Nat} (h : impl_PowerOf_Ok a0r a0i) (w : World) : Calls Tryd.prog 31 #[.complex .f32 a0r a0i] w fun e w' => e = .returned (.float .f32 (impl_PowerOf_V0 a0r a0i)) ∧ w = w' := by
  unfold impl_PowerOf_Ok at h
  obtain ⟨h1, h2⟩ := h
  have e2 := h2.run (P := Tryd.prog) 65 24 (by rw [Tryd.underlying65]; rfl) Tryd.underlying24
  clear h2
  go_enter Tryd.func31, Tryd.ntmps31
  go_wp2_with ((go_at_call 76; refine (impl_power_c (by assumption) _).mono ?_; rintro e w1 ⟨rfl, rfl⟩))
  go_ret
  exact ⟨rfl, rfl⟩

def impl_LongOf_V0 (a0r : Nat) (a0i : Nat) : Nat := cop .f64 (math_Sqrt_V0 (impl_power_V0 a0r a0i)) .f32
def impl_LongOf_Ok (a0r : Nat) (a0i : Nat) : Prop := impl_power_Ok a0r a0i ∧ math_Sqrt_Ok (impl_power_V0 a0r a0i) ∧ okc .f64 (math_Sqrt_V0 (impl_power_V0 a0r a0i)) .f32
set_option maxRecDepth 100000 in
set_option maxHeartbeats 1000000 in
theorem impl_LongOf_c {a0r : Nat} {a0i : Nat} (h : impl_LongOf_Ok a0r a0i) (w : World) : Calls Tryd.prog 33 #[.complex .f32 a0r a0i] w fun e w' => e = .returned (.float .f32 (impl_LongOf_V0 a0r a0i)) ∧ w = w' := by
  unfold impl_LongOf_Ok at h
  obtain ⟨h1, h2, h3⟩ := h
  have e3 := h3.run (P := Tryd.prog) 65 24 (by rw [Tryd.underlying65]; rfl) Tryd.underlying24
  clear h3
  go_enter Tryd.func33, Tryd.ntmps33
  go_wp2_with (first | (go_at_call 76; refine (impl_power_c (by assumption) _).mono ?_; rintro e w1 ⟨rfl, rfl⟩) | (go_at_call 77; refine (math_Sqrt_c (by assumption) _).mono ?_; rintro e w1 ⟨rfl, rfl⟩))
  go_ret
  exact ⟨rfl, rfl⟩

def impl_MulComplex_V0 (a0r : Nat) (a0i : Nat) (a1r : Nat) (a1i : Nat) : Nat := cop .f64 (fop .sub .f64 (fop .mul .f64 (impl_wide_V0 a0r a0i) (impl_wide_V0 a1r a1i)) (fop .mul .f64 (impl_wide_V1 a0r a0i) (impl_wide_V1 a1r a1i))) .f32
def impl_MulComplex_V1 (a0r : Nat) (a0i : Nat) (a1r : Nat) (a1i : Nat) : Nat := cop .f64 (fop .add .f64 (fop .mul .f64 (impl_wide_V0 a0r a0i) (impl_wide_V1 a1r a1i)) (fop .mul .f64 (impl_wide_V1 a0r a0i) (impl_wide_V0 a1r a1i))) .f32
def impl_MulComplex_Ok (a0r : Nat) (a0i : Nat) (a1r : Nat) (a1i : Nat) : Prop := impl_wide_Ok a0r a0i ∧ impl_wide_Ok a1r a1i ∧ okf .mul .f64 (impl_wide_V0 a0r a0i) (impl_wide_V0 a1r a1i) ∧ okf .mul .f64 (impl_wide_V1 a0r a0i) (impl_wide_V1 a1r a1i) ∧ okf .sub .f64 (fop .mul .f64 (impl_wide_V0 a0r a0i) (impl_wide_V0 a1r a1i)) (fop .mul .f64 (impl_wide_V1 a0r a0i) (impl_wide_V1 a1r a1i)) ∧ okc .f64 (fop .sub .f64 (fop .mul .f64 (impl_wide_V0 a0r a0i) (impl_wide_V0 a1r a1i)) (fop .mul .f64 (impl_wide_V1 a0r a0i) (impl_wide_V1 a1r a1i))) .f32 ∧ okf .mul .f64 (impl_wide_V0 a0r a0i) (impl_wide_V1 a1r a1i) ∧ okf .mul .f64 (impl_wide_V1 a0r a0i) (impl_wide_V0 a1r a1i) ∧ okf .add .f64 (fop .mul .f64 (impl_wide_V0 a0r a0i) (impl_wide_V1 a1r a1i)) (fop .mul .f64 (impl_wide_V1 a0r a0i) (impl_wide_V0 a1r a1i)) ∧ okc .f64 (fop .add .f64 (fop .mul .f64 (impl_wide_V0 a0r a0i) (impl_wide_V1 a1r a1i)) (fop .mul .f64 (impl_wide_V1 a0r a0i) (impl_wide_V0 a1r a1i))) .f32
set_option maxRecDepth 100000 in
set_option maxHeartbeats 1000000 in
theorem impl_MulComplex_c {a0r : Nat} {a0i : Nat} {a1r : Nat} {a1i : Nat} (h : impl_MulComplex_Ok a0r a0i a1r a1i) (w : World) : Calls Tryd.prog 30 #[.complex .f32 a0r a0i, .complex .f32 a1r a1i] w fun e w' => e = .returned (.complex .f32 (impl_MulComplex_V0 a0r a0i a1r a1i) (impl_MulComplex_V1 a0r a0i a1r a1i)) ∧ w = w' := by
  unfold impl_MulComplex_Ok at h
  obtain ⟨h1, h2, h3, h4, h5, h6, h7, h8, h9, h10⟩ := h
  have e3 := h3.rf (P := Tryd.prog)
  have e4 := h4.rf (P := Tryd.prog)
  have e5 := h5.rf (P := Tryd.prog)
  have e6 := h6.run (P := Tryd.prog) 65 24 (by rw [Tryd.underlying65]; rfl) Tryd.underlying24
  have e7 := h7.rf (P := Tryd.prog)
  have e8 := h8.rf (P := Tryd.prog)
  have e9 := h9.rf (P := Tryd.prog)
  have e10 := h10.run (P := Tryd.prog) 65 24 (by rw [Tryd.underlying65]; rfl) Tryd.underlying24
  clear h3 h4 h5 h6 h7 h8 h9 h10
  go_enter Tryd.func30, Tryd.ntmps30
  go_wp2_with ((go_at_call 75; refine (impl_wide_c (by assumption) _).mono ?_; rintro e w1 ⟨rfl, rfl⟩))
  go_ret
  exact ⟨rfl, rfl⟩

def impl_ConjugateOf_V0 (a0r : Nat) (a0i : Nat) : Nat := a0r
def impl_ConjugateOf_V1 (a0r : Nat) (a0i : Nat) : Nat := Op.negFloat .f32 a0i
set_option maxRecDepth 100000 in
set_option maxHeartbeats 1000000 in
theorem impl_ConjugateOf_c {a0r : Nat} {a0i : Nat} (w : World) : Calls Tryd.prog 32 #[.complex .f32 a0r a0i] w fun e w' => e = .returned (.complex .f32 (impl_ConjugateOf_V0 a0r a0i) (impl_ConjugateOf_V1 a0r a0i)) ∧ w = w' := by
  go_enter Tryd.func32, Tryd.ntmps32
  go_wp2
  go_ret
  exact ⟨rfl, rfl⟩

def impl_QuotientOf_V0 (a0r : Nat) (a0i : Nat) (a1r : Nat) (a1i : Nat) : Nat := cop .f64 (fop .quo .f64 (fop .sub .f64 (fop .mul .f64 (impl_wide_V0 a0r a0i) (impl_wide_V0 (impl_ConjugateOf_V0 a1r a1i) (impl_ConjugateOf_V1 a1r a1i))) (fop .mul .f64 (impl_wide_V1 a0r a0i) (impl_wide_V1 (impl_ConjugateOf_V0 a1r a1i) (impl_ConjugateOf_V1 a1r a1i)))) (impl_power_V0 a1r a1i)) .f32
def impl_QuotientOf_V1 (a0r : Nat) (a0i : Nat) (a1r : Nat) (a1i : Nat) : Nat := cop .f64 (fop .quo .f64 (fop .add .f64 (fop .mul .f64 (impl_wide_V0 a0r a0i) (impl_wide_V1 (impl_ConjugateOf_V0 a1r a1i) (impl_ConjugateOf_V1 a1r a1i))) (fop .mul .f64 (impl_wide_V1 a0r a0i) (impl_wide_V0 (impl_ConjugateOf_V0 a1r a1i) (impl_ConjugateOf_V1 a1r a1i)))) (impl_power_V0 a1r a1i)) .f32
def impl_QuotientOf_Ok (a0r : Nat) (a0i : Nat) (a1r : Nat) (a1i : Nat) : Prop := impl_wide_Ok a0r a0i ∧ impl_wide_Ok (impl_ConjugateOf_V0 a1r a1i) (impl_ConjugateOf_V1 a1r a1i) ∧ impl_power_Ok a1r a1i ∧ okf .mul .f64 (impl_wide_V0 a0r a0i) (impl_wide_V0 (impl_ConjugateOf_V0 a1r a1i) (impl_ConjugateOf_V1 a1r a1i)) ∧ okf .mul .f64 (impl_wide_V1 a0r a0i) (impl_wide_V1 (impl_ConjugateOf_V0 a1r a1i) (impl_ConjugateOf_V1 a1r a1i)) ∧ okf .sub .f64 (fop .mul .f64 (impl_wide_V0 a0r a0i) (impl_wide_V0 (impl_ConjugateOf_V0 a1r a1i) (impl_ConjugateOf_V1 a1r a1i))) (fop .mul .f64 (impl_wide_V1 a0r a0i) (impl_wide_V1 (impl_ConjugateOf_V0 a1r a1i) (impl_ConjugateOf_V1 a1r a1i))) ∧ okf .mul .f64 (impl_wide_V0 a0r a0i) (impl_wide_V1 (impl_ConjugateOf_V0 a1r a1i) (impl_ConjugateOf_V1 a1r a1i)) ∧ okf .mul .f64 (impl_wide_V1 a0r a0i) (impl_wide_V0 (impl_ConjugateOf_V0 a1r a1i) (impl_ConjugateOf_V1 a1r a1i)) ∧ okf .add .f64 (fop .mul .f64 (impl_wide_V0 a0r a0i) (impl_wide_V1 (impl_ConjugateOf_V0 a1r a1i) (impl_ConjugateOf_V1 a1r a1i))) (fop .mul .f64 (impl_wide_V1 a0r a0i) (impl_wide_V0 (impl_ConjugateOf_V0 a1r a1i) (impl_ConjugateOf_V1 a1r a1i))) ∧ okf .quo .f64 (fop .sub .f64 (fop .mul .f64 (impl_wide_V0 a0r a0i) (impl_wide_V0 (impl_ConjugateOf_V0 a1r a1i) (impl_ConjugateOf_V1 a1r a1i))) (fop .mul .f64 (impl_wide_V1 a0r a0i) (impl_wide_V1 (impl_ConjugateOf_V0 a1r a1i) (impl_ConjugateOf_V1 a1r a1i)))) (impl_power_V0 a1r a1i) ∧ okc .f64 (fop .quo .f64 (fop .sub .f64 (fop .mul .f64 (impl_wide_V0 a0r a0i) (impl_wide_V0 (impl_ConjugateOf_V0 a1r a1i) (impl_ConjugateOf_V1 a1r a1i))) (fop .mul .f64 (impl_wide_V1 a0r a0i) (impl_wide_V1 (impl_ConjugateOf_V0 a1r a1i) (impl_ConjugateOf_V1 a1r a1i)))) (impl_power_V0 a1r a1i)) .f32 ∧ okf .quo .f64 (fop .add .f64 (fop .mul .f64 (impl_wide_V0 a0r a0i) (impl_wide_V1 (impl_ConjugateOf_V0 a1r a1i) (impl_ConjugateOf_V1 a1r a1i))) (fop .mul .f64 (impl_wide_V1 a0r a0i) (impl_wide_V0 (impl_ConjugateOf_V0 a1r a1i) (impl_ConjugateOf_V1 a1r a1i)))) (impl_power_V0 a1r a1i) ∧ okc .f64 (fop .quo .f64 (fop .add .f64 (fop .mul .f64 (impl_wide_V0 a0r a0i) (impl_wide_V1 (impl_ConjugateOf_V0 a1r a1i) (impl_ConjugateOf_V1 a1r a1i))) (fop .mul .f64 (impl_wide_V1 a0r a0i) (impl_wide_V0 (impl_ConjugateOf_V0 a1r a1i) (impl_ConjugateOf_V1 a1r a1i)))) (impl_power_V0 a1r a1i)) .f32
set_option maxRecDepth 100000 in
set_option maxHeartbeats 1000000 in
theorem impl_QuotientOf_c {a0r : Nat} {a0i : Nat} {a1r : Nat} {a1i : Nat} (h : impl_QuotientOf_Ok a0r a0i a1r a1i) (w : World) : Calls Tryd.prog 34 #[.complex .f32 a0r a0i, .complex .f32 a1r a1i] w fun e w' => e = .returned (.complex .f32 (impl_QuotientOf_V0 a0r a0i a1r a1i) (impl_QuotientOf_V1 a0r a0i a1r a1i)) ∧ w = w' := by
  unfold impl_QuotientOf_Ok at h
  obtain ⟨h1, h2, h3, h4, h5, h6, h7, h8, h9, h10, h11, h12, h13⟩ := h
  have e4 := h4.rf (P := Tryd.prog)
  have e5 := h5.rf (P := Tryd.prog)
  have e6 := h6.rf (P := Tryd.prog)
  have e7 := h7.rf (P := Tryd.prog)
  have e8 := h8.rf (P := Tryd.prog)
  have e9 := h9.rf (P := Tryd.prog)
  have e10 := h10.rf (P := Tryd.prog)
  have e11 := h11.run (P := Tryd.prog) 65 24 (by rw [Tryd.underlying65]; rfl) Tryd.underlying24
  have e12 := h12.rf (P := Tryd.prog)
  have e13 := h13.run (P := Tryd.prog) 65 24 (by rw [Tryd.underlying65]; rfl) Tryd.underlying24
  clear h4 h5 h6 h7 h8 h9 h10 h11 h12 h13
  go_enter Tryd.func34, Tryd.ntmps34
  go_wp2_with (first | (go_at_call 75; refine (impl_wide_c (by assumption) _).mono ?_; rintro e w1 ⟨rfl, rfl⟩) | (go_at_call 32; refine (impl_ConjugateOf_c _).mono ?_; rintro e w1 ⟨rfl, rfl⟩) | (go_at_call 76; refine (impl_power_c (by assumption) _).mono ?_; rintro e w1 ⟨rfl, rfl⟩))
  go_ret
  exact ⟨rfl, rfl⟩

def impl_ScaleComplex_V0 (a0r : Nat) (a0i : Nat) (a1 : Nat) : Nat := fop .mul .f32 a0r a1
def impl_ScaleComplex_V1 (a0r : Nat) (a0i : Nat) (a1 : Nat) : Nat := fop .mul .f32 a0i a1
def impl_ScaleComplex_Ok (a0r : Nat) (a0i : Nat) (a1 : Nat) : Prop := okf .mul .f32 a0r a1 ∧ okf .mul .f32 a0i a1
set_option maxRecDepth 100000 in
set_option maxHeartbeats 1000000 in
theorem impl_ScaleComplex_c {a0r : Nat} {a0i : Nat} {a1 : Nat} (h : impl_ScaleComplex_Ok a0r a0i a1) (w : World) : Calls Tryd.prog 35 #[.complex .f32 a0r a0i, .float .f32 a1] w fun e w' => e = .returned (.complex .f32 (impl_ScaleComplex_V0 a0r a0i a1) (impl_ScaleComplex_V1 a0r a0i a1)) ∧ w = w' := by
  unfold impl_ScaleComplex_Ok at h
  obtain ⟨h1, h2⟩ := h
  have e1 := h1.rf (P := Tryd.prog)
  have e2 := h2.rf (P := Tryd.prog)
  clear h1 h2
  go_enter Tryd.func35, Tryd.ntmps35
  go_wp2
  go_ret
  exact ⟨rfl, rfl⟩

def impl_NarrowComplex_V0 (a0r : Nat) (a0i : Nat) : Nat := cop .f64 a0r .f32
def impl_NarrowComplex_V1 (a0r : Nat) (a0i : Nat) : Nat := cop .f64 a0i .f32
def impl_NarrowComplex_Ok (a0r : Nat) (a0i : Nat) : Prop := okc .f64 a0r .f32 ∧ okc .f64 a0i .f32
set_option maxRecDepth 100000 in
set_option maxHeartbeats 1000000 in
theorem impl_NarrowComplex_c {a0r : Nat} {a0i : Nat} (h : impl_NarrowComplex_Ok a0r a0i) (w : World) : Calls Tryd.prog 46 #[.complex .f64 a0r a0i] w fun e w' => e = .returned (.complex .f32 (impl_NarrowComplex_V0 a0r a0i) (impl_NarrowComplex_V1 a0r a0i)) ∧ w = w' := by
  unfold impl_NarrowComplex_Ok at h
  obtain ⟨h1, h2⟩ := h
  have e1 := h1.run (P := Tryd.prog) 65 24 (by rw [Tryd.underlying65]; rfl) Tryd.underlying24
  have e2 := h2.run (P := Tryd.prog) 65 24 (by rw [Tryd.underlying65]; rfl) Tryd.underlying24
  clear h1 h2
  go_enter Tryd.func46, Tryd.ntmps46
  go_wp2
  go_ret
  exact ⟨rfl, rfl⟩

def impl_NarrowNumber_V0 (a0 : Nat) : Nat := cop .f64 a0 .f32
def impl_NarrowNumber_Ok (a0 : Nat) : Prop := okc .f64 a0 .f32
set_option maxRecDepth 100000 in
set_option maxHeartbeats 1000000 in
theorem impl_NarrowNumber_c {a0 : Nat} (h : impl_NarrowNumber_Ok a0) (w : World) : Calls Tryd.prog 57 #[.float .f64 a0] w fun e w' => e = .returned (.float .f32 (impl_NarrowNumber_V0 a0)) ∧ w = w' := by
  unfold impl_NarrowNumber_Ok at h
  have h1 := h
  have e1 := h1.run (P := Tryd.prog) 65 24 (by rw [Tryd.underlying65]; rfl) Tryd.underlying24
  clear h1 h
  go_enter Tryd.func57, Tryd.ntmps57
  go_wp2
  go_ret
  exact ⟨rfl, rfl⟩
end Go.Proofs.YtglnfccglgladaaDoor
