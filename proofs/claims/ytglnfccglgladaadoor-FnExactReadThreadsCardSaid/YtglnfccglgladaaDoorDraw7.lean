/-
  What is drawn: lists of complex numbers; lists of numbers.
-/
import Derived.Test.YtglnfccglgladaaDoorOwnG
namespace Go.Proofs.YtglnfccglgladaaDoor
open Go.RowKit
set_option linter.unusedVariables false

theorem info_c64 : (Tryd.prog.info? 46).map (fun i => (i.zero, i.size, i.bytes)) = some (some (.complex .f32 0 0), 1, 8) := by kernel_rfl
def cxV (p : Nat × Nat) : Value := .complex .f32 p.1 p.2
def Cx32 (p : Nat × Nat) : Prop := p.1 < 4294967296 ∧ p.2 < 4294967296
/-- k complex numbers have been drawn. -/
def CxDrawn (w W : World) (B g m : Nat) (v : Value) (k : Nat) : Prop := ∃ ps : List (Nat × Nat), ps.length = k ∧ OwnG w W g 46 v (ps.map cxV) ∧ (∀ p ∈ ps, Cx32 p) ∧ Src W B g (m + 20 * k)

theorem CxDrawn.next {w W2 : World} {B g m k : Nat} {v1 : Value} {x y : Nat} (ps : List (Nat × Nat)) (hl : ps.length = k) (hx : x < 4294967296) (hy : y < 4294967296) (hp : ∀ p ∈ ps, Cx32 p)
    (ho : OwnG w W2 g 46 v1 (ps.map cxV ++ [.complex .f32 x y])) (hs : Src W2 B g (m + 20 * k + 20)) : CxDrawn w W2 B g m v1 (k + 1) :=
  ⟨ps ++ [(x, y)], by simp [hl], by simpa [cxV] using ho, by
    intro p hp'
    rcases List.mem_append.1 hp' with h | h
    · exact hp p h
    · simp at h; subst h; exact ⟨hx, hy⟩, hs.mono (by omega)⟩

set_option maxRecDepth 100000 in
set_option maxHeartbeats 4000000 in
theorem drawcomplexes_c {w : World} {B g m n : Nat} (h : Src w B g m) (hm : m ≤ 500000) (hn : n ≤ 100) (hBw : B ≤ w.heap.size) :
    Calls Tryd.prog 78 #[.pointer (some ⟨g, 0, none⟩), .int .i64 n] w fun e w' => ∃ v, e = .returned v ∧ CxDrawn w w' B g (m + 2) v n := by
  have hl := h.lt
  have hn1 : (n : Int) ≤ 100 := by omega
  go_enter Tryd.func78, Tryd.ntmps78
  go_wp2_with fail
  refine (one_c (by omega) (h.alloc _) (by omega)).mono ?_
  rintro e w1 ⟨v, rfl, ⟨b, rfl⟩, hs1, hg1⟩
  have H0 := Lib.hid (show CxDrawn w w1 B g (m + 2) (.slice (some ⟨w.heap.size, 0, none⟩) 0 0) 0 from ⟨[], rfl, (OwnG.lit hl #[] 0 (by omega) rfl).draw hg1, by simp, hs1.mono (by omega)⟩)
  clear hg1 hs1 h
  go_wp2_with fail
  go_loopw [1, 5] (fun c v wr => ∃ k : Nat, k ≤ n ∧ c = .int .i64 ((n : Int) - (k : Int)) ∧ Hid (CxDrawn w wr B g (m + 2) v k)) (fun c _ _ => (intOf c).toNat)
  case atStart => exact ⟨0, Nat.zero_le _, by simp, H0⟩
  case round =>
    obtain ⟨k, hk, rfl, hD⟩ := hrel
    clear H0
    obtain ⟨ps, hl, ho, hp, hs⟩ := hD.out
    have HO := Lib.hid ho
    have HP := Lib.hid hp
    have HS := Lib.hid hs
    have HL := Lib.hid hl
    have hkn : (k : Int) ≤ (n : Int) := by omega
    clear ho hp hs hl hD
    by_cases hlt : k < n
    · have hlt' : (0 : Int) < (n : Int) - (k : Int) := by omega
      have hw : IntKind.i64.wrap ((n : Int) - (k : Int) - 1) = (n : Int) - (k : Int) - 1 := IntWalk.i64_in _ (by omega)
      cases b with
      | true =>
        go_wp2_with (first
          | (go_at_call 91; refine (drawcomplex_c HS.out (by omega)).mono ?_; rintro e w2 ⟨v, rfl, ⟨x, y, rfl, hx, hy⟩, hs2, hg2⟩; have HO2 := Lib.hid (HO.out.draw hg2); have HS2 := Lib.hid hs2; have HX := Lib.hid hx; have HY := Lib.hid hy; clear hs2 hg2 hx hy HO HS)
          | (at_builtin; go_loud (refine app_oneG rfl (.tmp 15) (.tmp 18) 47 46 (.complex .f32 0 0) 8 rfl Tryd.underlying47 info_c64 rfl rfl rfl (by simp) rfl HO2.out (by simp [HL.out]; omega) (by omega) ?_; intro v1 w3 H1 hgr)))
        exact ⟨⟨k + 1, by omega, by congr 1; omega, Lib.hid (CxDrawn.next ps HL.out HX.out HY.out HP.out H1 (HO2.out.src HS2.out hBw hgr))⟩, by simp [intOf]; omega⟩
      | false =>
        go_wp2_with (first
          | (go_at_call 92; refine (drawfine_c HS.out (by omega)).mono ?_; rintro e w2 ⟨v, rfl, ⟨x, y, rfl, hx, hy⟩, hs2, hg2⟩; have HO2 := Lib.hid (HO.out.draw hg2); have HS2 := Lib.hid hs2; have HX := Lib.hid hx; have HY := Lib.hid hy; clear hs2 hg2 hx hy HO HS)
          | (at_builtin; go_loud (refine app_oneG rfl (.tmp 20) (.tmp 23) 47 46 (.complex .f32 0 0) 8 rfl Tryd.underlying47 info_c64 rfl rfl rfl (by simp) rfl HO2.out (by simp [HL.out]; omega) (by omega) ?_; intro v1 w3 H1 hgr)))
        exact ⟨⟨k + 1, by omega, by congr 1; omega, Lib.hid (CxDrawn.next ps HL.out HX.out HY.out HP.out H1 (HO2.out.src HS2.out hBw hgr))⟩, by simp [intOf]; omega⟩
    · have hkn2 : (n : Int) - (k : Int) = 0 := by omega
      have hk2 : k = n := by omega
      subst hk2
      have HD := Lib.hid (show CxDrawn w wr B g (m + 2) u5 k from ⟨ps, HL.out, HO.out, HP.out, HS.out⟩)
      clear HO HP HS HL
      go_wp2
      go_ret
      exact ⟨_, rfl, HD.out⟩
end Go.Proofs.YtglnfccglgladaaDoor
