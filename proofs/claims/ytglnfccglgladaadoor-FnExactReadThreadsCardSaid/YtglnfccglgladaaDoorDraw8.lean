/-
  What is drawn: lists of numbers.
-/
import Derived.Test.YtglnfccglgladaaDoorDraw7
import Derived.Test.YtglnfccglgladaaDoorRead4
namespace Go.Proofs.YtglnfccglgladaaDoor
open Go.RowKit
set_option linter.unusedVariables false

def flV (p : Nat) : Value := .float .f32 p
/-- k complex numbers have been drawn. -/
def FlDrawn (w W : World) (B g m : Nat) (v : Value) (k : Nat) : Prop := ∃ ps : List Nat, ps.length = k ∧ OwnG w W g 24 v (ps.map flV) ∧ (∀ p ∈ ps, W32 p) ∧ Src W B g (m + 20 * k)

theorem FlDrawn.next {w W2 : World} {B g m k : Nat} {v1 : Value} {x : Nat} (ps : List Nat) (hl : ps.length = k) (hx : x < 4294967296) (hp : ∀ p ∈ ps, W32 p)
    (ho : OwnG w W2 g 24 v1 (ps.map flV ++ [.float .f32 x])) (hs : Src W2 B g (m + 20 * k + 20)) : FlDrawn w W2 B g m v1 (k + 1) :=
  ⟨ps ++ [x], by simp [hl], by simpa [flV] using ho, by
    intro p hp'
    rcases List.mem_append.1 hp' with h | h
    · exact hp p h
    · simp at h; subst h; exact hx, hs.mono (by omega)⟩

set_option maxRecDepth 100000 in
set_option maxHeartbeats 4000000 in
theorem drawfloats_c {w : World} {B g m n : Nat} (h : Src w B g m) (hm : m ≤ 500000) (hn : n ≤ 100) (hBw : B ≤ w.heap.size) :
    Calls Tryd.prog 97 #[.pointer (some ⟨g, 0, none⟩), .int .i64 n] w fun e w' => ∃ v, e = .returned v ∧ FlDrawn w w' B g (m + 2) v n := by
  have hl := h.lt
  have hn1 : (n : Int) ≤ 100 := by omega
  go_enter Tryd.func97, Tryd.ntmps97
  go_wp2_with fail
  refine (one_c (by omega) (h.alloc _) (by omega)).mono ?_
  rintro e w1 ⟨v, rfl, ⟨b, rfl⟩, hs1, hg1⟩
  have H0 := Lib.hid (show FlDrawn w w1 B g (m + 2) (.slice (some ⟨w.heap.size, 0, none⟩) 0 0) 0 from ⟨[], rfl, (OwnG.lit hl #[] 0 (by omega) rfl).draw hg1, by simp, hs1.mono (by omega)⟩)
  clear hg1 hs1 h
  go_wp2_with fail
  go_loopw [1, 5] (fun c v wr => ∃ k : Nat, k ≤ n ∧ c = .int .i64 ((n : Int) - (k : Int)) ∧ Hid (FlDrawn w wr B g (m + 2) v k)) (fun c _ _ => (intOf c).toNat)
  case atStart => exact ⟨0, Nat.zero_le _, by simp, H0⟩
  case round =>
    obtain ⟨k, hk, rfl, hD⟩ := hrel
    clear H0
    obtain ⟨ps, hl, ho, hp, hs⟩ := hD.out
    have HO := Lib.hid ho
    have HP := Lib.hid hp
    have HS := Lib.hid hs
    have HL := Lib.hid hl
    have hkn : (k : Int) ≤ (n : Int) := by omega
    clear ho hp hs hl hD
    by_cases hlt : k < n
    · have hlt' : (0 : Int) < (n : Int) - (k : Int) := by omega
      have hw : IntKind.i64.wrap ((n : Int) - (k : Int) - 1) = (n : Int) - (k : Int) - 1 := IntWalk.i64_in _ (by omega)
      cases b with
      | true =>
        go_wp2_with (first
          | (go_at_call 86; refine (float_c HS.out (by omega)).mono ?_; rintro e w2 ⟨v, rfl, ⟨x, rfl, hx⟩, hs2, hg2⟩; have HO2 := Lib.hid (HO.out.draw hg2); have HS2 := Lib.hid (hs2.mono (m' := m + 2 + 20 * k + 20) (by omega)); have HX := Lib.hid hx; clear hs2 hg2 hx HO HS)
          | (at_builtin; go_loud (refine app_oneG rfl (.tmp 15) (.tmp 18) 71 24 (.float .f32 0) 4 rfl Tryd.underlying71 info_f32 rfl rfl rfl (by simp) rfl HO2.out (by simp [HL.out]; omega) (by omega) ?_; intro v1 w3 H1 hgr)))
        exact ⟨⟨k + 1, by omega, by congr 1; omega, Lib.hid (FlDrawn.next ps HL.out HX.out HP.out H1 (HO2.out.src HS2.out hBw hgr))⟩, by simp [intOf]; omega⟩
      | false =>
        go_wp2_with (first
          | (go_at_call 125; refine (plain_c HS.out (by omega)).mono ?_; rintro e w2 ⟨v, rfl, ⟨x, rfl, hx, hnn⟩, hs2, hg2⟩; have HO2 := Lib.hid (HO.out.draw hg2); have HS2 := Lib.hid (hs2.mono (m' := m + 2 + 20 * k + 20) (by omega)); have HX := Lib.hid hx; clear hs2 hg2 hx hnn HO HS)
          | (at_builtin; go_loud (refine app_oneG rfl (.tmp 20) (.tmp 23) 71 24 (.float .f32 0) 4 rfl Tryd.underlying71 info_f32 rfl rfl rfl (by simp) rfl HO2.out (by simp [HL.out]; omega) (by omega) ?_; intro v1 w3 H1 hgr)))
        exact ⟨⟨k + 1, by omega, by congr 1; omega, Lib.hid (FlDrawn.next ps HL.out HX.out HP.out H1 (HO2.out.src HS2.out hBw hgr))⟩, by simp [intOf]; omega⟩
    · have hkn2 : (n : Int) - (k : Int) = 0 := by omega
      have hk2 : k = n := by omega
      subst hk2
      have HD := Lib.hid (show FlDrawn w wr B g (m + 2) u5 k from ⟨ps, HL.out, HO.out, HP.out, HS.out⟩)
      clear HO HP HS HL
      go_wp2
      go_ret
      exact ⟨_, rfl, HD.out⟩
end Go.Proofs.YtglnfccglgladaaDoor
