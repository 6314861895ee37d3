/-
  A number read from a text: the walk.
-/
import Derived.Test.YtglnfccglgladaaDoorRead
namespace Go.Proofs.YtglnfccglgladaaDoor
open Go.RowKit
set_option linter.unusedVariables false

theorem lenL (s : ByteArray) : s.data.toList.length = s.size := Array.length_toList
theorem take_next (l : List UInt8) (k : Nat) (h : k < l.length) : l.take (k + 1) = l.take k ++ [l[k]] := by
  rw [List.take_add_one, List.getElem?_eq_getElem h]; rfl
/-- A digit that is none. -/
theorem readN_bad {l : List UInt8} {k : Nat} (h : k < l.length) (hd : hv l[k] < 0) : readN l = (0, false) := by
  have : ¬ l.all (fun c => 0 ≤ hv c) = true := by
    intro h'
    have := List.all_eq_true.1 h' l[k] (List.getElem_mem h)
    simp at this
    omega
  unfold readN
  rw [if_neg (fun h => this h.2)]
theorem readN_long {l : List UInt8} (h : 8 < l.length) : readN l = (0, false) := by
  unfold readN
  rw [if_neg (fun h' => by omega)]
theorem readN_good {l : List UInt8} (h : l.length ≤ 8) (ha : l.all (fun c => 0 ≤ hv c) = true) : readN l = (hval l, l.length == 8 && bitsOf (hval l) == hval l) := if_pos ⟨h, ha⟩

set_option maxRecDepth 100000 in
set_option maxHeartbeats 4000000 in
theorem readNumber_c (s : ByteArray) (hs : s.size ≤ 4294967296) (w : World) :
    Calls Tryd.prog 83 #[.string s] w fun e w' => e = .returned (.tuple #[.float .f32 (readN s.data.toList).1, .bool (readN s.data.toList).2]) ∧ w = w' := by
  have hs' : (s.size : Int) ≤ 4294967296 := by omega
  have h0 : (0 : Int) ≤ (s.size : Int) := by omega
  go_enter Tryd.func83, Tryd.ntmps83
  go_wp2
  go_loop [4, 11] (fun n i => ∃ k : Nat, k ≤ s.size ∧ k ≤ 8 ∧ i = .int .i64 k ∧ n = .int .i64 (hval (s.data.toList.take k)) ∧ Hid ((s.data.toList.take k).all (fun c => 0 ≤ hv c) = true)) (fun _ i => s.size - (intOf i).toNat)
  case atStart => exact ⟨0, Nat.zero_le _, by omega, rfl, rfl, Lib.hid rfl⟩
  case round =>
    obtain ⟨k, hk, hk8, rfl, rfl, hall⟩ := hrel
    have hlen : s.data.toList.length = s.size := lenL s
    have hN := hval_lt (s.data.toList.take k)
    have e8 : (16 : Nat) ^ 8 = 4294967296 := by decide
    have hN2 : (16 : Nat) ^ (s.data.toList.take k).length ≤ 16 ^ 8 := Nat.pow_le_pow_right (by omega) (by rw [List.length_take]; omega)
    have hN3 : (hval (s.data.toList.take k) : Int) ≤ 4294967295 := by omega
    have hN0 : (0 : Int) ≤ (hval (s.data.toList.take k) : Int) := by omega
    clear hN hN2 e8
    have HL := Lib.hid hlen
    clear hlen
    have hk8' : (k : Int) ≤ 8 := by omega
    by_cases hlt : k < s.size
    · obtain ⟨D, hD⟩ : ∃ D, Hid (hv s[k] = D) := ⟨_, Lib.hid rfl⟩
      have hD0 : -1 ≤ D := by rw [← hD.out]; exact hv_ge _
      have hD1 : D ≤ 15 := by rw [← hD.out]; exact hv_le _
      have hkl : Hid (s.data.toList[k]'(by rw [HL.out]; exact hlt) = s[k]) := Lib.hid rfl
      by_cases hd : D < 0
      · have hbad : Hid (readN s.data.toList = (0, false)) := Lib.hid (readN_bad (k := k) (by rw [HL.out]; exact hlt) (by rw [hkl.out, hD.out]; exact hd))
        go_wp2_with (go_at_call 124; go_loud (refine (Tryd.strings_IndexByte _ _ _).mono ?_; rintro e w1 ⟨rfl, rfl⟩; rw [show Lib.indexByte _ _ = D from by rw [← hD.out]; simp [hv, hexList]]))
        exact bodyPost_ret (v := .tuple #[.float .f32 0, .bool false]) (by simp [results, Tryd.results83, go_sem]) rfl ⟨by rw [hbad.out], rfl⟩
      · by_cases h8 : k = 8
        · have hbad : Hid (readN s.data.toList = (0, false)) := Lib.hid (readN_long (by rw [HL.out]; omega))
          subst h8
          go_wp2_with (go_at_call 124; go_loud (refine (Tryd.strings_IndexByte _ _ _).mono ?_; rintro e w1 ⟨rfl, rfl⟩; rw [show Lib.indexByte _ _ = D from by rw [← hD.out]; simp [hv, hexList]]))
          exact bodyPost_ret (v := .tuple #[.float .f32 0, .bool false]) (by simp [results, Tryd.results83, go_sem]) rfl ⟨by rw [hbad.out], rfl⟩
        · have h8' : ¬ (k : Int) = 8 := by omega
          have hno : (decide (D < 0) || ((k : Int) == 8)) = false := by simp; omega
          have hnext : Hid (hval (s.data.toList.take (k + 1)) = hval (s.data.toList.take k) * 16 + D.toNat ∧ (s.data.toList.take (k + 1)).all (fun c => 0 ≤ hv c) = true) := Lib.hid (by
            rw [take_next _ _ (by rw [HL.out]; exact hlt), hval_snoc, List.all_append, hall.out, hkl.out, hD.out]
            refine ⟨rfl, ?_⟩
            simp [hD.out]
            omega)
          go_wp2_with (go_at_call 124; go_loud (refine (Tryd.strings_IndexByte _ _ _).mono ?_; rintro e w1 ⟨rfl, rfl⟩; rw [show Lib.indexByte _ _ = D from by rw [← hD.out]; simp [hv, hexList]]))
          case roundEnd => exact ⟨⟨k + 1, by omega, by omega, by simp, by rw [hnext.out.1]; congr 1; omega, Lib.hid hnext.out.2⟩, by simp [intOf]; omega⟩
    · obtain ⟨N, hNN⟩ : ∃ N, hval (s.data.toList.take k) = N := ⟨_, rfl⟩
      have hk1 : k = s.size := by omega
      subst hk1
      have htk : s.data.toList.take s.size = s.data.toList := List.take_of_length_le (by rw [HL.out]; exact Nat.le_refl _)
      rw [htk] at hNN hall
      have hr : readN s.data.toList = (N, s.size == 8 && bitsOf N == N) := by
        rw [readN_good (by rw [HL.out]; exact hk8) hall.out, hNN, HL.out]
      rw [htk] at hN3 hN0 ⊢
      rw [hNN] at hN3 hN0 ⊢
      have HR := Lib.hid hr
      have h32 : Hid (W32 N) := Lib.hid (by unfold W32; omega)
      clear hall hNN hr htk
      have h8c : Hid (bitsOf N = bitsOf N) := Lib.hid rfl
      clear h8c
      by_cases h8 : (s.size : Int) = 8
      · have h8b : Hid ((s.size == 8) = true) := Lib.hid (by simp; omega)
        generalize hB : bitsOf N = B
        have HBB := Lib.hid hB
        clear hB
        by_cases he : (B : Int) = (N : Int)
        · have heb : Hid ((B == N) = true) := Lib.hid (by simp; omega)
          go_wp2_with (first | (go_at_call 41; refine (fromBits_c _ h32.out _).mono ?_; rintro e w1 ⟨rfl, rfl⟩) | (go_at_call 42; refine (bitsOf_c _ h32.out _).mono ?_; rintro e w1 ⟨rfl, rfl⟩; rw [HBB.out]))
          exact bodyPost_ret (v := .tuple #[.float .f32 N, .bool true]) (by simp [results, Tryd.results83, go_sem]) rfl ⟨by rw [HR.out, h8b.out, HBB.out, heb.out]; rfl, rfl⟩
        · have heb : Hid ((B == N) = false) := Lib.hid (by simp; omega)
          go_wp2_with (first | (go_at_call 41; refine (fromBits_c _ h32.out _).mono ?_; rintro e w1 ⟨rfl, rfl⟩) | (go_at_call 42; refine (bitsOf_c _ h32.out _).mono ?_; rintro e w1 ⟨rfl, rfl⟩; rw [HBB.out]))
          exact bodyPost_ret (v := .tuple #[.float .f32 N, .bool false]) (by simp [results, Tryd.results83, go_sem, *]) rfl ⟨by rw [HR.out, h8b.out, HBB.out, heb.out]; rfl, rfl⟩
      · have h8b : Hid ((s.size == 8) = false) := Lib.hid (by simp; omega)
        go_wp2_with (first | (go_at_call 41; refine (fromBits_c _ h32.out _).mono ?_; rintro e w1 ⟨rfl, rfl⟩) | (go_at_call 42; refine (bitsOf_c _ h32.out _).mono ?_; rintro e w1 ⟨rfl, rfl⟩))
        exact bodyPost_ret (v := .tuple #[.float .f32 N, .bool false]) (by simp [results, Tryd.results83, go_sem, *]) rfl ⟨by rw [HR.out, h8b.out]; rfl, rfl⟩
end Go.Proofs.YtglnfccglgladaaDoor
