/-
  A list of complex numbers read back from its text: the walk.
-/
import Derived.Test.YtglnfccglgladaaDoorCxRead
namespace Go.Proofs.YtglnfccglgladaaDoor
open Go.RowKit
set_option linter.unusedVariables false

set_option maxRecDepth 100000 in
set_option maxHeartbeats 4000000 in
theorem readComplex_some {xs : List (Nat × Nat)} (h : xs ≠ []) (h32 : ∀ x ∈ xs, Cx32 x) (hl : xs.length ≤ 256) {w : World} (hm : MaxLen w) :
    Calls Tryd.prog 39 #[.string (cxText xs)] w fun e w' => (∃ v, e = .returned (.tuple #[v, .bool true]) ∧ Own w w' 46 v (xs.map cxB)) ∧ Below w.heap.size w w' := by
  have J := fun w hm => parted_some (w := w) (cxText_ne h) (by have := cxText_size h; omega) hm
  rw [(cxText_parts h).1, (cxText_parts h).2] at J
  have hxs : (cxTexts xs).length = xs.length := by simp [cxTexts]
  generalize hn : xs.length = n at J hl
  have hn0 : (0 : Int) ≤ n := by omega
  have hn1 : (n : Int) ≤ 256 := by omega
  have HL := Lib.hid hn
  have H32 := Lib.hid h32
  have HJ := Lib.hid J
  clear hn J h hxs h32
  generalize cxText xs = T at HJ
  go_enter Tryd.func39, Tryd.ntmps39
  go_wp2_with (go_at_call 82; refine (HJ.out _ (hm.after (below1 w _))).mono ?_; rintro e w1 ⟨rfl, rfl⟩)
  have H0 := Lib.hid (Own.alloc (Own.lit (e := 46) (Below.refl w.heap.size w) #[] 0 (by omega) rfl) (.cells ((cxTexts xs).map Value.string).toArray 9))
  have G0 := Lib.hid (heap_alloc_new (w.alloc (.cells #[] 46)) (.cells ((cxTexts xs).map Value.string).toArray 9))
  rw [World.size_alloc] at G0
  go_loopw [4, 15] (fun v i wr => ∃ k : Nat, k ≤ n ∧ i = .int .i64 k ∧ Hid (Own w wr 46 v ((xs.take k).map cxB)) ∧ Hid (wr.heap[w.heap.size + 1]? = some (.cells ((cxTexts xs).map Value.string).toArray 9 (0, 0))))
    (fun _ i _ => n - (intOf i).toNat)
  case atStart => exact ⟨0, Nat.zero_le _, rfl, H0, G0⟩
  case round =>
    obtain ⟨k, hk, rfl, hown, hg⟩ := hrel
    clear H0 G0
    have hkl : ((xs.take k).map cxB).length = k := by rw [List.length_map, List.length_take, HL.out]; omega
    obtain ⟨va, vc, hv⟩ := hown.out.len
    rw [hkl] at hv
    subst hv
    have HK := Lib.hid hkl
    clear hkl
    by_cases hlt : k < n
    · have hkx : k < xs.length := by rw [HL.out]; exact hlt
      obtain ⟨⟨x, y⟩, hx⟩ : ∃ p, xs[k] = p := ⟨_, rfl⟩
      obtain ⟨p, hp⟩ : ∃ p, cxT (x, y) = p := ⟨_, rfl⟩
      have hcx : wr.cell? ⟨w.heap.size + 1, k, none⟩ = some (.string p) := by
        simp only [World.cell?, hg.out]
        simp [cxTexts, List.getElem?_eq_getElem hkx, hx, hp]
      have hp16 : p.size = 16 := by rw [← hp]; exact cxT_size _
      have hno : ((k : Int) == 256) = false := by simp; omega
      have hW := H32.out _ (List.getElem_mem hkx)
      rw [hx] at hW
      have R1 : Hid (readN (p.extract 0 8).data.toList = (bitsOf x, true)) := Lib.hid (by rw [← hp, cxT_left]; exact readN_hex8 hW.1)
      have R2 : Hid (readN (p.extract 8 16).data.toList = (bitsOf y, true)) := Lib.hid (by rw [← hp, cxT_right]; exact readN_hex8 hW.2)
      have Z1 : Hid ((p.extract 0 8).size ≤ 4294967296) := Lib.hid (by have := extract_small p 0 8; omega)
      have Z2 : Hid ((p.extract 8 16).size ≤ 4294967296) := Lib.hid (by have := extract_small p 8 16; omega)
      have hnext : Hid ((xs.take (k + 1)).map cxB = (xs.take k).map cxB ++ [.complex .f32 (bitsOf x) (bitsOf y)]) := Lib.hid (by
        rw [take_next' _ _ hkx, hx, List.map_append]
        rfl)
      have HX := Lib.hid hx
      have HP := Lib.hid hp
      clear hx hp hW
      go_wp2_with (first
        | (go_at_call 83; first
          | (with_reducible refine (readNumber_c (p.extract 0 8) Z1.out _).mono ?_; rintro e w1 ⟨rfl, rfl⟩; rw [R1.out])
          | (with_reducible refine (readNumber_c (p.extract 8 16) Z2.out _).mono ?_; rintro e w1 ⟨rfl, rfl⟩; rw [R2.out]))
        | (at_builtin; go_loud (refine app_one rfl (.tmp 45) (.tmp 49) 47 46 (.complex .f32 0 0) 8 rfl Tryd.underlying47 info_c64 rfl rfl rfl (by simp) rfl hown.out (by rw [HK.out]; omega) (by omega) ?_; intro v1 w2 H1 hgr)))
      rw [← hnext.out] at H1
      have H2 := Lib.hid H1
      have hg2 := Lib.hid (gheap' hgr hg.out (hown.out.apart hg.out (by decide)))
      clear H1 hgr hg hown hcx
      go_wp2
      go_roundw
      case rel => exact ⟨k + 1, by omega, by simp, H2, hg2⟩
      case measure => simp [intOf]; omega
    · have htk : xs.take k = xs := List.take_of_length_le (by rw [HL.out]; omega)
      rw [htk] at hown
      go_wp2
      exact bodyPost_ret (v := .tuple #[.slice va k vc, .bool true]) (by simp [results, Tryd.results39, go_sem]) rfl ⟨⟨_, rfl, hown.out⟩, hown.out.bel⟩
end Go.Proofs.YtglnfccglgladaaDoor
