/-
  A list of numbers read from a text: the walk.
-/
import Derived.Test.YtglnfccglgladaaDoorRead4
namespace Go.Proofs.YtglnfccglgladaaDoor
open Go.RowKit
set_option linter.unusedVariables false

theorem readNs_bad {ps : List ByteArray} {k : Nat} (h : k < ps.length) (hd : (readN ps[k].data.toList).2 = false) : readNs ps = none := by
  have : ¬ ps.all (fun p => (readN p.data.toList).2) = true := by
    intro h'
    have := List.all_eq_true.1 h' ps[k] (List.getElem_mem h)
    rw [hd] at this
    exact absurd this (by decide)
  unfold readNs
  rw [if_neg (fun h => this h.1)]
theorem readNs_long {ps : List ByteArray} (h : 256 < ps.length) : readNs ps = none := by
  unfold readNs
  rw [if_neg (fun h' => by omega)]
theorem readNs_good {ps : List ByteArray} (h : ps.length ≤ 256) (ha : ps.all (fun p => (readN p.data.toList).2) = true) : readNs ps = some (ps.map fun p => (readN p.data.toList).1) := if_pos ⟨ha, h⟩
theorem extract_small (s : ByteArray) (a b : Nat) : (s.extract a b).size ≤ s.size := by
  rw [ByteArray.size_extract]; omega
theorem splitB_small (sep : ByteArray) : ∀ (k : Nat) (s p : ByteArray), p ∈ Lib.splitB sep 0 k s → p.size ≤ s.size
  | 0, s, p, h => by simp [Lib.splitB] at h; subst h; exact Nat.le_refl _
  | k + 1, s, p, h => by
    unfold Lib.splitB at h
    split at h
    · simp at h; subst h; exact Nat.le_refl _
    · rcases List.mem_cons.1 h with rfl | h
      · exact extract_small _ _ _
      · exact Nat.le_trans (splitB_small sep k _ p h) (extract_small _ _ _)
theorem take_next' {α : Type} (l : List α) (k : Nat) (h : k < l.length) : l.take (k + 1) = l.take k ++ [l[k]] := by
  rw [List.take_add_one, List.getElem?_eq_getElem h]; rfl
/-- What ReadNumbers answers of parts ps. -/
def ReadsTo (w w' : World) (r : Option (List Nat)) (e : Ending) : Prop :=
  match r with
  | none => e = .returned (.tuple #[.slice none 0 0, .bool false])
  | some xs => ∃ v, e = .returned (.tuple #[v, .bool true]) ∧ Own w w' 24 v (xs.map fun x => .float .f32 x)

set_option maxRecDepth 100000 in
set_option maxHeartbeats 4000000 in
theorem readNumbers_some {s : ByteArray} (h : s ≠ noneB) (hs : s.size < 4294967281) {w : World} (hm : MaxLen w) :
    Calls Tryd.prog 53 #[.string s] w fun e w' => ReadsTo w w' (readNs (partsOf s)) e ∧ Below w.heap.size w w' := by
  obtain ⟨ps, hps⟩ : ∃ ps, Lib.splitB ⟨#[44]⟩ 0 (Lib.countB s ⟨#[44]⟩) s = ps := ⟨_, rfl⟩
  have hpo : partsOf s = ps := by rw [partsOf, if_neg h, hps]
  have hlen : ps.length = Lib.countB s ⟨#[44]⟩ + 1 := by rw [← hps, splitB_len]
  have hsm : ∀ p ∈ ps, p.size ≤ 4294967296 := fun p hp => by rw [← hps] at hp; have := splitB_small _ _ _ _ hp; omega
  have J := fun w hm => parted_some (w := w) h hs hm
  rw [hps, ← hlen] at J
  have hn : ps.length ≤ 4294967300 := by
    have := Lib.count_le s.data.toList [44]
    rw [hlen]
    have e : s.data.toList.length = s.size := lenL s
    show Lib.count _ _ + 1 ≤ _
    simp only [] at this ⊢
    omega
  rw [hpo]
  clear hpo hlen hps
  generalize hl : ps.length = n at J hn
  have hn0 : (0 : Int) ≤ n := by omega
  have hn1 : (n : Int) ≤ 4294967300 := by omega
  have HL := Lib.hid hl
  have HS := Lib.hid hsm
  have HJ := Lib.hid J
  clear hl hsm J
  go_enter Tryd.func53, Tryd.ntmps53
  go_wp2_with (go_at_call 82; refine (HJ.out _ (hm.after (below1 w _))).mono ?_; rintro e w1 ⟨rfl, rfl⟩)
  have H0 := Lib.hid (Own.alloc (Own.lit (e := 24) (Below.refl w.heap.size w) #[] 0 (by omega) rfl) (.cells (ps.map Value.string).toArray 9))
  have G0 := Lib.hid (heap_alloc_new (w.alloc (.cells #[] 24)) (.cells (ps.map Value.string).toArray 9))
  rw [World.size_alloc] at G0
  go_loopw [4, 13] (fun v i wr => ∃ k : Nat, k ≤ n ∧ i = .int .i64 k ∧ k ≤ 256 ∧ Hid (Own w wr 24 v ((ps.take k).map fun p => .float .f32 (readN p.data.toList).1)) ∧ Hid (wr.heap[w.heap.size + 1]? = some (.cells (ps.map Value.string).toArray 9 (0, 0))) ∧ Hid ((ps.take k).all (fun p => (readN p.data.toList).2) = true))
    (fun _ i _ => n - (intOf i).toNat)
  case atStart => exact ⟨0, Nat.zero_le _, rfl, by omega, H0, G0, Lib.hid rfl⟩
  case round =>
    obtain ⟨k, hk, rfl, hk2, hown, hg, hall⟩ := hrel
    clear H0 G0
    have hkl : (((ps.take k).map fun p => Value.float .f32 (readN p.data.toList).1)).length = k := by rw [List.length_map, List.length_take, HL.out]; omega
    obtain ⟨va, vc, hv⟩ := hown.out.len
    rw [hkl] at hv
    subst hv
    have HK := Lib.hid hkl
    clear hkl
    have hk2' : (k : Int) ≤ 256 := by omega
    by_cases hlt : k < n
    · have hkx : k < ps.length := by rw [HL.out]; exact hlt
      obtain ⟨p, hp⟩ : ∃ p, ps[k] = p := ⟨_, rfl⟩
      have hcx : wr.cell? ⟨w.heap.size + 1, k, none⟩ = some (.string p) := by
        simp only [World.cell?, hg.out]
        simp [List.getElem?_eq_getElem hkx, hp]
      have hpm : Hid (p.size ≤ 4294967296) := Lib.hid (HS.out p (by rw [← hp]; exact List.getElem_mem hkx))
      obtain ⟨x, ok, hr⟩ : ∃ x ok, readN p.data.toList = (x, ok) := ⟨_, _, rfl⟩
      have HR := Lib.hid hr
      clear hr
      cases ok with
      | false =>
        have hbad : Hid (readNs ps = none) := Lib.hid (readNs_bad hkx (by rw [hp, HR.out]))
        have HP := Lib.hid hp
        clear hp
        go_wp2_with (go_at_call 83; refine (readNumber_c p hpm.out _).mono ?_; rintro e w1 ⟨rfl, rfl⟩; rw [HR.out])
        exact bodyPost_ret (v := .tuple #[.slice none 0 0, .bool false]) (by simp [results, Tryd.results53, go_sem]) rfl ⟨by rw [hbad.out]; rfl, hown.out.bel⟩
      | true =>
        by_cases h256 : k = 256
        · subst h256
          have hbad : Hid (readNs ps = none) := Lib.hid (readNs_long (by rw [HL.out]; exact hlt))
          have HP := Lib.hid hp
          clear hp
          go_wp2_with (go_at_call 83; refine (readNumber_c p hpm.out _).mono ?_; rintro e w1 ⟨rfl, rfl⟩; rw [HR.out])
          exact bodyPost_ret (v := .tuple #[.slice none 0 0, .bool false]) (by simp [results, Tryd.results53, go_sem]) rfl ⟨by rw [hbad.out]; rfl, hown.out.bel⟩
        · have hno : ((k : Int) == 256) = false := by simp; omega
          have hnext : Hid ((ps.take (k + 1)).map (fun p => Value.float .f32 (readN p.data.toList).1) = (ps.take k).map (fun p => Value.float .f32 (readN p.data.toList).1) ++ [.float .f32 x] ∧ (ps.take (k + 1)).all (fun p => (readN p.data.toList).2) = true) := Lib.hid (by
            rw [take_next' _ _ hkx, hp, List.map_append, List.all_append, hall.out]
            simp [HR.out])
          have HP := Lib.hid hp
          clear hp
          go_wp2_with (first
            | (go_at_call 83; refine (readNumber_c p hpm.out _).mono ?_; rintro e w1 ⟨rfl, rfl⟩; rw [HR.out])
            | (at_builtin; go_loud (refine app_one rfl (.tmp 29) (.tmp 31) 71 24 (.float .f32 0) 4 rfl Tryd.underlying71 info_f32 rfl rfl rfl (by simp) rfl hown.out (by rw [HK.out]; omega) (by omega) ?_; intro v1 w2 H1 hgr)))
          rw [← hnext.out.1] at H1
          have H2 := Lib.hid H1
          have hg2 := Lib.hid (gheap' hgr hg.out (hown.out.apart hg.out (by decide)))
          clear H1 hgr hg hown hcx
          go_wp2
          go_roundw
          case rel => exact ⟨k + 1, by omega, by simp, by omega, H2, hg2, Lib.hid hnext.out.2⟩
          case measure => simp [intOf]; omega
    · have htk : ps.take k = ps := List.take_of_length_le (by rw [HL.out]; omega)
      rw [htk] at hown hall
      have hr : Hid (readNs ps = some (ps.map fun p => (readN p.data.toList).1)) := Lib.hid (readNs_good (by rw [HL.out]; omega) hall.out)
      go_wp2
      exact bodyPost_ret (v := .tuple #[.slice va k vc, .bool true]) (by simp [results, Tryd.results53, go_sem]) rfl ⟨by rw [hr.out]; exact ⟨_, rfl, by rw [List.map_map]; exact hown.out⟩, hown.out.bel⟩
end Go.Proofs.YtglnfccglgladaaDoor
