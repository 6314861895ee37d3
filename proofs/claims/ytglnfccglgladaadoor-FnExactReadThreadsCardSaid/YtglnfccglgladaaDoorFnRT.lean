/-
  The law of lists of threads read from texts: the walk.
-/
import Derived.Test.YtglnfccglgladaaDoorMark
namespace Go.Proofs.YtglnfccglgladaaDoor
open Go.RowKit
set_option linter.unusedVariables false

theorem readN_w32 (l : List UInt8) : W32 (readN l).1 := by
  unfold readN W32
  split
  · rename_i h
    have h1 := hval_lt l
    have h2 : (16 : Nat) ^ l.length ≤ 16 ^ 8 := Nat.pow_le_pow_right (by omega) h.1
    have e8 : (16 : Nat) ^ 8 = 4294967296 := by decide
    show hval l < 4294967296
    omega
  · exact (by decide : (0 : Nat) < 4294967296)
theorem readNs_w32 {ps : List ByteArray} {xs : List Nat} (h : readNs ps = some xs) : ∀ x ∈ xs, W32 x := by
  unfold readNs at h
  split at h
  · cases h
    intro x hx
    obtain ⟨p, _, rfl⟩ := List.mem_map.1 hx
    exact readN_w32 _
  · cases h
theorem vecOf_w32 {s : ByteArray} {p : V3} (h : vecOf s = some p) : V32 p := by
  unfold vecOf vecL at h
  split at h
  · rename_i a b c he
    cases h
    have := readNs_w32 he
    exact ⟨this a (by simp), this b (by simp), this c (by simp)⟩
  · cases h
theorem numOf_w32 {s : ByteArray} {x : Nat} (h : numOf s = some x) : W32 x := by
  unfold numOf numL at h
  split at h
  · rename_i a he
    cases h
    exact readNs_w32 he _ (by simp)
  · cases h
theorem vecsOf_w32 {ps : List ByteArray} {vs : List V3} (h : vecsOf ps = some vs) : ∀ p ∈ vs, V32 p := by
  unfold vecsOf at h
  split at h
  · rename_i ha
    cases h
    intro p hp
    obtain ⟨q, hq, rfl⟩ := List.mem_map.1 hp
    obtain ⟨v, hv⟩ := Option.isSome_iff_exists.1 (List.all_eq_true.1 ha q hq)
    rw [hv]
    exact vecOf_w32 hv
  · cases h
theorem thrOf_w32 {s : ByteArray} {t : Thr} (h : thrOf s = some t) : T32 t := by
  unfold thrOf at h
  split at h
  · unfold mkThr at h
    split at h
    · rename_i x vs hn hv
      split at h
      · cases h
        exact ⟨vecsOf_w32 hv, numOf_w32 hn⟩
      · cases h
    · cases h
  · cases h
theorem thrB_len {t : Thr} (h : thrB t = true) : t.1.length ≤ 32 := by
  unfold thrB at h
  simp at h
  omega
theorem thrsOf_good {s : ByteArray} {ts : List Thr} (h : thrsOf s = some ts) : ts.length ≤ 4 ∧ ∀ t ∈ ts, thrB t = true ∧ T32 t := by
  unfold thrsOf at h
  split at h
  · cases h
    exact ⟨by simp, fun t ht => by cases ht⟩
  · split at h
    · rename_i hc
      cases h
      refine ⟨by simpa using hc.1, fun t ht => ?_⟩
      obtain ⟨p, hp, rfl⟩ := List.mem_map.1 ht
      obtain ⟨t, ht⟩ := Option.isSome_iff_exists.1 (List.all_eq_true.1 hc.2 p hp)
      rw [ht]
      exact ⟨thrOf_valid ht, thrOf_w32 ht⟩
    · cases h

/-- A list of threads, or the empty one, in memory from B on. -/
def LMem (W : World) (B : Nat) (v : Value) (ms : List TM) : Prop :=
  (ms = [] ∧ ∃ a c, v = .slice a 0 c) ∨ (0 < ms.length ∧ ∃ g0 c, v = .slice (some ⟨g0, 0, none⟩) ms.length c ∧ TBlk W g0 ms ∧ B ≤ g0 ∧ ∀ m ∈ ms, B ≤ m.1)
theorem LMem.after {W W' : World} {B : Nat} {v : Value} {ms : List TM} (h : LMem W B v ms) (k : Below W.heap.size W W') : LMem W' B v ms := by
  rcases h with h | ⟨h0, g0, c, e, hb, h1, h2⟩
  · exact Or.inl h
  · exact Or.inr ⟨h0, g0, c, e, hb.after k, h1, h2⟩
theorem LMem.mem {W : World} {B : Nat} {v : Value} {ms : List TM} (h : LMem W B v ms) : TMem W v ms := by
  rcases h with ⟨rfl, a, c, rfl⟩ | ⟨h0, g0, c, rfl, hb, h1, h2⟩
  · exact ⟨⟨a, c, rfl, fun h => absurd h (by decide)⟩, fun m hm => (by cases hm), List.Pairwise.nil⟩
  · obtain ⟨cur, hcur, hc⟩ := hb.blk
    exact ⟨⟨_, c, rfl, fun _ => ⟨g0, cur, rfl, hcur, hc⟩⟩, hb.pts, List.pairwise_map.1 hb.apart⟩
theorem ThrList.lmem {w0 W : World} {v : Value} {ms : List TM} (h : ThrList w0 W v ms) : LMem W w0.heap.size v ms := by
  by_cases h0 : 0 < ms.length
  · obtain ⟨g, c, cur, he, hb, hc, hg, _⟩ := h.own.block h0
    exact Or.inr ⟨h0, g, c, he, ⟨⟨cur, hb, hc⟩, fun m hm => (h.pts m hm).1, List.pairwise_map.2 h.apart⟩, hg, fun m hm => (h.pts m hm).2.1⟩
  · have e : ms = [] := List.length_eq_zero_iff.1 (by omega)
    subst e
    obtain ⟨a, c, he⟩ := h.own.len
    exact Or.inl ⟨rfl, a, c, he⟩

theorem mark_nil (a : Option Addr) (c k : Nat) (w : World) : Calls Tryd.prog 27 #[.slice a 0 c, .int .i64 k] w fun e w' => e = .returned (.int .i64 k) ∧ w = w' := by
  go_enter Tryd.func27, Tryd.ntmps27
  go_wp2
  refine wp_loop_rounds 1 ?_
  rw [rounds_succ]
  go_wp2
  go_ret
  exact ⟨rfl, rfl⟩
theorem held_nil (a : Option Addr) (c k : Nat) (w : World) : Calls Tryd.prog 28 #[.slice a 0 c, .int .i64 k] w fun e w' => e = .returned (.int .i64 k) ∧ w = w' := by
  go_enter Tryd.func28, Tryd.ntmps28
  go_wp2
  refine wp_loop_rounds 1 ?_
  rw [rounds_succ]
  go_wp2
  go_ret
  exact ⟨rfl, rfl⟩
theorem mark_any {w : World} {B : Nat} {v : Value} {ms : List TM} (h : LMem w B v ms) (hl : ms.length ≤ 4) (hv : ∀ m ∈ ms, m.2.2.1.length ≤ 32) :
    Calls Tryd.prog 27 #[v, .int .i64 1] w fun e w' => e = .returned (.int .i64 (markEnd 1 ms : Nat)) ∧ LMem w' B v (markT 1 ms) ∧ Below B w w' := by
  rcases h with ⟨rfl, a, c, rfl⟩ | ⟨h0, g0, c, rfl, hb, h1, h2⟩
  · refine (mark_nil a c 1 w).mono ?_
    rintro e w' ⟨rfl, rfl⟩
    exact ⟨rfl, Or.inl ⟨rfl, a, c, rfl⟩, Below.refl _ _⟩
  · refine (markThreadS_c (k := 1) (c := c) hb hl hv (by omega) h1 h2).mono ?_
    rintro e w' ⟨rfl, h3, h4⟩
    refine ⟨rfl, Or.inr ⟨by rw [markT_len]; exact h0, g0, c, by rw [markT_len], h3, h1, ?_⟩, h4⟩
    intro m hm
    obtain ⟨j, hj, rfl⟩ := List.getElem_of_mem hm
    have hj' : j < ms.length := by rw [markT_len] at hj; exact hj
    have := markT_at 1 ms j ms[j] (List.getElem?_eq_getElem hj')
    rw [List.getElem?_eq_getElem hj] at this
    rw [Option.some.inj this]
    exact h2 ms[j] (List.getElem_mem hj')
theorem held_any {w : World} {B : Nat} {v : Value} {ms : List TM} (h : LMem w B v (markT 1 ms)) (hl : ms.length ≤ 4) (hv : ∀ m ∈ ms, m.2.2.1.length ≤ 32) :
    Calls Tryd.prog 28 #[v, .int .i64 1] w fun e w' => e = .returned (.int .i64 (markEnd 1 ms : Nat)) ∧ w = w' := by
  rcases h with ⟨he, a, c, rfl⟩ | ⟨h0, g0, c, rfl, hb, h1, h2⟩
  · have : ms = [] := by
      have := congrArg List.length he
      rw [markT_len] at this
      exact List.length_eq_zero_iff.1 this
    subst this
    exact held_nil a c 1 w
  · rw [markT_len]
    exact heldThreadS_c (k := 1) hb hl hv (by decide)

/-- What a reader gives, whatever the text. -/
def ReadsG (w w' : World) (s : ByteArray) (e : Ending) : Prop := ∃ v ms, e = .returned (.tuple #[v, .bool (thrsOf s).isSome]) ∧ LMem w' w.heap.size v ms ∧ ms.map (·.2.2) = (thrsOf s).getD []
theorem readsG_of {w w' : World} {s : ByteArray} {e : Ending} (h : ReadsTs w w' (thrsOf s) e) : ReadsG w w' s e := by
  unfold ReadsTs at h
  unfold ReadsG
  split at h
  · rename_i hn
    exact ⟨_, [], by rw [hn]; exact h, Or.inl ⟨rfl, _, _, rfl⟩, by rw [hn]; rfl⟩
  · rename_i ts hn
    obtain ⟨v, ms, he, hl, hm⟩ := h
    exact ⟨v, ms, by rw [hn]; exact he, hl.lmem, by rw [hn]; exact hm⟩
theorem readThreadsG {s : ByteArray} (hs : s.size ≤ 100000000) {w : World} (hm : MaxLen w) : Calls Tryd.prog 25 #[.string s] w fun e w' => ReadsG w w' s e ∧ Below w.heap.size w w' := by
  by_cases h : s = noneB
  · subst h
    exact (readThreads_none w).mono fun e w' h => ⟨readsG_of h.1, h.2⟩
  · exact (readThreads_c h hs hm).mono fun e w' h => ⟨readsG_of h.1, h.2⟩
theorem specThreadsG {s : ByteArray} (hs : s.size ≤ 100000000) {w : World} : Calls Tryd.prog 24 #[.string s] w fun e w' => ReadsG w w' s e ∧ Below w.heap.size w w' := by
  have k : Calls Tryd.prog 68 #[.string s] w fun e w' => ReadsG w w' s e ∧ Below w.heap.size w w' := by
    by_cases h : s = noneB
    · subst h
      exact (specThreads_none w).mono fun e w' h => ⟨readsG_of h.1, h.2⟩
    · exact (specThreads_c h hs).mono fun e w' h => ⟨readsG_of h.1, h.2⟩
  have K := Lib.hid k
  clear k
  go_enter Tryd.func24, Tryd.ntmps24
  go_wp2_with fail
  refine K.out.mono ?_
  rintro e w' ⟨⟨v, ms, rfl, h1, h2⟩, hw⟩
  have H1 := Lib.hid h1
  have H2 := Lib.hid h2
  have HW := Lib.hid hw
  clear K h1 h2 hw
  generalize hb : (thrsOf s).isSome = b at *
  have HB := Lib.hid hb
  clear hb
  go_wp2
  exact bodyPost_ret (v := .tuple #[v, .bool b]) (by simp [results, Tryd.results24, go_sem]) rfl ⟨⟨v, ms, by rw [HB.out], H1.out, H2.out⟩, HW.out⟩

set_option maxRecDepth 100000 in
set_option maxHeartbeats 8000000 in
theorem fnRT_c {s : ByteArray} {w : World} (hm : MaxLen w) :
    Calls Tryd.prog 4 #[.string s] w fun e w' => e = .returned (.bool true) ∧ Below w.heap.size w w' := by
  by_cases hlong : 1048576 < s.size
  · have hl : (1048576 : Int) < s.size := by omega
    clear hlong
    go_enter Tryd.func4, Tryd.ntmps4
    go_wp2
    go_ret
    exact ⟨rfl, Below.refl _ _⟩
  · have hs : s.size ≤ 100000000 := by omega
    have hl : ¬ (1048576 : Int) < s.size := by omega
    have HM := Lib.hid hm
    have S := Lib.hid (fun w => specThreadsG hs (w := w))
    have I := Lib.hid (fun w hm => readThreadsG hs (w := w) hm)
    have hgood : ((thrsOf s).getD []).length ≤ 4 ∧ ∀ t ∈ (thrsOf s).getD [], thrB t = true ∧ T32 t := by
      cases h : thrsOf s with
      | none => exact ⟨by simp, fun t ht => by cases ht⟩
      | some ts => exact thrsOf_good h
    unfold ReadsG at S I
    generalize (thrsOf s).getD [] = ts at *
    generalize (thrsOf s).isSome = b at *
    have HG := Lib.hid hgood
    clear hm hs hlong hgood
    go_enter Tryd.func4, Tryd.ntmps4
    go_wp2_with fail
    refine (S.out _).mono ?_
    rintro e w1 ⟨⟨v0, m0, rfl, hl0, hm0⟩, hw1⟩
    have D1 := Lib.hid hw1
    have L0 := Lib.hid hl0
    have M0 := Lib.hid hm0
    clear hw1 hl0 hm0 S
    go_wp2_with fail
    refine (I.out _ (HM.out.after D1.out)).mono ?_
    rintro e w2 ⟨⟨v1, m1, rfl, hl1, hm1⟩, hw2⟩
    have len1 : m1.length ≤ 4 := by
      have h1 := congrArg List.length hm1
      rw [List.length_map] at h1
      rw [h1]
      exact HG.out.1
    have val1 : ∀ m ∈ m1, thrB m.2.2 = true ∧ T32 m.2.2 := fun m hm => HG.out.2 _ (by rw [← hm1]; exact List.mem_map_of_mem hm)
    have L1 := Lib.hid hl1
    have M1 := Lib.hid hm1
    have N1 := Lib.hid len1
    have V1 := Lib.hid val1
    have E1 := Lib.hid (show Below w1.heap.size w1 w2 from hw2)
    clear hw2 hl1 hm1 len1 val1
    have Q1 := Lib.hid (eqThreadS_c (L1.out.mem) ((L0.out.after E1.out).mem) (by rw [M1.out, M0.out]) V1.out (Nat.le_trans N1.out (by omega)))
    go_wp2_with fail
    refine Q1.out.mono ?_
    rintro e w3 ⟨rfl, hw3⟩
    have L3 := Lib.hid (L1.out.after hw3)
    have E3 := Lib.hid (bthen E1.out hw3)
    clear hw3 L1 E1 Q1
    have K3 := Lib.hid (mark_any L3.out N1.out (fun m hm => thrB_len (V1.out m hm).1))
    go_upto_region 8 with fail
    go_wp2_with fail
    refine K3.out.mono ?_
    rintro e w4 ⟨rfl, hl4, hw4⟩
    have L4 := Lib.hid hl4
    have E4 := Lib.hid (Below.trans E3.out hw4)
    clear hl4 hw4 L3 E3 K3
    have K4 := Lib.hid (fun w (h : LMem w w1.heap.size v1 (markT 1 m1)) => held_any h N1.out (fun m hm => thrB_len (V1.out m hm).1))
    generalize markEnd 1 m1 = E at *
    have hE0 : (0 : Int) ≤ E := by omega
    go_wp2_with fail
    refine (K4.out _ L4.out).mono ?_
    rintro e w5 ⟨rfl, rfl⟩
    go_wp2_with fail
    refine (I.out _ (HM.out.after (bthen D1.out E4.out))).mono ?_
    rintro e w6 ⟨⟨v6, m6, rfl, hl6, hm6⟩, hw6⟩
    have val6 : ∀ m ∈ m6, thrB m.2.2 = true ∧ T32 m.2.2 := fun m hm => HG.out.2 _ (by rw [← hm6]; exact List.mem_map_of_mem hm)
    have len6 : m6.length ≤ 1000000 := by
      have h1 := congrArg List.length hm6
      rw [List.length_map] at h1
      rw [h1]
      exact Nat.le_trans HG.out.1 (by omega)
    have E6 := Lib.hid (bthen E4.out hw6)
    have L6 := Lib.hid (L4.out.after hw6)
    have Q6 := Lib.hid (eqThreadS_c hl6.mem ((L0.out.after E6.out).mem) (by rw [hm6, M0.out]) val6 len6)
    clear hl6 hm6 hw6 val6 len6 E4 L4 I
    go_wp2_with fail
    refine Q6.out.mono ?_
    rintro e w7 ⟨rfl, hw7⟩
    have E7 := Lib.hid (bthen E6.out hw7)
    have L7 := Lib.hid (L6.out.after hw7)
    clear hw7 E6 L6 Q6
    go_wp2_with (go_at_call 28; refine (K4.out _ L7.out).mono ?_; rintro e w8 ⟨rfl, rfl⟩)
    go_ret
    exact ⟨rfl, bthen D1.out E7.out⟩
end Go.Proofs.YtglnfccglgladaaDoor
