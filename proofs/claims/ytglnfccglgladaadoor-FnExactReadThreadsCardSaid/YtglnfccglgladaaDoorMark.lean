/-
  Marks put into vectors, and held.
  Marks put into lists of threads, and held.
-/
import Derived.Test.YtglnfccglgladaaDoorEqThr
namespace Go.Proofs.YtglnfccglgladaaDoor
open Go.RowKit
set_option linter.unusedVariables false

def fI (k : Nat) : Nat := floatOfInt .f32 (k : Int)
def mk3 (k j : Nat) : V3 := (fI (k + j * 3), fI (k + j * 3 + 1), fI (k + j * 3 + 2))
def markV (k n : Nat) : List V3 := (List.range n).map (mk3 k)
theorem markV_next (k n : Nat) : vCells (markV k (n + 1)) = vCells (markV k n) ++ [.float .f32 (fI (k + n * 3)), .float .f32 (fI (k + n * 3 + 1)), .float .f32 (fI (k + n * 3 + 2))] := by
  unfold markV
  rw [List.range_succ, List.map_append]
  simp [vCells, mk3]
theorem markV_len (k n : Nat) : (markV k n).length = n := by simp [markV]
/-- The marks up to the vector i. -/
def Half (W : World) (g k i n : Nat) : Prop := ∃ cur, W.heap[g]? = some (.cells cur 26 (0, 0)) ∧ n * 3 ≤ cur.size ∧ ∀ (j : Nat) (x : Value), (vCells (markV k i))[j]? = some x → cur[j]? = some x
theorem VBlk.half {W : World} {g : Nat} {vs : List V3} (h : VBlk W g vs) (k : Nat) : Half W g k 0 vs.length := by
  obtain ⟨cur, hb, hc⟩ := h
  refine ⟨cur, hb, ?_, fun j x hj => by simp [markV, vCells] at hj⟩
  by_cases h0 : vs.length = 0
  · omega
  · have hl := vCells_len vs
    have h1 : vs.length * 3 - 1 < (vCells vs).length := by omega
    have h2 := hc (vs.length * 3 - 1) _ (List.getElem?_eq_getElem h1)
    have := (Array.getElem?_eq_some_iff.1 h2).1
    omega
theorem Half.full {W : World} {g k n : Nat} (h : Half W g k n n) : VBlk W g (markV k n) := by
  obtain ⟨cur, hb, _, hc⟩ := h
  exact ⟨cur, hb, hc⟩
theorem Half.facts {W : World} {g k i n : Nat} (h : Half W g k i n) (hi : i < n) : (∃ u0 u1 u2, W.cell? ⟨g, i * 3, none⟩ = some u0 ∧ W.cell? ⟨g, i * 3 + 1, none⟩ = some u1 ∧ W.cell? ⟨g, i * 3 + 2, none⟩ = some u2) ∧
    W.frozen? ⟨g, i * 3, none⟩ = false ∧ W.frozen? ⟨g, i * 3 + 1, none⟩ = false ∧ W.frozen? ⟨g, i * 3 + 2, none⟩ = false ∧ g < W.heap.size := by
  obtain ⟨cur, hb, hs, _⟩ := h
  refine ⟨⟨cur[i * 3]'(by omega), cur[i * 3 + 1]'(by omega), cur[i * 3 + 2]'(by omega), cell_of_block hb (by simp), cell_of_block hb (by simp), cell_of_block hb (by simp)⟩, ?_, ?_, ?_, (Array.getElem?_eq_some_iff.1 hb).1⟩ <;> simp [World.frozen?, hb]
theorem Half.next {W : World} {g k i n : Nat} (h : Half W g k i n) (hi : i < n) :
    Half (((W.setCell ⟨g, i * 3, none⟩ (.float .f32 (fI (k + i * 3)))).setCell ⟨g, i * 3 + 1, none⟩ (.float .f32 (fI (k + i * 3 + 1)))).setCell ⟨g, i * 3 + 2, none⟩ (.float .f32 (fI (k + i * 3 + 2)))) g k (i + 1) n := by
  obtain ⟨cur, hb, hs, hc⟩ := h
  refine ⟨_, set_heap (set_heap (set_heap hb _ _) _ _) _ _, by simpa using hs, fun j x hj => ?_⟩
  have hl : (vCells (markV k i)).length = i * 3 := by rw [vCells_len, markV_len]
  rw [markV_next] at hj
  by_cases h1 : j < i * 3
  · rw [List.getElem?_append_left (by omega)] at hj
    rw [Array.getElem?_setIfInBounds_ne (by omega), Array.getElem?_setIfInBounds_ne (by omega), Array.getElem?_setIfInBounds_ne (by omega)]
    exact hc j x hj
  · rw [List.getElem?_append_right (by omega), hl] at hj
    have h2 : j - i * 3 < 3 := by
      have := (List.getElem?_eq_some_iff.1 hj).1
      simpa using this
    rcases (show j = i * 3 ∨ j = i * 3 + 1 ∨ j = i * 3 + 2 by omega) with rfl | rfl | rfl
    · rw [Nat.sub_self] at hj
      simp at hj
      subst hj
      rw [Array.getElem?_setIfInBounds_ne (by omega), Array.getElem?_setIfInBounds_ne (by omega), Array.getElem?_setIfInBounds_self_of_lt (by omega)]
    · rw [show i * 3 + 1 - i * 3 = 1 by omega] at hj
      simp at hj
      subst hj
      rw [Array.getElem?_setIfInBounds_ne (by omega), Array.getElem?_setIfInBounds_self_of_lt (by simp; omega)]
    · rw [show i * 3 + 2 - i * 3 = 2 by omega] at hj
      simp at hj
      subst hj
      rw [Array.getElem?_setIfInBounds_self_of_lt (by simp; omega)]

set_option maxRecDepth 100000 in
set_option maxHeartbeats 2000000 in
theorem markVectorS_c {w : World} {g c k : Nat} {vs : List V3} (h : VBlk w g vs) (hl : vs.length ≤ 1000) (hk : k ≤ 100000) :
    Calls Tryd.prog 73 #[.slice (some ⟨g, 0, none⟩) vs.length c, .int .i64 k] w fun e w' => e = .returned (.int .i64 (k + vs.length * 3 : Nat)) ∧ VBlk w' g (markV k vs.length) ∧ w.grownBy w' (some g) := by
  have h0 := h.half k
  generalize vs.length = n at *
  have hn0 : (0 : Int) ≤ n := by omega
  have hn1 : (n : Int) ≤ 1000 := by omega
  have hk0 : (0 : Int) ≤ k := by omega
  have hk1 : (k : Int) ≤ 100000 := by omega
  have H0 := Lib.hid h0
  clear h h0 hl hk
  go_enter Tryd.func73, Tryd.ntmps73
  go_wp2
  go_loopw [1, 5] (fun q i wr => ∃ (j z : Nat), j ≤ n ∧ q = .int .i64 z ∧ i = .int .i64 j ∧ z = k + j * 3 ∧ Hid (Half wr g k j n) ∧ Hid (w.grownBy wr (some g))) (fun _ i _ => n - (intOf i).toNat)
  case atStart => exact ⟨0, k, Nat.zero_le _, rfl, rfl, by omega, H0, Lib.hid ⟨rfl, rfl, rfl, Nat.le_refl _, fun _ _ _ => rfl⟩⟩
  case round =>
    obtain ⟨j, z, hj, rfl, rfl, hz, hh, hgr⟩ := hrel
    clear H0
    have hz1 : (z : Int) ≤ 103000 := by omega
    have hz0 : (0 : Int) ≤ z := by omega
    have HZ := Lib.hid hz
    clear hz
    by_cases hlt : j < n
    · obtain ⟨⟨u0, u1, u2, c0, c1, c2⟩, f0, f1, f2, hgl⟩ := hh.out.facts hlt
      go_wp2
      go_roundw
      case rel => exact ⟨j + 1, z + 3, by omega, by simp; omega, by simp, by have := HZ.out; omega, Lib.hid (by have := hh.out.next hlt; rw [← HZ.out] at this; exact this), Lib.hid (grown_set (grown_set (grown_set hgr.out _ _) _ _) _ _)⟩
      case measure => simp [intOf]; omega
    · obtain rfl : j = n := by omega
      go_wp2
      go_ret
      exact ⟨by rw [HZ.out]; rfl, hh.out.full, hgr.out⟩

theorem lim_f32 : lim .f32 = 16777216 := rfl
theorem fI_eq {k : Nat} (h : k ≤ 1000000) : FloatKind.f32.format.order (fI k) (fI k) = some .eq := by
  have := dy_of .f32 (k : Int) (by rw [lim_f32]; omega)
  have e := dy_order .f32 this this
  unfold fI
  rw [e]
  simp
set_option maxRecDepth 100000 in
set_option maxHeartbeats 2000000 in
theorem heldVectorS_c {w : World} {g c k n : Nat} (h : VNums w g (markV k n)) (hl : n ≤ 1000) (hk : k ≤ 100000) :
    Calls Tryd.prog 74 #[.slice (some ⟨g, 0, none⟩) n c, .int .i64 k] w fun e w' => e = .returned (.int .i64 (k + n * 3 : Nat)) ∧ w = w' := by
  have hn0 : (0 : Int) ≤ n := by omega
  have hn1 : (n : Int) ≤ 1000 := by omega
  have hk0 : (0 : Int) ≤ k := by omega
  have hk1 : (k : Int) ≤ 100000 := by omega
  have H := Lib.hid h
  clear h
  go_enter Tryd.func74, Tryd.ntmps74
  go_wp2
  go_loop [1, 5] (fun q i => ∃ (j z : Nat), j ≤ n ∧ q = .int .i64 z ∧ i = .int .i64 j ∧ z = k + j * 3) (fun _ i => n - (intOf i).toNat)
  case atStart => exact ⟨0, k, Nat.zero_le _, rfl, rfl, by omega⟩
  case round =>
    obtain ⟨j, z, hj, rfl, rfl, hz⟩ := hrel
    have hz1 : (z : Int) ≤ 103000 := by omega
    have hz0 : (0 : Int) ≤ z := by omega
    have HZ := Lib.hid hz
    clear hz
    by_cases hlt : j < n
    · obtain ⟨c0, c1, c2⟩ := H.out.2 j (mk3 k j) (by unfold markV; rw [List.getElem?_map, List.getElem?_range hlt]; rfl)
      unfold mk3 at c0 c1 c2
      rw [← HZ.out] at c0 c1 c2
      simp only [] at c0 c1 c2
      have o0 := fI_eq (k := z) (by omega)
      have o1 := fI_eq (k := z + 1) (by omega)
      have o2 := fI_eq (k := z + 2) (by omega)
      have e0 : floatOfInt .f32 (z : Int) = fI z := rfl
      have e1 : floatOfInt .f32 ((z : Int) + 1) = fI (z + 1) := rfl
      have e2 : floatOfInt .f32 ((z : Int) + 1 + 1) = fI (z + 2) := rfl
      have e2' : floatOfInt .f32 ((z : Int) + 2) = fI (z + 2) := rfl
      generalize fI z = a0 at *
      generalize fI (z + 1) = a1 at *
      generalize fI (z + 2) = a2 at *
      go_wp2
      go_round
      case rel => exact ⟨j + 1, z + 3, by omega, by simp; omega, by simp, by have := HZ.out; omega⟩
      case measure => simp [intOf]; omega
    · obtain rfl : j = n := by omega
      go_wp2
      go_ret
      exact ⟨by rw [HZ.out]; rfl, rfl⟩

/-- A list of threads in block g0. -/
structure TBlk (W : World) (g0 : Nat) (ms : List TM) : Prop where
  blk : ∃ cur, W.heap[g0]? = some (.cells cur 91 (0, 0)) ∧ ∀ (j : Nat) (x : Value), (tCells ms)[j]? = some x → cur[j]? = some x
  pts : ∀ m ∈ ms, VBlk W m.1 m.2.2.1
  apart : (ms.map (·.1)).Pairwise (· < ·)
theorem TBlk.ne {W : World} {g0 : Nat} {ms : List TM} (h : TBlk W g0 ms) {m : TM} (hm : m ∈ ms) : m.1 ≠ g0 := by
  intro e
  obtain ⟨cur, hb, _⟩ := h.blk
  obtain ⟨cur', hb', _⟩ := h.pts m hm
  rw [e, hb] at hb'
  simp only [Option.some.injEq, Obj.cells.injEq] at hb'
  exact absurd hb'.2.1 (by decide)
theorem TBlk.after {W W' : World} {g0 : Nat} {ms : List TM} (h : TBlk W g0 ms) (k : Below W.heap.size W W') : TBlk W' g0 ms := by
  obtain ⟨cur, hb, hc⟩ := h.blk
  exact ⟨⟨cur, (k.block g0 (Array.getElem?_eq_some_iff.1 hb).1).trans hb, hc⟩, fun m hm => (h.pts m hm).after k, h.apart⟩
theorem tCells_len (ms : List TM) : (tCells ms).length = ms.length * 2 := by
  induction ms with
  | nil => rfl
  | cons p r ih => simp only [tCells, List.flatMap_cons, List.length_append, List.length_cons, List.length_nil] at ih ⊢; omega
theorem tCells_append (a b : List TM) : tCells (a ++ b) = tCells a ++ tCells b := by simp [tCells]
/-- One thread's points and spin written anew. -/
theorem TBlk.put {W W1 : World} {g0 : Nat} {a b : List TM} {m : TM} {vs : List V3} {s : Nat} (h : TBlk W g0 (a ++ m :: b)) (hv : VBlk W1 m.1 vs) (hg : W.grownBy W1 (some m.1)) (hl : vs.length = m.2.2.1.length) :
    TBlk (W1.setCell ⟨g0, a.length * 2 + 1, none⟩ (.float .f32 s)) g0 (a ++ (m.1, m.2.1, (vs, s)) :: b) := by
  have hmem : m ∈ a ++ m :: b := by simp
  have hne := h.ne hmem
  obtain ⟨cur, hb, hc⟩ := h.blk
  have hb1 : W1.heap[g0]? = some (.cells cur 91 (0, 0)) := gheap' hg hb (by simpa using hne)
  refine ⟨⟨_, set_heap hb1 _ _, fun j x hj => ?_⟩, fun m2 hm2 => ?_, ?_⟩
  · have hla := tCells_len a
    have e : tCells (a ++ (m.1, m.2.1, (vs, s)) :: b) = (tCells (a ++ m :: b)).set (a.length * 2 + 1) (.float .f32 s) := by
      rw [tCells_append, tCells_append, ← hla]
      have e1 : tCells ((m.1, m.2.1, (vs, s)) :: b) = .slice (some ⟨m.1, 0, none⟩) m.2.2.1.length m.2.1 :: .float .f32 s :: tCells b := by
        show Value.slice _ vs.length _ :: _ = _
        rw [hl]
        rfl
      have e2 : tCells (m :: b) = .slice (some ⟨m.1, 0, none⟩) m.2.2.1.length m.2.1 :: .float .f32 m.2.2.2 :: tCells b := rfl
      rw [e1, e2, List.set_append, if_neg (by omega)]
      simp
    rw [e, List.getElem?_set] at hj
    by_cases hj2 : a.length * 2 + 1 = j
    · subst hj2
      rw [if_pos rfl] at hj
      have hlen : a.length * 2 + 1 < (tCells (a ++ m :: b)).length := by rw [tCells_len]; simp; omega
      rw [if_pos hlen] at hj
      cases hj
      have := (Array.getElem?_eq_some_iff.1 (hc _ _ (List.getElem?_eq_getElem hlen))).1
      rw [Array.getElem?_setIfInBounds_self_of_lt this]
    · rw [if_neg hj2] at hj
      rw [Array.getElem?_setIfInBounds_ne hj2]
      exact hc j x hj
  · have hap := h.apart
    rcases List.mem_append.1 hm2 with h2 | h2
    · have h3 : m2 ∈ a ++ m :: b := by simp [h2]
      have hlt : m2.1 < m.1 := by
        rw [List.map_append, List.pairwise_append] at hap
        exact hap.2.2 m2.1 (List.mem_map_of_mem h2) m.1 (by simp)
      obtain ⟨c2, hb2, hc2⟩ := h.pts m2 h3
      exact VBlk.set ⟨c2, gheap' hg hb2 (by intro e; have := Option.some.inj e; omega), hc2⟩ (h.ne h3) _
    · rcases List.mem_cons.1 h2 with h2 | h2
      · subst h2
        exact VBlk.set hv hne _
      · have h3 : m2 ∈ a ++ m :: b := by simp [h2]
        have hlt : m.1 < m2.1 := by
          rw [List.map_append, List.map_cons, List.pairwise_append, List.pairwise_cons] at hap
          exact hap.2.1.1 m2.1 (List.mem_map_of_mem h2)
        obtain ⟨c2, hb2, hc2⟩ := h.pts m2 h3
        exact VBlk.set ⟨c2, gheap' hg hb2 (by intro e; have := Option.some.inj e; omega), hc2⟩ (h.ne h3) _
  · have e : (a ++ (m.1, m.2.1, (vs, s)) :: b).map (·.1) = (a ++ m :: b).map (·.1) := by simp
    rw [e]
    exact h.apart

def markT : Nat → List TM → List TM
  | _, [] => []
  | k, m :: r => (m.1, m.2.1, (markV k m.2.2.1.length, fI (k + m.2.2.1.length * 3))) :: markT (k + m.2.2.1.length * 3 + 1) r
def markEnd : Nat → List TM → Nat
  | k, [] => k
  | k, m :: r => markEnd (k + m.2.2.1.length * 3 + 1) r
theorem markT_snoc : ∀ (k : Nat) (a : List TM) (m : TM), markT k (a ++ [m]) = markT k a ++ [(m.1, m.2.1, (markV (markEnd k a) m.2.2.1.length, fI (markEnd k a + m.2.2.1.length * 3)))]
  | k, [], m => rfl
  | k, q :: a, m => by
    rw [List.cons_append, markT, markT, markEnd, markT_snoc _ a m, List.cons_append]
theorem markEnd_snoc : ∀ (k : Nat) (a : List TM) (m : TM), markEnd k (a ++ [m]) = markEnd k a + m.2.2.1.length * 3 + 1
  | k, [], m => rfl
  | k, q :: a, m => by rw [List.cons_append, markEnd, markEnd, markEnd_snoc _ a m]
theorem markT_len : ∀ (k : Nat) (a : List TM), (markT k a).length = a.length
  | k, [] => rfl
  | k, q :: a => by rw [markT, List.length_cons, markT_len, List.length_cons]
theorem markT_append : ∀ (k : Nat) (a b : List TM), markT k (a ++ b) = markT k a ++ markT (markEnd k a) b
  | k, [], b => rfl
  | k, q :: a, b => by rw [List.cons_append, markT, markT, markEnd, markT_append _ a b, List.cons_append]
theorem markEnd_le : ∀ (k : Nat) (a : List TM), (∀ m ∈ a, m.2.2.1.length ≤ 32) → markEnd k a ≤ k + a.length * 97
  | k, [], _ => by simp [markEnd]
  | k, q :: a, h => by
    have h1 := h q (by simp)
    have h2 := markEnd_le (k + q.2.2.1.length * 3 + 1) a (fun m hm => h m (by simp [hm]))
    rw [markEnd, List.length_cons]
    omega

set_option maxRecDepth 100000 in
set_option maxHeartbeats 4000000 in
theorem markThreadS_c {w : World} {g0 c k B : Nat} {ms : List TM} (h : TBlk w g0 ms) (hl : ms.length ≤ 4) (hv : ∀ m ∈ ms, m.2.2.1.length ≤ 32) (hk : k ≤ 1000) (hB : B ≤ g0) (hBm : ∀ m ∈ ms, B ≤ m.1) :
    Calls Tryd.prog 27 #[.slice (some ⟨g0, 0, none⟩) ms.length c, .int .i64 k] w fun e w' => e = .returned (.int .i64 (markEnd k ms : Nat)) ∧ TBlk w' g0 (markT k ms) ∧ Below B w w' := by
  obtain ⟨n, hn⟩ : ∃ n, ms.length = n := ⟨_, rfl⟩
  rw [hn] at hl ⊢
  have hn0 : (0 : Int) ≤ n := by omega
  have hn1 : (n : Int) ≤ 4 := by omega
  have hBs : B ≤ w.heap.size := Nat.le_trans hB (Nat.le_of_lt (by obtain ⟨_, hb, _⟩ := h.blk; exact (Array.getElem?_eq_some_iff.1 hb).1))
  have HN := Lib.hid hn
  have H := Lib.hid h
  have HV := Lib.hid hv
  have HBm := Lib.hid hBm
  have HK := Lib.hid hk
  clear h hl hn hv hBm
  go_enter Tryd.func27, Tryd.ntmps27
  go_wp2
  go_loopw [1, 5] (fun q i wr => ∃ (j z : Nat), j ≤ n ∧ q = .int .i64 z ∧ i = .int .i64 j ∧ Hid (z = markEnd k (ms.take j)) ∧ Hid (TBlk wr g0 (markT k (ms.take j) ++ ms.drop j)) ∧ Hid (Below B w wr)) (fun _ i _ => n - (intOf i).toNat)
  case atStart => exact ⟨0, k, Nat.zero_le _, rfl, rfl, Lib.hid rfl, Lib.hid (by simpa [markT] using H.out), Lib.hid (Below.refl _ _)⟩
  case round =>
    obtain ⟨j, z, hj, rfl, rfl, hz, hh, hbel⟩ := hrel
    have hz2 : z ≤ 1388 := by
      have h1 := markEnd_le k (ms.take j) (fun m hm => HV.out m (List.mem_of_mem_take hm))
      have h2 : (ms.take j).length ≤ 4 := by rw [List.length_take]; have := HN.out; omega
      have := hz.out
      have := HK.out
      omega
    have hz1 : (z : Int) ≤ 1388 := by omega
    have hz0 : (0 : Int) ≤ z := by omega
    clear hz2
    by_cases hlt : j < n
    · have hkx : j < ms.length := by rw [HN.out]; exact hlt
      obtain ⟨m, hm⟩ : ∃ m, ms[j] = m := ⟨_, rfl⟩
      have hmem : m ∈ ms := by rw [← hm]; exact List.getElem_mem hkx
      have hd : ms.drop j = m :: ms.drop (j + 1) := by rw [List.drop_eq_getElem_cons hkx, hm]
      have hta : (markT k (ms.take j)).length = j := by rw [markT_len, List.length_take]; omega
      have hT := hh.out
      rw [hd] at hT
      obtain ⟨cur, hb, hc⟩ := hT.blk
      obtain ⟨i0, i1⟩ := tCells_at (markT k (ms.take j) ++ m :: ms.drop (j + 1)) j m (by rw [List.getElem?_append_right (by omega), hta, Nat.sub_self]; rfl)
      have d0 := cell_of_block hb (hc _ _ i0)
      have d1 := cell_of_block hb (hc _ _ i1)
      have hlen := HV.out m hmem
      have MV := markVectorS_c (c := m.2.1) (k := z) (hT.pts m (by simp)) (by omega) (by omega)
      have hgl : g0 < wr.heap.size := (Array.getElem?_eq_some_iff.1 hb).1
      have hne := hT.ne (m := m) (by simp)
      have HT := Lib.hid hT
      have HMV := Lib.hid MV
      have HB2 := Lib.hid (HBm.out m hmem)
      have HTa := Lib.hid hta
      have HNe := Lib.hid hne
      have HBk := Lib.hid hb
      have HI1 := Lib.hid (hc _ _ i1)
      have hnextE : Hid (markEnd k (ms.take (j + 1)) = markEnd k (ms.take j) + m.2.2.1.length * 3 + 1) := Lib.hid (by rw [take_next' _ _ hkx, hm, markEnd_snoc])
      have hnextT : Hid (markT k (ms.take (j + 1)) ++ ms.drop (j + 1) = markT k (ms.take j) ++ (m.1, m.2.1, (markV (markEnd k (ms.take j)) m.2.2.1.length, fI (markEnd k (ms.take j) + m.2.2.1.length * 3))) :: ms.drop (j + 1)) := Lib.hid (by rw [take_next' _ _ hkx, hm, markT_snoc, List.append_assoc]; rfl)
      clear hT hb hc i0 i1 MV hm hmem hd hta hne hh hkx d1
      generalize hL : m.2.2.1.length = L at *
      have HLL := Lib.hid hL
      clear hL
      have hL1 : (L : Int) ≤ 32 := by omega
      have hL0 : (0 : Int) ≤ L := by omega
      go_wp2_with fail
      refine HMV.out.mono ?_
      rintro e w1 ⟨rfl, hv1, hg1⟩
      have hb1 : w1.heap[g0]? = some (.cells cur 91 (0, 0)) := gheap' hg1 HBk.out (by simpa using HNe.out)
      have c1 : w1.cell? ⟨g0, j * 2 + 1, none⟩ = some (.float .f32 m.2.2.2) := cell_of_block hb1 HI1.out
      have f1 : w1.frozen? ⟨g0, j * 2 + 1, none⟩ = false := by simp [World.frozen?, hb1]
      have hz9 := hg1.size
      have hgl1 : g0 < w1.heap.size := by omega
      have HV1 := Lib.hid hv1
      have HG1 := Lib.hid hg1
      have HD1 := Lib.hid (hbel.out.grown hg1 (Nat.le_trans hBs hbel.out.size) (fun q hq => by cases hq; exact HB2.out))
      have hput := HT.out.put (s := fI (z + L * 3)) hv1 hg1 (by rw [markV_len, HLL.out])
      rw [HTa.out] at hput
      have HPut := Lib.hid hput
      clear hv1 hg1 hb1 hput d0 HMV
      have hzL : ((z + L * 3 : Nat) : Int) = (z : Int) + L * 3 := by omega
      go_wp2
      go_roundw
      case rel => exact ⟨j + 1, z + L * 3 + 1, by omega, by simp, by simp, Lib.hid (by rw [hnextE.out, hz.out]), Lib.hid (by rw [hnextT.out, ← hz.out, show floatOfInt .f32 ((z : Int) + L * 3) = fI (z + L * 3) by unfold fI; rw [hzL]]; exact HPut.out), Lib.hid (HD1.out.setCell (by simpa using hB) _)⟩
      case measure => simp [intOf]; omega
    · obtain rfl : j = n := by omega
      have htk : ms.take j = ms := List.take_of_length_le (by rw [HN.out]; exact Nat.le_refl _)
      have hdr : ms.drop j = [] := List.drop_of_length_le (by rw [HN.out]; exact Nat.le_refl _)
      rw [htk] at hz hh
      rw [hdr, List.append_nil] at hh
      go_wp2
      go_ret
      exact ⟨by rw [← hz.out]; rfl, hh.out, hbel.out⟩

theorem markT_at : ∀ (k : Nat) (ms : List TM) (j : Nat) (m : TM), ms[j]? = some m → (markT k ms)[j]? = some (m.1, m.2.1, (markV (markEnd k (ms.take j)) m.2.2.1.length, fI (markEnd k (ms.take j) + m.2.2.1.length * 3)))
  | k, [], j, m, h => by simp at h
  | k, q :: r, 0, m, h => by
    simp at h
    subst h
    rfl
  | k, q :: r, j + 1, m, h => by
    have := markT_at (k + q.2.2.1.length * 3 + 1) r j m (by simpa using h)
    rw [markT, List.take_succ_cons, markEnd]
    simpa using this
set_option maxRecDepth 100000 in
set_option maxHeartbeats 4000000 in
theorem heldThreadS_c {w : World} {g0 c k : Nat} {ms : List TM} (h : TBlk w g0 (markT k ms)) (hl : ms.length ≤ 4) (hv : ∀ m ∈ ms, m.2.2.1.length ≤ 32) (hk : k ≤ 1000) :
    Calls Tryd.prog 28 #[.slice (some ⟨g0, 0, none⟩) ms.length c, .int .i64 k] w fun e w' => e = .returned (.int .i64 (markEnd k ms : Nat)) ∧ w = w' := by
  obtain ⟨n, hn⟩ : ∃ n, ms.length = n := ⟨_, rfl⟩
  rw [hn] at hl ⊢
  have hn0 : (0 : Int) ≤ n := by omega
  have hn1 : (n : Int) ≤ 4 := by omega
  have HN := Lib.hid hn
  have H := Lib.hid h
  have HV := Lib.hid hv
  have HK := Lib.hid hk
  clear h hl hn hv
  go_enter Tryd.func28, Tryd.ntmps28
  go_wp2
  go_loop [1, 5] (fun q i => ∃ (j z : Nat), j ≤ n ∧ q = .int .i64 z ∧ i = .int .i64 j ∧ Hid (z = markEnd k (ms.take j))) (fun _ i => n - (intOf i).toNat)
  case atStart => exact ⟨0, k, Nat.zero_le _, rfl, rfl, Lib.hid rfl⟩
  case round =>
    obtain ⟨j, z, hj, rfl, rfl, hz⟩ := hrel
    have hz2 : z ≤ 1388 := by
      have h1 := markEnd_le k (ms.take j) (fun m hm => HV.out m (List.mem_of_mem_take hm))
      have h2 : (ms.take j).length ≤ 4 := by rw [List.length_take]; have := HN.out; omega
      have := hz.out
      have := HK.out
      omega
    have hz1 : (z : Int) ≤ 1388 := by omega
    have hz0 : (0 : Int) ≤ z := by omega
    by_cases hlt : j < n
    · have hkx : j < ms.length := by rw [HN.out]; exact hlt
      obtain ⟨m, hm⟩ : ∃ m, ms[j] = m := ⟨_, rfl⟩
      have hmem : m ∈ ms := by rw [← hm]; exact List.getElem_mem hkx
      have hat := markT_at k ms j m (by rw [List.getElem?_eq_getElem hkx, hm])
      rw [← hz.out] at hat
      obtain ⟨cur, hb, hc⟩ := H.out.blk
      obtain ⟨i0, i1⟩ := tCells_at _ j _ hat
      have d0 := cell_of_block hb (hc _ _ i0)
      have d1 := cell_of_block hb (hc _ _ i1)
      have hp := (H.out.pts _ (List.mem_of_getElem? hat)).nums
      have hlen := HV.out m hmem
      have hnextE : Hid (markEnd k (ms.take (j + 1)) = z + m.2.2.1.length * 3 + 1) := Lib.hid (by rw [take_next' _ _ hkx, hm, markEnd_snoc, hz.out])
      simp only [markV_len] at d0 d1 hp
      generalize m.2.2.1.length = L at *
      have HH := Lib.hid (fun w (h : VNums w m.1 (markV z L)) => heldVectorS_c (c := m.2.1) h (by omega) (by omega))
      have HP := Lib.hid hp
      have o0 := fI_eq (k := z + L * 3) (by omega)
      have hL1 : (L : Int) ≤ 32 := by omega
      have hL0 : (0 : Int) ≤ L := by omega
      have hzL : ((z + L * 3 : Nat) : Int) = (z : Int) + L * 3 := by omega
      have e0 : floatOfInt .f32 ((z : Int) + L * 3) = fI (z + L * 3) := by rw [← hzL]; rfl
      clear hat hb hc i0 i1 hp hm hmem hkx hz2 hlen
      generalize fI (z + L * 3) = a0 at *
      go_wp2_with (go_at_call 74; refine (HH.out _ HP.out).mono ?_; rintro e w1 ⟨rfl, rfl⟩)
      go_round
      case rel => exact ⟨j + 1, z + L * 3 + 1, by omega, by simp, by simp, Lib.hid hnextE.out.symm⟩
      case measure => simp [intOf]; omega
    · obtain rfl : j = n := by omega
      have htk : ms.take j = ms := List.take_of_length_le (by rw [HN.out]; exact Nat.le_refl _)
      rw [htk] at hz
      go_wp2
      go_ret
      exact ⟨by rw [← hz.out]; rfl, rfl⟩
end Go.Proofs.YtglnfccglgladaaDoor
