/-
  Threads of finite numbers are equal to themselves, as the laws look.
-/
import Derived.Test.YtglnfccglgladaaDoorSpecThr
import Derived.Test.YtglnfccglgladaaDoorAngle2
namespace Go.Proofs.YtglnfccglgladaaDoor
open Go.RowKit
set_option linter.unusedVariables false

/-- A finite number in double precision. -/
def Num64 (p : Nat) : Prop := ∃ s m e, FloatKind.f64.format.read p = .number s m e
theorem num64_self {p : Nat} (h : Num64 p) : FloatKind.f64.format.order p p = some .eq := by
  obtain ⟨s, m, e, h⟩ := h
  unfold Ieee.Format.order
  rw [h]
  exact order_num m s e
theorem one64_read : FloatKind.f64.format.read one64 = .number false 4503599627370496 (-52) := by decide +kernel
theorem num64_quo {p : Nat} (h : Num64 p) : okf .quo .f64 one64 p := by
  obtain ⟨s, m, e, h⟩ := h
  exact quo_some one64_read h (fun h => by have := h.1; omega)

set_option maxRecDepth 100000 in
theorem sameFloat_c {p : Nat} (h : Num64 p) (w : World) : Calls Tryd.prog 121 #[.float .f64 p, .float .f64 p] w fun e w' => e = .returned (.bool true) ∧ w = w' := by
  have h1 := num64_self h
  by_cases hz : FloatKind.f64.format.order p 0 = some .eq
  · have q := (num64_quo h).rf (P := Tryd.prog)
    generalize fop .quo .f64 one64 p = r at q
    clear h
    go_enter Tryd.func121, Tryd.ntmps121
    go_wp2
    go_ret
    exact ⟨by simp, rfl⟩
  · have hzb : (FloatKind.f64.format.order p 0 == some .eq) = false := by simpa using hz
    clear h
    go_enter Tryd.func121, Tryd.ntmps121
    go_wp2
    go_ret
    exact ⟨rfl, rfl⟩

/-- A finite number of 32 bits, widened. -/
theorem wideNum {x : Nat} (hx : W32 x) (h : finB x = true) : ∃ p, Num64 p ∧ ∀ w, (convert 24 65 (.float .f32 x)).run Tryd.prog w = .ok (.float .f64 p) w := by
  obtain ⟨s, m, e, hr⟩ := finB_num h
  obtain ⟨y, m', e', hc, hy, _⟩ := widen_num hx hr
  exact ⟨y, ⟨s, m', e', hy⟩, fun w => run_convert_float_float w _ _ .f32 .f64 x y (by rw [Tryd.underlying24]; rfl) Tryd.underlying65 hc⟩
def V32 (p : V3) : Prop := W32 p.1 ∧ W32 p.2.1 ∧ W32 p.2.2

set_option maxRecDepth 100000 in
theorem eqVector_c {p : V3} (h32 : V32 p) (hf : vFin p = true) (w : World) : Calls Tryd.prog 141 #[v3A p, v3A p] w fun e w' => e = .returned (.bool true) ∧ Below w.heap.size w w' := by
  obtain ⟨x, y, z⟩ := p
  obtain ⟨hx, hy, hz⟩ := h32
  have hf' : (finB x = true ∧ finB y = true) ∧ finB z = true := by simpa [vFin] using hf
  obtain ⟨px, nx, cx⟩ := wideNum hx hf'.1.1
  obtain ⟨py, ny, cy⟩ := wideNum hy hf'.1.2
  obtain ⟨pz, nz, cz⟩ := wideNum hz hf'.2
  have SX := Lib.hid (fun w => sameFloat_c nx w)
  have SY := Lib.hid (fun w => sameFloat_c ny w)
  have SZ := Lib.hid (fun w => sameFloat_c nz w)
  clear hf hf' nx ny nz hx hy hz
  unfold v3A
  simp only []
  go_enter Tryd.func141, Tryd.ntmps141
  go_wp2_with (go_at_call 121; first
    | (with_reducible refine (SX.out _).mono ?_; rintro e w1 ⟨rfl, rfl⟩)
    | (with_reducible refine (SY.out _).mono ?_; rintro e w1 ⟨rfl, rfl⟩)
    | (with_reducible refine (SZ.out _).mono ?_; rintro e w1 ⟨rfl, rfl⟩))
  go_ret
  exact ⟨rfl, below2 w _ _⟩

set_option maxRecDepth 100000 in
set_option maxHeartbeats 2000000 in
theorem eqVectorS_c {w : World} {b1 b2 c1 c2 : Nat} {vs : List V3} (h1 : VNums w b1 vs) (h2 : VNums w b2 vs) (h32 : ∀ p ∈ vs, V32 p) (hf : vs.all vFin = true) (hl : vs.length ≤ 1000000) :
    Calls Tryd.prog 120 #[.slice (some ⟨b1, 0, none⟩) vs.length c1, .slice (some ⟨b2, 0, none⟩) vs.length c2] w fun e w' => e = .returned (.bool true) ∧ Below w.heap.size w w' := by
  obtain ⟨n, hn⟩ : ∃ n, vs.length = n := ⟨_, rfl⟩
  rw [hn] at hl ⊢
  have HN := Lib.hid hn
  have H1 := Lib.hid h1
  have H2 := Lib.hid h2
  have H32 := Lib.hid h32
  have HF := Lib.hid hf
  have hn0 : (0 : Int) ≤ n := by omega
  have hn1 : (n : Int) ≤ 1000000 := by omega
  clear h1 h2 h32 hf hn hl
  go_enter Tryd.func120, Tryd.ntmps120
  go_wp2
  go_loopw [5] (fun i wr => ∃ k : Nat, k ≤ n ∧ i = .int .i64 k ∧ Hid (Below w.heap.size w wr)) (fun i _ => n - (intOf i).toNat)
  case atStart => exact ⟨0, Nat.zero_le _, rfl, Lib.hid (Below.refl _ _)⟩
  case round =>
    obtain ⟨k, hk, rfl, hbel⟩ := hrel
    by_cases hlt : k < n
    · have hkp : k < vs.length := by rw [HN.out]; exact hlt
      obtain ⟨⟨x, y, z⟩, hx⟩ : ∃ p, vs[k] = p := ⟨_, rfl⟩
      obtain ⟨d0, d1, d2⟩ := (H1.out.after hbel.out).2 k (x, y, z) (by rw [List.getElem?_eq_getElem hkp, hx])
      obtain ⟨e0, e1, e2⟩ := (H2.out.after hbel.out).2 k (x, y, z) (by rw [List.getElem?_eq_getElem hkp, hx])
      have hmem : (x, y, z) ∈ vs := by rw [← hx]; exact List.getElem_mem hkp
      have l1 : b1 < wr.heap.size := World.block_lt_of_cell? wr _ d0
      have l2 : b2 < wr.heap.size := World.block_lt_of_cell? wr _ e0
      have c0 := fun w => eqVector_c (H32.out _ hmem) (List.all_eq_true.1 HF.out _ hmem) w
      unfold v3A at c0
      simp only [] at c0 d0 d1 d2 e0 e1 e2
      have C := Lib.hid c0
      clear c0 hx hmem
      go_wp2
      refine wp_region_reads (by kernel_rfl) (by kernel_rfl) ?_
      repeat (refine tame_step rfl ?_; apply Exists.intro; refine ⟨fun w' hw => ?_, ?_⟩; (have hc := hw.cell; go_simp; first | (with_reducible rfl) | (go_at_call 141; with_reducible exact hw.makes (C.out _))); (try simp only [Act.put, List.setIfInBounds_toArray, List.set_cons_zero, List.set_cons_succ]))
      refine wpQuiet_nil ?_
      intro w2 hw
      have hb := Lib.hid (bthen hbel.out hw)
      clear hbel d0 d1 d2 e0 e1 e2 l1 l2 hw C
      go_wp2
      go_roundw
      case rel => exact ⟨k + 1, by omega, by simp, hb⟩
      case measure => simp [intOf]; omega
    · go_wp2
      go_ret
      exact ⟨rfl, hbel.out⟩

/-- The words of a thread that was read. -/
def T32 (t : Thr) : Prop := (∀ p ∈ t.1, V32 p) ∧ W32 t.2
set_option maxRecDepth 100000 in
theorem eqThread_c {w : World} {g1 g2 c1 c2 : Nat} {t : Thr} (h1 : VNums w g1 t.1) (h2 : VNums w g2 t.1) (h32 : T32 t) (hf : thrB t = true) :
    Calls Tryd.prog 72 #[thrV g1 c1 t, thrV g2 c2 t] w fun e w' => e = .returned (.bool true) ∧ Below w.heap.size w w' := by
  obtain ⟨vs, s⟩ := t
  have hf' : ((3 ≤ vs.length ∧ vs.length ≤ 32) ∧ vs.all vFin = true) ∧ finB s = true := by
    have := hf
    unfold thrB at this
    simpa using this
  obtain ⟨p, np, cp⟩ := wideNum h32.2 hf'.2
  have S := Lib.hid (fun w => sameFloat_c np w)
  have V := fun (o1 o2 : Obj) => eqVectorS_c (c1 := c1) (c2 := c2) (h1.after (below2 w o1 o2)) (h2.after (below2 w o1 o2)) h32.1 hf'.1.2 (Nat.le_trans hf'.1.1.2 (by omega))
  have HV := Lib.hid V
  clear hf h32 np hf' h1 h2 V
  unfold thrV
  simp only [] at *
  generalize vs.length = n at *
  go_enter Tryd.func72, Tryd.ntmps72
  go_wp2_with fail
  refine (HV.out _ _).mono ?_
  rintro e w1 ⟨rfl, hw⟩
  have A1 := Lib.hid (((BoxT.new w g1 n c1 s).after (below1 _ (.cells #[.slice (some ⟨g2, 0, none⟩) n c2, .float .f32 s] 91))).after hw)
  have A2 := Lib.hid ((BoxT.new (w.alloc (.cells #[.slice (some ⟨g1, 0, none⟩) n c1, .float .f32 s] 91)) g2 n c2 s).after hw)
  have D := Lib.hid (bthen (below2 w _ _) hw)
  clear hw HV
  obtain ⟨k0, k1⟩ := A1.out.facts
  obtain ⟨m0, m1⟩ := A2.out.facts
  rw [World.size_alloc] at m0 m1
  go_wp2_with (go_at_call 121; refine (S.out _).mono ?_; rintro e w1 ⟨rfl, rfl⟩)
  go_ret
  exact ⟨rfl, D.out⟩

/-- A list of threads that lies in memory. -/
structure TMem (W : World) (v : Value) (ms : List TM) : Prop where
  val : ∃ a c, v = .slice a ms.length c ∧ (0 < ms.length → ∃ g0 cur, a = some ⟨g0, 0, none⟩ ∧ W.heap[g0]? = some (.cells cur 91 (0, 0)) ∧ ∀ (j : Nat) (x : Value), (tCells ms)[j]? = some x → cur[j]? = some x)
  pts : ∀ m ∈ ms, VBlk W m.1 m.2.2.1
  apart : ms.Pairwise fun a b => a.1 < b.1
theorem ThrList.mem {w0 W : World} {v : Value} {ms : List TM} (h : ThrList w0 W v ms) : TMem W v ms := by
  refine ⟨?_, fun m hm => (h.pts m hm).1, h.apart⟩
  by_cases h0 : 0 < ms.length
  · obtain ⟨g, c, cur, he, hb, hc, _, _⟩ := h.own.block h0
    exact ⟨_, c, he, fun _ => ⟨g, cur, rfl, hb, hc⟩⟩
  · obtain ⟨a, c, he⟩ := h.own.len
    exact ⟨a, c, he, fun h => absurd h h0⟩
theorem TMem.after {W W' : World} {v : Value} {ms : List TM} (h : TMem W v ms) (k : Below W.heap.size W W') : TMem W' v ms := by
  obtain ⟨⟨a, c, he, hp⟩, h2, h3⟩ := h
  refine ⟨⟨a, c, he, fun h0 => ?_⟩, fun m hm => (h2 m hm).after k, h3⟩
  obtain ⟨g0, cur, e, hb, hc⟩ := hp h0
  exact ⟨g0, cur, e, (k.block g0 (Array.getElem?_eq_some_iff.1 hb).1).trans hb, hc⟩

set_option maxRecDepth 100000 in
set_option maxHeartbeats 2000000 in
theorem eqThreadS_c {w : World} {v1 v2 : Value} {ms1 ms2 : List TM} (h1 : TMem w v1 ms1) (h2 : TMem w v2 ms2) (hm : ms1.map (·.2.2) = ms2.map (·.2.2)) (hv : ∀ m ∈ ms1, thrB m.2.2 = true ∧ T32 m.2.2) (hl : ms1.length ≤ 1000000) :
    Calls Tryd.prog 26 #[v1, v2] w fun e w' => e = .returned (.bool true) ∧ Below w.heap.size w w' := by
  have hlen : ms1.length = ms2.length := by simpa using congrArg List.length hm
  obtain ⟨⟨a1, c1, rfl, hp1⟩, p1, _⟩ := h1
  obtain ⟨⟨a2, c2, rfl, hp2⟩, p2, _⟩ := h2
  obtain ⟨n, hn⟩ : ∃ n, ms1.length = n := ⟨_, rfl⟩
  rw [← hlen] at hp2 ⊢
  rw [hn] at hp1 hp2 hl ⊢
  have hn0 : (0 : Int) ≤ n := by omega
  have hn1 : (n : Int) ≤ 1000000 := by omega
  have HN := Lib.hid hn
  have HN2 := Lib.hid (show ms2.length = n by rw [← hlen, hn])
  clear hl hn hlen
  by_cases h0 : n = 0
  · subst h0
    clear hp1 hp2
    go_enter Tryd.func26, Tryd.ntmps26
    go_wp2
    refine wp_loop_rounds 1 ?_
    rw [rounds_succ]
    go_wp2
    go_ret
    exact ⟨rfl, Below.refl _ _⟩
  · obtain ⟨g1, cur1, rfl, hb1, hc1⟩ := hp1 (by omega)
    obtain ⟨g2, cur2, rfl, hb2, hc2⟩ := hp2 (by omega)
    have HB1 := Lib.hid hb1
    have HB2 := Lib.hid hb2
    have HC1 := Lib.hid hc1
    have HC2 := Lib.hid hc2
    have HP1 := Lib.hid p1
    have HP2 := Lib.hid p2
    have HV := Lib.hid hv
    have HM := Lib.hid hm
    clear h0 hp1 hp2 hb1 hb2 hc1 hc2 p1 p2 hv hm
    go_enter Tryd.func26, Tryd.ntmps26
    go_wp2
    go_loopw [5] (fun i wr => ∃ k : Nat, k ≤ n ∧ i = .int .i64 k ∧ Hid (Below w.heap.size w wr)) (fun i _ => n - (intOf i).toNat)
    case atStart => exact ⟨0, Nat.zero_le _, rfl, Lib.hid (Below.refl _ _)⟩
    case round =>
      obtain ⟨k, hk, rfl, hbel⟩ := hrel
      by_cases hlt : k < n
      · have hk1 : k < ms1.length := by rw [HN.out]; exact hlt
        have hk2 : k < ms2.length := by rw [HN2.out]; exact hlt
        obtain ⟨⟨ga, ca, t⟩, hx⟩ : ∃ m, ms1[k] = m := ⟨_, rfl⟩
        obtain ⟨⟨gb, cb, t'⟩, hy⟩ : ∃ m, ms2[k] = m := ⟨_, rfl⟩
        have ht : t = t' := by
          have h1 : (ms1.map (·.2.2))[k]? = (ms2.map (·.2.2))[k]? := by rw [HM.out]
          rw [List.getElem?_map, List.getElem?_map, List.getElem?_eq_getElem hk1, List.getElem?_eq_getElem hk2, hx, hy] at h1
          simpa using h1
        subst ht
        obtain ⟨i0, i1⟩ := tCells_at ms1 k _ (by rw [List.getElem?_eq_getElem hk1, hx])
        obtain ⟨j0, j1⟩ := tCells_at ms2 k _ (by rw [List.getElem?_eq_getElem hk2, hy])
        have hm1 : (ga, ca, t) ∈ ms1 := by rw [← hx]; exact List.getElem_mem hk1
        have hm2 : (gb, cb, t) ∈ ms2 := by rw [← hy]; exact List.getElem_mem hk2
        have hr1 := (hbel.out.block g1 (Array.getElem?_eq_some_iff.1 HB1.out).1).trans HB1.out
        have hr2 := (hbel.out.block g2 (Array.getElem?_eq_some_iff.1 HB2.out).1).trans HB2.out
        have d0 := cell_of_block hr1 (HC1.out _ _ i0)
        have d1 := cell_of_block hr1 (HC1.out _ _ i1)
        have e0 := cell_of_block hr2 (HC2.out _ _ j0)
        have e1 := cell_of_block hr2 (HC2.out _ _ j1)
        have l1 : g1 < wr.heap.size := World.block_lt_of_cell? wr _ d0
        have l2 : g2 < wr.heap.size := World.block_lt_of_cell? wr _ e0
        have q := fun W (hb : Below wr.heap.size wr W) => eqThread_c (w := W) (c1 := ca) (c2 := cb) (((HP1.out _ hm1).after hbel.out).after hb).nums (((HP2.out _ hm2).after hbel.out).after hb).nums (HV.out _ hm1).2 (HV.out _ hm1).1
        unfold thrV at q
        simp only [] at q d0 d1 e0 e1
        have C := Lib.hid q
        clear q hx hy hm1 hm2 i0 i1 j0 j1 hr1 hr2
        obtain ⟨vs, s⟩ := t
        simp only [] at *
        generalize vs.length = L at *
        go_wp2
        refine wp_region_reads (by kernel_rfl) (by kernel_rfl) ?_
        repeat (refine tame_step rfl ?_; apply Exists.intro; refine ⟨fun w' hw => ?_, ?_⟩; (have hc := hw.cell; go_simp; first | (with_reducible rfl) | (go_at_call 72; with_reducible exact hw.makes (C.out _ hw))); (try simp only [Act.put, List.setIfInBounds_toArray, List.set_cons_zero, List.set_cons_succ]))
        refine wpQuiet_nil ?_
        intro w2 hw
        have hb := Lib.hid (bthen hbel.out hw)
        clear hbel d0 d1 e0 e1 l1 l2 hw C
        go_wp2
        go_roundw
        case rel => exact ⟨k + 1, by omega, by simp, hb⟩
        case measure => simp [intOf]; omega
      · go_wp2
        go_ret
        exact ⟨rfl, hbel.out⟩
end Go.Proofs.YtglnfccglgladaaDoor
