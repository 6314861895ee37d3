/-
  A thread read from a text: the reference's walk.
  Lists of threads in memory.
  Lists of threads read from a text: the reference's walk.
-/
import Derived.Test.YtglnfccglgladaaDoorReadThr
namespace Go.Proofs.YtglnfccglgladaaDoor
open Go.RowKit
set_option linter.unusedVariables false

theorem grown_one (W : World) (p : Addr) (u : Value) : W.grownBy (W.setCell p u) (some p.block) :=
  ⟨rfl, rfl, rfl, by simp [World.setCell], fun k hk hne => Below.heap_setCell W p u k (fun e => hne (by rw [e]))⟩
theorem OwnK.set {w0 W : World} {e : TypeId} {k n : Nat} {v : Value} {xs : List Value} (h : OwnK w0 W e k v n xs) {p : Addr} (hp : v.ownBlock ≠ some p.block) (hb : w0.heap.size ≤ p.block) (u : Value) : OwnK w0 (W.setCell p u) e k v n xs :=
  ⟨h.row.kept (grown_one W p u) (Or.inr hp), bset h.bel hb u⟩
/-- A box of a slice and a number. -/
def BoxV (W : World) (b : Nat) (v : Value) (s : Nat) : Prop := W.heap[b]? = some (.cells #[v, .float .f32 s] 91 (0, 0))
theorem BoxV.lt {W : World} {b s : Nat} {v : Value} (h : BoxV W b v s) : b < W.heap.size := (Array.getElem?_eq_some_iff.1 h).1
theorem BoxV.after {W W' : World} {b s : Nat} {v : Value} (h : BoxV W b v s) (k : Below W.heap.size W W') : BoxV W' b v s := (k.block b h.lt).trans h
theorem BoxV.new (W : World) (v : Value) (s : Nat) : BoxV (W.alloc (.cells #[v, .float .f32 s] 91)) W.heap.size v s := heap_alloc_new W _
theorem thrOf_len {s : ByteArray} (h : (partsC 59 s).length ≠ 2) : thrOf s = none := by
  unfold thrOf
  split
  · rename_i hp; rw [hp] at h; simp at h
  · rfl
theorem len2 {α : Type} {xs : List α} (h : xs.length = 2) : ∃ a b, xs = [a, b] := by
  match xs, h with
  | [a, b], _ => exact ⟨a, b, rfl⟩

set_option maxRecDepth 100000 in
set_option maxHeartbeats 8000000 in
theorem specThread_c {s : ByteArray} (hs : s.size ≤ 100000000) {w : World} :
    Calls Tryd.prog 112 #[.string s] w fun e w' => ThrRet w w' (thrOf s) e ∧ Below w.heap.size w w' := by
  have C := fun w => l01Cut_c s 59 hs (w := w)
  have hsm := fun p (h : p ∈ partsC 59 s) => partsC_small h
  by_cases h2 : (partsC 59 s).length = 2
  · obtain ⟨p0, p1, hp⟩ := len2 h2
    rw [show thrOf s = mkThr (numOf p1) (partsC 47 p0) by unfold thrOf; rw [hp]]
    rw [hp] at C hsm
    have hs0 : p0.size ≤ 100000000 := by have := hsm p0 (by simp); omega
    have hs1 : p1.size ≤ 100000000 := by have := hsm p1 (by simp); omega
    have C2 := fun w => l01Cut_c p0 47 hs0 (w := w)
    have hcnt := partsC_count (c := 47) (s := p0)
    have hpos := partsC_pos 47 p0
    have hsmall := fun p (h : p ∈ partsC 47 p0) => partsC_small h
    have N := fun w => l08Number_c hs1 (w := w)
    generalize numOf p1 = nm at *
    generalize partsC 47 p0 = ps at *
    obtain ⟨n, hn⟩ : ∃ n, ps.length = n := ⟨_, rfl⟩
    obtain ⟨R, hR⟩ : ∃ R, mkThr nm ps = R := ⟨_, rfl⟩
    rw [hR]
    have hn0 : (0 : Int) ≤ n := by omega
    have hn1 : (n : Int) ≤ 100000002 := by omega
    have HR := Lib.hid hR
    have HN := Lib.hid hn
    have HC := Lib.hid C
    have HC2 := Lib.hid C2
    have HNm := Lib.hid N
    have HPos := Lib.hid hpos
    have HSm := Lib.hid (show ∀ p ∈ ps, p.size ≤ 100000000 from fun p h => Nat.le_trans (hsmall p h) hs0)
    clear hR hn C C2 N hpos hsmall hcnt hs0 hs1 hp h2 hsm hs
    go_enter Tryd.func112, Tryd.ntmps112
    go_wp2_with fail
    have B0 := Lib.hid (Box0.new w)
    have D0 := Lib.hid (below1 w (.cells #[.slice none 0 0, .float .f32 0] 91))
    refine (HC.out _).mono ?_
    rintro e w1 ⟨v, rfl, hv⟩
    obtain ⟨g0, cg, cur, rfl, hg, hcur, hg1, hg2⟩ := hv.block (by simp)
    have B1 := Lib.hid (B0.out.after hv.bel)
    have D1 := Lib.hid (bthen D0.out hv.bel)
    have q0 : w1.cell? ⟨g0, 0, none⟩ = some (.string p0) := cell_of_block hg (hcur 0 _ rfl)
    have q1 : w1.cell? ⟨g0, 1, none⟩ = some (.string p1) := cell_of_block hg (hcur 1 _ rfl)
    have Q0 := Lib.hid q0
    clear hv hg hcur B0 D0 HC
    simp only [List.map_cons, List.map_nil, List.length_cons, List.length_nil]
    go_wp2_with fail
    refine (HNm.out _).mono ?_
    rintro e w2 ⟨rfl, hw⟩
    have B2 := Lib.hid (B1.out.after hw)
    have D2 := Lib.hid (bthen D1.out hw)
    have q0' : w2.cell? ⟨g0, 0, none⟩ = some (.string p0) := by rw [hw.cell (p := ⟨g0, 0, none⟩) hg2]; exact Q0.out
    have hz2 := hw.size
    have hg3 : g0 < w2.heap.size := by omega
    clear hw B1 D1 HNm q0 q1 Q0 hz2 hg2
    unfold numRet
    cases nm with
    | none =>
      obtain ⟨⟨r0, r1⟩, ⟨f0, f1⟩, hrl⟩ := two_facts B2.out
      go_wp2
      exact bodyPost_ret (v := .tuple #[thr0, .bool false]) (by simp [results, Tryd.results112, go_sem, *]) rfl ⟨by rw [show R = none from HR.out.symm]; rfl, by repeat (first | exact D2.out | refine bset ?_ (by simp <;> omega) _)⟩
    | some a =>
      simp only []
      have T2 := Lib.hid (BoxV.new (w2.alloc (.cells #[] 26)) (.slice (some ⟨w2.heap.size, 0, none⟩) 0 0) a)
      have H2 := Lib.hid ((OwnK.nil (e := 26) 3 (Below.refl w2.heap.size w2)).alloc (.cells #[.slice (some ⟨w2.heap.size, 0, none⟩) 0 0, .float .f32 a] 91))
      rw [World.size_alloc] at T2
      go_wp2_with fail
      refine (HC2.out _).mono ?_
      rintro e w3 ⟨v, rfl, hv⟩
      obtain ⟨g3, c3, cur3, rfl, hgb, hcur3, hg31, hg32⟩ := hv.block (by simpa using HPos.out)
      rw [List.length_map, HN.out]
      have T3 := Lib.hid (T2.out.after hv.bel)
      have H3 := Lib.hid (H2.out.after hv.bel)
      have HG := Lib.hid hgb
      have HCur := Lib.hid hcur3
      clear hv hgb hcur3 T2 H2 HC2 q0' hg31
      go_wp2_with fail
      go_loopw [9] (fun i wr => ∃ (k : Nat) (v : Value), k ≤ n ∧ i = .int .i64 k ∧ Hid (BoxV wr (w2.heap.size + 1) v a) ∧ Hid (OwnK w2 wr 26 3 v k (vCells ((ps.take k).map fun p => (vecOf p).getD (0, 0, 0)))) ∧ Hid (wr.heap[g3]? = some (.cells cur3 9 (0, 0))) ∧ Hid ((ps.take k).all (fun p => (vecOf p).isSome) = true))
        (fun i _ => n - (intOf i).toNat)
      case atStart => exact ⟨0, _, Nat.zero_le _, rfl, T3, H3, HG, Lib.hid rfl⟩
      case round =>
        obtain ⟨k, v, hk, rfl, hbox, hown, hgr0, hall⟩ := hrel
        clear T3 H3 HG
        obtain ⟨va, vc, hv⟩ := hown.out.len
        subst hv
        have hzr := hown.out.bel.size
        by_cases hlt : k < n
        · have hkx : k < ps.length := by rw [HN.out]; exact hlt
          obtain ⟨p, hp⟩ : ∃ p, ps[k] = p := ⟨_, rfl⟩
          have hcx : wr.cell? ⟨g3, k, none⟩ = some (.string p) := cell_of_block hgr0.out (HCur.out k _ (by simp [List.getElem?_eq_getElem hkx, hp]))
          have RV := Lib.hid (fun W => l01VRead_c (s := p) (HSm.out p (by rw [← hp]; exact List.getElem_mem hkx)) (w := W))
          have HP := Lib.hid hp
          clear hp
          go_wp2_with fail
          refine (RV.out _).mono ?_
          rintro e w4 ⟨rfl, hw⟩
          cases hq : vecOf p with
          | none =>
            have hbad : Hid (R = none) := Lib.hid (HR.out.symm.trans (mkThr_none (vecsOf_bad hkx (by rw [HP.out]; exact hq))))
            have B4 := Lib.hid ((B2.out.after hown.out.bel).after hw)
            have D4 := Lib.hid (bthen (bthen D2.out hown.out.bel) hw)
            clear hw hgr0 hown hcx hq hbox
            unfold vecRet
            obtain ⟨⟨r0, r1⟩, ⟨f0, f1⟩, hrl⟩ := two_facts B4.out
            go_wp2
            exact bodyPost_ret (v := .tuple #[thr0, .bool false]) (by simp [results, Tryd.results112, go_sem, *]) rfl ⟨by rw [hbad.out]; rfl, by repeat (first | exact D4.out | refine bset ?_ (by simp <;> omega) _ | refine balloc ?_ _)⟩
          | some q =>
            obtain ⟨x0, x1, x2⟩ := q
            have hown4 := Lib.hid (hown.out.after hw)
            have hg4 := Lib.hid ((hw.block g3 (Array.getElem?_eq_some_iff.1 hgr0.out).1).trans hgr0.out)
            have hbox4 := Lib.hid (hbox.out.after hw)
            have hnext : Hid (vCells ((ps.take (k + 1)).map fun p => (vecOf p).getD (0, 0, 0)) = vCells ((ps.take k).map fun p => (vecOf p).getD (0, 0, 0)) ++ [.float .f32 x0, .float .f32 x1, .float .f32 x2] ∧ (ps.take (k + 1)).all (fun p => (vecOf p).isSome) = true) := Lib.hid (by
              rw [take_next' _ _ hkx, HP.out, List.map_append, List.all_append, hall.out]
              simp [hq, vCells])
            clear hw hgr0 hown hcx hq hbox hzr
            unfold vecRet v3A
            simp only []
            have hown5 := Lib.hid (hown4.out.alloc (.cells #[.float .f32 x0, .float .f32 x1, .float .f32 x2] 26))
            have hg5 := Lib.hid ((heap_alloc_old w4 (.cells #[.float .f32 x0, .float .f32 x1, .float .f32 x2] 26) (h := (Array.getElem?_eq_some_iff.1 hg4.out).1)).trans hg4.out)
            have hbox5 := Lib.hid (show BoxV (w4.alloc (.cells #[.float .f32 x0, .float .f32 x1, .float .f32 x2] 26)) (w2.heap.size + 1) (.slice va k vc) a from (heap_alloc_old w4 (.cells #[.float .f32 x0, .float .f32 x1, .float .f32 x2] 26) (h := hbox4.out.lt)).trans hbox4.out)
            obtain ⟨⟨t0, t1⟩, _, htl⟩ := two_facts hbox4.out
            clear hown4 hg4 hbox4
            go_wp2_with (at_builtin; go_loud (refine app_k 3 (by omega) rfl (.tmp 53) (.tmp 55) 89 26 _ 12 rfl Tryd.underlying89 info_vec rfl rfl rfl rfl (by simp) (by simp; exact ⟨rfl, rfl, rfl⟩) hown5.out (by omega) (by omega) ?_; intro v1 w5 H1 hgr; obtain ⟨a1, cc1, rfl⟩ := H1.len; simp only [] at H1; rw [← hnext.out.1] at H1; have H2 := Lib.hid H1; have hg6 := Lib.hid (gheap' hgr hg5.out (hown5.out.apart hg5.out (by decide))); have hbox6 := Lib.hid (show BoxV w5 (w2.heap.size + 1) (.slice va k vc) a from gheap' hgr hbox5.out (hown5.out.apart hbox5.out (by decide))); clear H1 hgr hg5 hown5 hbox5 t0 t1 htl; obtain ⟨⟨t0, t1⟩, ⟨f0, f1⟩, htl⟩ := two_facts hbox6.out))
            have ha6 := Lib.hid (H2.out.apart hbox6.out (by decide))
            have hne3 := Lib.hid (show g3 ≠ w2.heap.size + 1 by
              rintro rfl
              have h1 := hbox6.out
              unfold BoxV at h1
              rw [hg6.out] at h1
              simp at h1)
            go_roundw
            case rel => exact ⟨k + 1, .slice a1 (k + 1) cc1, by omega, by simp, Lib.hid (by have := set_heap hbox6.out 0 (.slice a1 (k + 1) cc1); exact this), Lib.hid (H2.out.set ha6.out (by simp) _), Lib.hid ((Below.heap_setCell _ _ _ _ (by simpa using hne3.out)).trans hg6.out), Lib.hid hnext.out.2⟩
            case measure => simp [intOf]; omega
        · obtain rfl : k = n := by omega
          have htk : ps.take k = ps := List.take_of_length_le (by rw [HN.out]; exact Nat.le_refl _)
          rw [htk] at hown hall
          have hvs : Hid (vecsOf ps = some (ps.map fun p => (vecOf p).getD (0, 0, 0))) := Lib.hid (if_pos hall.out)
          have hR2 : Hid (R = if thrB (ps.map (fun p => (vecOf p).getD (0, 0, 0)), a) then some (ps.map (fun p => (vecOf p).getD (0, 0, 0)), a) else none) := Lib.hid (HR.out.symm.trans (mkThr_some hvs.out))
          have hln : Hid ((ps.map fun p => (vecOf p).getD (0, 0, 0)).length = k) := Lib.hid (by rw [List.length_map, HN.out])
          have hkp : 0 < k := by have := HPos.out; have := HN.out; omega
          clear hgr0 hall hvs
          generalize ps.map (fun p => (vecOf p).getD (0, 0, 0)) = vs at *
          obtain ⟨g, cg2, cur, hv2, hb2, hc2, hg1', hg2'⟩ := hown.out.block hkp
          simp only [Value.slice.injEq, true_and] at hv2
          obtain ⟨rfl, rfl⟩ := hv2
          have VB := Lib.hid (show VBlk wr g vs from ⟨cur, hb2, hc2⟩)
          have T := give_c (c := vc) (s := a) VB.out.nums (by rw [hln.out]; omega)
          rw [hln.out] at T
          have HT := Lib.hid T
          have B4 := Lib.hid (B2.out.after hown.out.bel)
          have D4 := Lib.hid (bthen D2.out hown.out.bel)
          have hg3' := Lib.hid (show w.heap.size ≤ g from Nat.le_trans D2.out.size hg1')
          obtain ⟨⟨t0, t1⟩, _, htl⟩ := two_facts hbox.out
          clear T hown hb2 hc2 hbox
          go_wp2_with fail
          refine HT.out.mono ?_
          rintro e w5 ⟨rfl, hw⟩
          have VB5 := Lib.hid (VB.out.after hw)
          have B5 := Lib.hid (B4.out.after hw)
          have D5 := Lib.hid (bthen D4.out hw)
          clear HT hw VB B4 D4 t0 t1 htl
          have hne := Lib.hid (show g ≠ w.heap.size by
            rintro rfl
            obtain ⟨cur', h1, _⟩ := VB5.out
            have := B5.out
            unfold Box0 at this
            rw [h1] at this
            simp at this)
          obtain ⟨⟨r0, r1⟩, ⟨f0, f1⟩, hrl⟩ := two_facts B5.out
          unfold thrV
          cases hT : thrB (vs, a) with
          | false =>
            have hbad : Hid (R = none) := Lib.hid (by rw [hR2.out, hT]; rfl)
            simp only [Bool.false_eq_true, if_false]
            clear hT
            go_wp2
            exact bodyPost_ret (v := .tuple #[thr0, .bool false]) (by simp [results, Tryd.results112, go_sem, *]) rfl ⟨by rw [hbad.out]; rfl, by repeat (first | exact D5.out | refine bset ?_ (by simp <;> omega) _)⟩
          | true =>
            have hgood : Hid (R = some (vs, a)) := Lib.hid (by rw [hR2.out, hT]; rfl)
            simp only [if_true]
            clear hT
            rw [hln.out]
            go_wp2
            exact bodyPost_ret (v := .tuple #[.agg #[.slice (some ⟨g, 0, none⟩) k vc, .float .f32 a], .bool true]) (by simp [results, Tryd.results112, go_sem, *]) rfl ⟨by rw [hgood.out]; exact ⟨g, vc, by unfold thrV; rw [hln.out], hg3'.out, by repeat (first | exact VB5.out | refine VBlk.set ?_ hne.out _), by rw [hln.out]; omega⟩, by repeat (first | exact D5.out | refine bset ?_ (by simp <;> omega) _)⟩
  · have HC := Lib.hid C
    rw [thrOf_len h2]
    obtain ⟨n, hn⟩ : ∃ n, (partsC 59 s).length = n := ⟨_, rfl⟩
    have HN := Lib.hid hn
    rw [hn] at h2
    have h1' : ((n : Int) == 2) = false := by rw [beq_eq_false_iff_ne]; omega
    have h1'' : ((n : Int) != 2) = true := by rw [bne_iff_ne]; omega
    clear h2 hn C hsm hs
    go_enter Tryd.func112, Tryd.ntmps112
    go_wp2_with fail
    have B0 := Lib.hid (Box0.new w)
    have D0 := Lib.hid (below1 w (.cells #[.slice none 0 0, .float .f32 0] 91))
    refine (HC.out _).mono ?_
    rintro e w1 ⟨v, rfl, hv⟩
    have B1 := Lib.hid (B0.out.after hv.bel)
    have D1 := Lib.hid (bthen D0.out hv.bel)
    obtain ⟨va, vc, rfl⟩ := hv.len
    rw [List.length_map, HN.out]
    clear hv B0 D0 HC
    obtain ⟨⟨r0, r1⟩, ⟨f0, f1⟩, hrl⟩ := two_facts B1.out
    go_wp2
    exact bodyPost_ret (v := .tuple #[thr0, .bool false]) (by simp [results, Tryd.results112, go_sem, *]) rfl ⟨rfl, by repeat (first | exact D1.out | refine bset ?_ (by simp <;> omega) _)⟩

/-- A thread that lies somewhere: the block of its points, their room, and what it is. -/
abbrev TM : Type := Nat × Nat × Thr
def tCells (ms : List TM) : List Value := ms.flatMap fun m => [.slice (some ⟨m.1, 0, none⟩) m.2.2.1.length m.2.1, .float .f32 m.2.2.2]
theorem tCells_at : ∀ (ms : List TM) (j : Nat) (m : TM), ms[j]? = some m → (tCells ms)[j * 2]? = some (.slice (some ⟨m.1, 0, none⟩) m.2.2.1.length m.2.1) ∧ (tCells ms)[j * 2 + 1]? = some (.float .f32 m.2.2.2)
  | [], j, p, h => by simp at h
  | q :: r, 0, p, h => by
    simp at h
    subst h
    exact ⟨rfl, rfl⟩
  | q :: r, j + 1, p, h => by
    have ih := tCells_at r j p (by simpa using h)
    have e : tCells (q :: r) = .slice (some ⟨q.1, 0, none⟩) q.2.2.1.length q.2.1 :: .float .f32 q.2.2.2 :: tCells r := rfl
    have e0 : (j + 1) * 2 = j * 2 + 1 + 1 := by omega
    rw [e, e0]
    refine ⟨?_, ?_⟩
    · simpa using ih.1
    · have : j * 2 + 1 + 1 + 1 = (j * 2 + 1) + 1 + 1 := by omega
      rw [this]
      simpa using ih.2
structure ThrList (w0 W : World) (v : Value) (ms : List TM) : Prop where
  own : OwnK w0 W 91 2 v ms.length (tCells ms)
  pts : ∀ m ∈ ms, VBlk W m.1 m.2.2.1 ∧ w0.heap.size ≤ m.1 ∧ 0 < m.2.2.1.length
  apart : ms.Pairwise fun a b => a.1 < b.1
theorem ThrList.after {w0 W W' : World} {v : Value} {ms : List TM} (h : ThrList w0 W v ms) (k : Below W.heap.size W W') : ThrList w0 W' v ms :=
  ⟨h.own.after k, fun m hm => ⟨(h.pts m hm).1.after k, (h.pts m hm).2⟩, h.apart⟩
theorem ThrList.nil {w0 W : World} (h : Below w0.heap.size w0 W) : ThrList w0 (W.alloc (.cells #[] 91)) (.slice (some ⟨W.heap.size, 0, none⟩) 0 0) [] :=
  ⟨OwnK.nil 2 h, (fun m hm => by cases hm), List.Pairwise.nil⟩
theorem ThrList.empty {w0 W : World} (h : Below w0.heap.size w0 W) : ThrList w0 W (.slice none 0 0) [] :=
  ⟨⟨⟨rfl, Or.inl ⟨rfl, rfl⟩⟩, h⟩, (fun m hm => by cases hm), List.Pairwise.nil⟩
/-- One more thread. -/
theorem ThrList.next {w0 W W1 : World} {v v1 : Value} {ms : List TM} {m : TM} (h : ThrList w0 W v ms) (hm : VBlk W m.1 m.2.2.1 ∧ w0.heap.size ≤ m.1 ∧ 0 < m.2.2.1.length) (hlast : ∀ a ∈ ms, a.1 < m.1)
    (H : OwnK w0 W1 91 2 v1 (ms.length + 1) (tCells ms ++ [.slice (some ⟨m.1, 0, none⟩) m.2.2.1.length m.2.1, .float .f32 m.2.2.2])) (hg : W.grownBy W1 v.ownBlock) : ThrList w0 W1 v1 (ms ++ [m]) := by
  have keep : ∀ g vs, VBlk W g vs → VBlk W1 g vs := fun g vs ⟨cur, hb, hc⟩ => ⟨cur, gheap' hg hb (h.own.apart hb (by decide)), hc⟩
  refine ⟨?_, ?_, ?_⟩
  · rw [List.length_append, List.length_cons, List.length_nil]
    have e : tCells (ms ++ [m]) = tCells ms ++ [.slice (some ⟨m.1, 0, none⟩) m.2.2.1.length m.2.1, .float .f32 m.2.2.2] := by simp [tCells]
    rw [e]
    exact H
  · intro a ha
    rcases List.mem_append.1 ha with ha | ha
    · exact ⟨keep _ _ (h.pts a ha).1, (h.pts a ha).2⟩
    · simp at ha
      subst ha
      exact ⟨keep _ _ hm.1, hm.2⟩
  · rw [List.pairwise_append]
    exact ⟨h.apart, by simp, fun a ha b hb => by simp at hb; subst hb; exact hlast a ha⟩

def thrsOf (s : ByteArray) : Option (List Thr) :=
  if s = noneB then some [] else if (partsC 124 s).length ≤ 4 ∧ (partsC 124 s).all (fun p => (thrOf p).isSome) = true then some ((partsC 124 s).map fun p => (thrOf p).getD ([], 0)) else none
theorem thrOf_valid {s : ByteArray} {t : Thr} (h : thrOf s = some t) : thrB t = true := by
  unfold thrOf at h
  split at h
  · unfold mkThr at h
    split at h
    · split at h
      · cases h
        assumption
      · cases h
    · cases h
  · cases h
/-- What a reader of lists of threads answers. -/
def ReadsTs (w w' : World) (r : Option (List Thr)) (e : Ending) : Prop := match r with
  | none => e = .returned (.tuple #[.slice none 0 0, .bool false])
  | some ts => ∃ v ms, e = .returned (.tuple #[v, .bool true]) ∧ ThrList w w' v ms ∧ ms.map (·.2.2) = ts

theorem readThreads_none (w : World) : Calls Tryd.prog 25 #[.string noneB] w fun e w' => ReadsTs w w' (thrsOf noneB) e ∧ Below w.heap.size w w' := by
  rw [show thrsOf noneB = some [] from if_pos rfl]
  unfold noneB
  go_enter Tryd.func25, Tryd.ntmps25
  go_wp2
  exact bodyPost_ret (v := .tuple #[.slice none 0 0, .bool true]) (by simp [results, Tryd.results25, go_sem]) rfl ⟨⟨_, [], rfl, ThrList.empty (Below.refl _ _), rfl⟩, Below.refl _ _⟩
theorem bne_noneB {s : ByteArray} (h : s ≠ noneB) : (s.toList == [110, 111, 110, 101]) = false := by
  cases e : (s.toList == [110, 111, 110, 101]) with
  | false => rfl
  | true => exact absurd (bytes_eq (by rw [← ByteArray.toList_eq, beq_iff_eq.1 e]; rfl)) h

set_option maxRecDepth 100000 in
set_option maxHeartbeats 8000000 in
theorem readThreads_c {s : ByteArray} (h : s ≠ noneB) (hs : s.size ≤ 100000000) {w : World} (hm : MaxLen w) :
    Calls Tryd.prog 25 #[.string s] w fun e w' => ReadsTs w w' (thrsOf s) e ∧ Below w.heap.size w w' := by
  have HM := Lib.hid hm
  have hb := bne_noneB h
  have hR0 : thrsOf s = if (partsC 124 s).length ≤ 4 ∧ (partsC 124 s).all (fun p => (thrOf p).isSome) = true then some ((partsC 124 s).map fun p => (thrOf p).getD ([], 0)) else none := if_neg h
  have KC := fun (W : World) (hm : MaxLen W) => (show Calls Tryd.prog 69 #[.string s, .string ⟨#[124]⟩] W fun e w' => e = .returned (.int .i64 (Lib.countB s ⟨#[124]⟩)) ∧ W = w' by
    obtain ⟨m, hm⟩ := hm
    refine (Tryd.strings_Count_any s ⟨#[124]⟩ m W (by omega) hm (by decide)).mono ?_
    rintro e w' ⟨h1, h2⟩
    exact ⟨h1, h2.symm⟩)
  have KS := fun (W : World) (hm : MaxLen W) => (show Calls Tryd.prog 70 #[.string s, .string ⟨#[124]⟩] W fun e w' => e = .returned (.slice (some ⟨W.heap.size, 0, none⟩) (Lib.countB s ⟨#[124]⟩ + 1) (Lib.countB s ⟨#[124]⟩ + 1)) ∧ w' = W.alloc (.cells ((partsC 124 s).map Value.string).toArray 9) by
    obtain ⟨m, hm⟩ := hm
    exact Tryd.strings_Split s ⟨#[124]⟩ m W (by omega) hm (by decide))
  have hlen := partsC_len 124 s
  have hcnt := partsC_count (c := 124) (s := s)
  have hsm := fun p (h : p ∈ partsC 124 s) => partsC_small h
  rw [hR0]
  clear hR0
  generalize partsC 124 s = ps at *
  generalize Lib.countB s ⟨#[124]⟩ = K at *
  obtain ⟨R, hR⟩ : ∃ R, (if ps.length ≤ 4 ∧ ps.all (fun p => (thrOf p).isSome) = true then some (ps.map fun p => (thrOf p).getD ([], 0)) else none) = R := ⟨_, rfl⟩
  rw [hR]
  have hK : (K : Int) ≤ 100000002 := by omega
  have hK0 : (0 : Int) ≤ K := by omega
  have HR := Lib.hid hR
  have HKC := Lib.hid KC
  have HKS := Lib.hid KS
  have HLen := Lib.hid hlen
  have HSm := Lib.hid (show ∀ p ∈ ps, p.size ≤ 100000000 from fun p h => Nat.le_trans (hsm p h) hs)
  clear hR KC KS hlen hcnt hsm h hs hm
  by_cases h4 : 4 ≤ K
  · have hbad : Hid (R = none) := Lib.hid (by rw [← HR.out, if_neg (fun h => by have := HLen.out; omega)])
    have h4' : (4 : Int) ≤ K := by omega
    clear h4
    go_enter Tryd.func25, Tryd.ntmps25
    go_wp2_with (go_at_call 69; refine (HKC.out _ HM.out).mono ?_; rintro e w3 ⟨rfl, rfl⟩)
    exact bodyPost_ret (v := .tuple #[.slice none 0 0, .bool false]) (by simp [results, Tryd.results25, go_sem]) rfl ⟨by rw [hbad.out]; rfl, Below.refl _ _⟩
  · have h4' : ¬ (4 : Int) ≤ K := by omega
    have h4k : ps.length ≤ 4 := by have := HLen.out; omega
    have H4 := Lib.hid h4k
    clear h4 h4k
    go_enter Tryd.func25, Tryd.ntmps25
    go_wp2_with (first
      | (go_at_call 69; refine (HKC.out _ HM.out).mono ?_; rintro e w3 ⟨rfl, rfl⟩)
      | (go_at_call 70; refine (HKS.out _ (HM.out.after (below1 w _))).mono ?_; rintro e w3 ⟨rfl, rfl⟩))
    have H0 := Lib.hid ((ThrList.nil (Below.refl w.heap.size w)).after (below1 _ (.cells (ps.map Value.string).toArray 9)))
    have G0 := Lib.hid (heap_alloc_new (w.alloc (.cells #[] 91)) (.cells (ps.map Value.string).toArray 9))
    rw [World.size_alloc] at G0
    go_loopw [4, 18] (fun v i wr => ∃ (k : Nat) (ms : List TM), k ≤ K + 1 ∧ i = .int .i64 k ∧ ms.length = k ∧ Hid (ThrList w wr v ms) ∧ Hid (ms.map (·.2.2) = (ps.take k).map fun p => (thrOf p).getD ([], 0)) ∧ Hid (wr.heap[w.heap.size + 1]? = some (.cells (ps.map Value.string).toArray 9 (0, 0))) ∧ Hid ((ps.take k).all (fun p => (thrOf p).isSome) = true))
      (fun _ i _ => K + 1 - (intOf i).toNat)
    case atStart => exact ⟨0, [], Nat.zero_le _, rfl, rfl, H0, Lib.hid rfl, G0, Lib.hid rfl⟩
    case round =>
      obtain ⟨k, ms, hk, rfl, hml, hown, hms, hgr0, hall⟩ := hrel
      clear H0 G0
      obtain ⟨va, vc, hv⟩ := hown.out.own.len
      rw [hml] at hv
      subst hv
      have HML := Lib.hid hml
      clear hml
      by_cases hlt : k < K + 1
      · have hkx : k < ps.length := by rw [← HLen.out]; exact hlt
        obtain ⟨p, hp⟩ : ∃ p, ps[k] = p := ⟨_, rfl⟩
        have hcx : wr.cell? ⟨w.heap.size + 1, k, none⟩ = some (.string p) := cell_of_block hgr0.out (by simp [List.getElem?_eq_getElem hkx, hp])
        have RT := Lib.hid (fun (W : World) hm => readThread_c (s := p) (HSm.out p (by rw [← hp]; exact List.getElem_mem hkx)) (w := W) hm)
        have HP := Lib.hid hp
        clear hp
        go_wp2_with fail
        refine (RT.out _ (HM.out.after hown.out.own.bel)).mono ?_
        rintro e w4 ⟨hr, hw⟩
        have D4 := Lib.hid (bthen hown.out.own.bel hw)
        cases hq : thrOf p with
        | none =>
          have hbad : Hid (R = none) := Lib.hid (by rw [← HR.out, if_neg (fun h => by have := allP_bad (p := fun p => (thrOf p).isSome) hkx (by rw [HP.out, hq]; rfl); rw [this] at h; cases h.2)])
          rw [hq] at hr
          obtain rfl := hr
          clear hw hgr0 hown hcx hq
          go_wp2
          exact bodyPost_ret (v := .tuple #[.slice none 0 0, .bool false]) (by simp [results, Tryd.results25, go_sem]) rfl ⟨by rw [hbad.out]; rfl, by repeat (first | exact D4.out | refine balloc ?_ _)⟩
        | some t =>
          rw [hq] at hr
          obtain ⟨g, c, rfl, hge, hvb, hpos⟩ := hr
          have hown4 := Lib.hid (hown.out.after hw)
          have hg4 := Lib.hid ((hw.block (w.heap.size + 1) (Array.getElem?_eq_some_iff.1 hgr0.out).1).trans hgr0.out)
          have hlast : Hid (∀ a ∈ ms, a.1 < g) := Lib.hid (fun a ha => Nat.lt_of_lt_of_le (hown.out.pts a ha).1.lt hge)
          have hge2 := Lib.hid (Nat.le_trans hown.out.own.bel.size hge)
          have hnext : Hid ((ms ++ [(g, c, t)]).map (·.2.2) = ((ps.take (k + 1)).map fun p => (thrOf p).getD ([], 0)) ∧ (ps.take (k + 1)).all (fun p => (thrOf p).isSome) = true) := Lib.hid (by
            rw [take_next' _ _ hkx, HP.out, List.map_append, List.map_append, List.all_append, hall.out, hms.out]
            simp [hq])
          have HVB := Lib.hid hvb
          have HPos := Lib.hid hpos
          clear hw hgr0 hown hcx hq hge hvb hpos
          obtain ⟨vs, sp⟩ := t
          unfold thrV
          simp only []
          generalize hvl : vs.length = q at *
          have HVL := Lib.hid hvl
          clear hvl
          have hown5 := Lib.hid (hown4.out.after (below1 _ (.cells #[.slice (some ⟨g, 0, none⟩) q c, .float .f32 sp] 91)))
          have hg5 := Lib.hid ((heap_alloc_old w4 (.cells #[.slice (some ⟨g, 0, none⟩) q c, .float .f32 sp] 91) (h := (Array.getElem?_eq_some_iff.1 hg4.out).1)).trans hg4.out)
          have HVB5 := Lib.hid (HVB.out.after (below1 _ (.cells #[.slice (some ⟨g, 0, none⟩) q c, .float .f32 sp] 91)))
          clear hown4 hg4 HVB
          have OK5 := Lib.hid hown5.out.own
          rw [HML.out] at OK5
          go_wp2_with (at_builtin; go_loud (refine app_k 2 (by omega) rfl (.tmp 29) (.tmp 31) 40 91 _ 32 rfl Tryd.underlying40 info_thread rfl rfl rfl rfl (by simp) (by simp; exact ⟨rfl, rfl⟩) OK5.out (by omega) (by omega) ?_; intro v1 w5 H1 hgr))
          simp only [] at H1
          have hg6 := Lib.hid (gheap' hgr hg5.out (OK5.out.apart hg5.out (by decide)))
          have H2 := Lib.hid (ThrList.next (m := (g, c, (vs, sp))) hown5.out ⟨HVB5.out, hge2.out, by have := HPos.out; simpa [HVL.out] using this⟩ hlast.out (by rw [HML.out]; simp only [HVL.out]; exact H1) hgr)
          clear H1 hgr hg5 hown5 OK5
          go_wp2
          go_roundw
          case rel => exact ⟨k + 1, ms ++ [(g, c, (vs, sp))], by omega, by simp, by simp [HML.out], H2, Lib.hid hnext.out.1, hg6, Lib.hid hnext.out.2⟩
          case measure => simp [intOf]; omega
      · obtain rfl : k = K + 1 := by omega
        have htk : ps.take (K + 1) = ps := List.take_of_length_le (by rw [HLen.out]; exact Nat.le_refl _)
        rw [htk] at hms hall
        have hgood : Hid (R = some (ps.map fun p => (thrOf p).getD ([], 0))) := Lib.hid (by rw [← HR.out, if_pos ⟨H4.out, hall.out⟩])
        go_wp2
        exact bodyPost_ret (v := .tuple #[.slice va (K + 1) vc, .bool true]) (by simp [results, Tryd.results25, go_sem]) rfl ⟨by rw [hgood.out]; exact ⟨_, ms, rfl, hown.out, hms.out⟩, hown.out.own.bel⟩

set_option maxRecDepth 100000 in
theorem l06Are_c {w0 w : World} {v : Value} {ms : List TM} (h : ThrList w0 w v ms) (hv : ∀ m ∈ ms, thrB m.2.2 = true) (hl : ms.length ≤ 1000000000) :
    Calls Tryd.prog 113 #[v] w fun e w' => e = .returned (.bool (decide (ms.length ≤ 4))) ∧ Below w.heap.size w w' := by
  obtain ⟨va, vc, rfl⟩ := h.own.len
  obtain ⟨n, hn⟩ : ∃ n, ms.length = n := ⟨_, rfl⟩
  rw [hn] at hl ⊢
  have hn0 : (0 : Int) ≤ n := by omega
  have hn1 : (n : Int) ≤ 1000000000 := by omega
  have HN := Lib.hid hn
  by_cases h4 : n ≤ 4
  · have hr : Hid (decide (n ≤ 4) = true) := Lib.hid (decide_eq_true h4)
    have q4 : (n : Int) ≤ 4 := by omega
    by_cases h0 : n = 0
    · subst h0
      clear h4 q4 hn hl
      go_enter Tryd.func113, Tryd.ntmps113
      go_wp2_with fail
      refine wp_loop_rounds 1 ?_
      rw [rounds_succ]
      go_wp2
      go_ret
      exact ⟨by rw [hr.out]; rfl, Below.refl _ _⟩
    · obtain ⟨g, c, cur, he, hb, hc, hg1, hg2⟩ := h.own.block (by omega)
      rw [hn] at he
      simp only [Value.slice.injEq, true_and] at he
      obtain ⟨rfl, rfl⟩ := he
      have HB := Lib.hid hb
      have HC := Lib.hid hc
      have HT := Lib.hid h.pts
      have HV := Lib.hid hv
      clear h4 hn hl h hv hb hc h0 hg1
      go_enter Tryd.func113, Tryd.ntmps113
      go_wp2_with fail
      go_loopw [3] (fun i wr => ∃ k : Nat, k ≤ n ∧ i = .int .i64 k ∧ Hid (Below w.heap.size w wr)) (fun i _ => n - (intOf i).toNat)
      case atStart => exact ⟨0, Nat.zero_le _, rfl, Lib.hid (Below.refl _ _)⟩
      case round =>
        obtain ⟨k, hk, rfl, hbel⟩ := hrel
        by_cases hlt : k < n
        · have hkx : k < ms.length := by rw [HN.out]; exact hlt
          obtain ⟨m, hm⟩ : ∃ m, ms[k] = m := ⟨_, rfl⟩
          obtain ⟨i0, i1⟩ := tCells_at ms k m (by rw [List.getElem?_eq_getElem hkx, hm])
          have hmem : m ∈ ms := by rw [← hm]; exact List.getElem_mem hkx
          have hbr := (hbel.out.block g (Array.getElem?_eq_some_iff.1 HB.out).1).trans HB.out
          have k0 := cell_of_block hbr (HC.out _ _ i0)
          have k1 := cell_of_block hbr (HC.out _ _ i1)
          have hzr := hbel.out.size
          have I := l06Is_c (b := g) (o := k * 2) (c := m.2.1) (s := m.2.2.2) (vs := m.2.2.1) ((HT.out m hmem).1.after hbel.out).nums k0 k1 (by omega) (by have := HV.out m hmem; unfold thrB at this; simp at this; omega)
          rw [show thrB (m.2.2.1, m.2.2.2) = true from HV.out m hmem] at I
          have HI := Lib.hid I
          clear I hm i0 i1 hmem hbr k0 k1 hkx
          go_wp2_with (go_at_call 136; refine HI.out.mono ?_; rintro e w1 ⟨rfl, hw⟩; have hb1 := Lib.hid (bthen hbel.out hw); clear hw)
          go_roundw
          case rel => exact ⟨k + 1, by omega, by simp, hb1⟩
          case measure => simp [intOf]; omega
        · obtain rfl : k = n := by omega
          go_wp2
          go_ret
          exact ⟨by rw [hr.out]; rfl, hbel.out⟩
  · have hr : Hid (decide (n ≤ 4) = false) := Lib.hid (decide_eq_false h4)
    have q4 : ¬ (n : Int) ≤ 4 := by omega
    have q0 : (0 : Int) < n := by omega
    clear h4 hn hl
    go_enter Tryd.func113, Tryd.ntmps113
    go_wp2_with fail
    refine wp_loop_rounds 1 ?_
    rw [rounds_succ]
    go_wp2
    go_ret
    exact ⟨by rw [hr.out]; simp; omega, Below.refl _ _⟩

theorem specThreads_none (w : World) : Calls Tryd.prog 68 #[.string noneB] w fun e w' => ReadsTs w w' (thrsOf noneB) e ∧ Below w.heap.size w w' := by
  rw [show thrsOf noneB = some [] from if_pos rfl]
  unfold noneB
  go_enter Tryd.func68, Tryd.ntmps68
  go_wp2
  exact bodyPost_ret (v := .tuple #[.slice (some ⟨w.heap.size, 0, none⟩) 0 0, .bool true]) (by simp [results, Tryd.results68, go_sem]) rfl ⟨⟨_, [], rfl, ThrList.nil (Below.refl _ _), rfl⟩, below1 _ _⟩

set_option maxRecDepth 100000 in
set_option maxHeartbeats 8000000 in
theorem specThreads_c {s : ByteArray} (h : s ≠ noneB) (hs : s.size ≤ 100000000) {w : World} :
    Calls Tryd.prog 68 #[.string s] w fun e w' => ReadsTs w w' (thrsOf s) e ∧ Below w.heap.size w w' := by
  have hb := bne_noneB h
  have hR0 : thrsOf s = if (partsC 124 s).length ≤ 4 ∧ (partsC 124 s).all (fun p => (thrOf p).isSome) = true then some ((partsC 124 s).map fun p => (thrOf p).getD ([], 0)) else none := if_neg h
  have C := fun w => l01Cut_c s 124 hs (w := w)
  have hcnt := partsC_count (c := 124) (s := s)
  have hpos := partsC_pos 124 s
  have hsm := fun p (h : p ∈ partsC 124 s) => partsC_small h
  rw [hR0]
  clear hR0
  generalize partsC 124 s = ps at *
  obtain ⟨R, hR⟩ : ∃ R, (if ps.length ≤ 4 ∧ ps.all (fun p => (thrOf p).isSome) = true then some (ps.map fun p => (thrOf p).getD ([], 0)) else none) = R := ⟨_, rfl⟩
  rw [hR]
  obtain ⟨n, hn⟩ : ∃ n, ps.length = n := ⟨_, rfl⟩
  have hn1 : (n : Int) ≤ 100000002 := by omega
  have hn0 : (0 : Int) ≤ n := by omega
  have HR := Lib.hid hR
  have HC := Lib.hid C
  have HN := Lib.hid hn
  have HPos := Lib.hid hpos
  have HSm := Lib.hid (show ∀ p ∈ ps, p.size ≤ 100000000 from fun p h => Nat.le_trans (hsm p h) hs)
  clear hR C hn hcnt hsm h hs hpos
  go_enter Tryd.func68, Tryd.ntmps68
  go_wp2_with fail
  refine (HC.out _).mono ?_
  rintro e w1 ⟨v, rfl, hv⟩
  obtain ⟨g3, c3, cur3, rfl, hgb, hcur3, hg31, hg32⟩ := hv.block (by simpa using HPos.out)
  rw [List.length_map, HN.out]
  have H0 := Lib.hid ((ThrList.nil (Below.refl w.heap.size w)).after hv.bel)
  have G0 := Lib.hid hgb
  have HCur := Lib.hid hcur3
  clear hv hgb hcur3 HC hg31
  go_wp2_with fail
  go_loopw [4, 6] (fun v i wr => ∃ (k : Nat) (ms : List TM), k ≤ n ∧ i = .int .i64 k ∧ ms.length = k ∧ Hid (ThrList w wr v ms) ∧ Hid (ms.map (·.2.2) = (ps.take k).map fun p => (thrOf p).getD ([], 0)) ∧ Hid (wr.heap[g3]? = some (.cells cur3 9 (0, 0))) ∧ Hid ((ps.take k).all (fun p => (thrOf p).isSome) = true))
    (fun _ i _ => n - (intOf i).toNat)
  case atStart => exact ⟨0, [], Nat.zero_le _, rfl, rfl, H0, Lib.hid rfl, G0, Lib.hid rfl⟩
  case round =>
    obtain ⟨k, ms, hk, rfl, hml, hown, hms, hgr0, hall⟩ := hrel
    clear H0 G0
    obtain ⟨va, vc, hv⟩ := hown.out.own.len
    rw [hml] at hv
    subst hv
    have HML := Lib.hid hml
    clear hml
    by_cases hlt : k < n
    · have hkx : k < ps.length := by rw [HN.out]; exact hlt
      obtain ⟨p, hp⟩ : ∃ p, ps[k] = p := ⟨_, rfl⟩
      have hcx : wr.cell? ⟨g3, k, none⟩ = some (.string p) := cell_of_block hgr0.out (HCur.out k _ (by simp [List.getElem?_eq_getElem hkx, hp]))
      have RT := Lib.hid (fun (W : World) => specThread_c (s := p) (HSm.out p (by rw [← hp]; exact List.getElem_mem hkx)) (w := W))
      have HP := Lib.hid hp
      clear hp
      go_wp2_with fail
      refine (RT.out _).mono ?_
      rintro e w4 ⟨hr, hw⟩
      have D4 := Lib.hid (bthen hown.out.own.bel hw)
      cases hq : thrOf p with
      | none =>
        have hbad : Hid (R = none) := Lib.hid (by rw [← HR.out, if_neg (fun h => by have := allP_bad (p := fun p => (thrOf p).isSome) hkx (by rw [HP.out, hq]; rfl); rw [this] at h; cases h.2)])
        rw [hq] at hr
        obtain rfl := hr
        clear hw hgr0 hown hcx hq
        go_wp2
        exact bodyPost_ret (v := .tuple #[.slice none 0 0, .bool false]) (by simp [results, Tryd.results68, go_sem]) rfl ⟨by rw [hbad.out]; rfl, by repeat (first | exact D4.out | refine balloc ?_ _)⟩
      | some t =>
        rw [hq] at hr
        obtain ⟨g, c, rfl, hge, hvb, hpos⟩ := hr
        have hown4 := Lib.hid (hown.out.after hw)
        have hg4 := Lib.hid ((hw.block g3 (Array.getElem?_eq_some_iff.1 hgr0.out).1).trans hgr0.out)
        have hlast : Hid (∀ a ∈ ms, a.1 < g) := Lib.hid (fun a ha => Nat.lt_of_lt_of_le (hown.out.pts a ha).1.lt hge)
        have hge2 := Lib.hid (Nat.le_trans hown.out.own.bel.size hge)
        have hnext : Hid ((ms ++ [(g, c, t)]).map (·.2.2) = ((ps.take (k + 1)).map fun p => (thrOf p).getD ([], 0)) ∧ (ps.take (k + 1)).all (fun p => (thrOf p).isSome) = true) := Lib.hid (by
          rw [take_next' _ _ hkx, HP.out, List.map_append, List.map_append, List.all_append, hall.out, hms.out]
          simp [hq])
        have HVB := Lib.hid hvb
        have HPs := Lib.hid hpos
        clear hw hgr0 hown hcx hq hge hvb hpos
        obtain ⟨vs, sp⟩ := t
        unfold thrV
        simp only []
        generalize hvl : vs.length = q at *
        have HVL := Lib.hid hvl
        clear hvl
        have hown5 := Lib.hid (hown4.out.after (below1 _ (.cells #[.slice (some ⟨g, 0, none⟩) q c, .float .f32 sp] 91)))
        have hg5 := Lib.hid ((heap_alloc_old w4 (.cells #[.slice (some ⟨g, 0, none⟩) q c, .float .f32 sp] 91) (h := (Array.getElem?_eq_some_iff.1 hg4.out).1)).trans hg4.out)
        have HVB5 := Lib.hid (HVB.out.after (below1 _ (.cells #[.slice (some ⟨g, 0, none⟩) q c, .float .f32 sp] 91)))
        clear hown4 hg4 HVB
        have OK5 := Lib.hid hown5.out.own
        rw [HML.out] at OK5
        go_wp2_with (at_builtin; go_loud (refine app_k 2 (by omega) rfl (.tmp 31) (.tmp 33) 40 91 _ 32 rfl Tryd.underlying40 info_thread rfl rfl rfl rfl (by simp) (by simp; exact ⟨rfl, rfl⟩) OK5.out (by omega) (by omega) ?_; intro v1 w5 H1 hgr))
        simp only [] at H1
        have hg6 := Lib.hid (gheap' hgr hg5.out (OK5.out.apart hg5.out (by decide)))
        have H2 := Lib.hid (ThrList.next (m := (g, c, (vs, sp))) hown5.out ⟨HVB5.out, hge2.out, by have := HPs.out; simpa [HVL.out] using this⟩ hlast.out (by rw [HML.out]; simp only [HVL.out]; exact H1) hgr)
        clear H1 hgr hg5 hown5 OK5
        go_wp2
        go_roundw
        case rel => exact ⟨k + 1, ms ++ [(g, c, (vs, sp))], by omega, by simp, by simp [HML.out], H2, Lib.hid hnext.out.1, hg6, Lib.hid hnext.out.2⟩
        case measure => simp [intOf]; omega
    · obtain rfl : k = n := by omega
      have htk : ps.take k = ps := List.take_of_length_le (by rw [HN.out]; exact Nat.le_refl _)
      rw [htk] at hms hall
      have hval : Hid (∀ m ∈ ms, thrB m.2.2 = true) := Lib.hid (fun m hm => by
        have h1 : m.2.2 ∈ ms.map (·.2.2) := List.mem_map_of_mem hm
        rw [hms.out] at h1
        obtain ⟨p, hp, he⟩ := List.mem_map.1 h1
        have hs := List.all_eq_true.1 hall.out p hp
        obtain ⟨t, ht⟩ := Option.isSome_iff_exists.1 hs
        rw [ht] at he
        rw [← he]
        exact thrOf_valid ht)
      have A := l06Are_c hown.out hval.out (by rw [HML.out]; omega)
      rw [HML.out] at A
      have HA := Lib.hid A
      have D := Lib.hid hown.out.own.bel
      clear A hgr0
      by_cases h4 : k ≤ 4
      · have hgood : Hid (R = some (ps.map fun p => (thrOf p).getD ([], 0))) := Lib.hid (by rw [← HR.out, if_pos ⟨by rw [HN.out]; exact h4, hall.out⟩])
        rw [decide_eq_true h4] at HA
        clear h4
        go_wp2_with (go_at_call 113; refine HA.out.mono ?_; rintro e w5 ⟨rfl, hw⟩; have HO5 := Lib.hid (hown.out.after hw); have D5 := Lib.hid (bthen D.out hw); clear hw)
        exact bodyPost_ret (v := .tuple #[.slice va k vc, .bool true]) (by simp [results, Tryd.results68, go_sem]) rfl ⟨by rw [hgood.out]; exact ⟨_, ms, rfl, HO5.out, hms.out⟩, D5.out⟩
      · have hbad : Hid (R = none) := Lib.hid (by rw [← HR.out, if_neg (fun h => h4 (by rw [HN.out] at h; exact h.1))])
        rw [decide_eq_false h4] at HA
        clear h4
        go_wp2_with (go_at_call 113; refine HA.out.mono ?_; rintro e w5 ⟨rfl, hw⟩; have D5 := Lib.hid (bthen D.out hw); clear hw)
        exact bodyPost_ret (v := .tuple #[.slice none 0 0, .bool false]) (by simp [results, Tryd.results68, go_sem]) rfl ⟨by rw [hbad.out]; rfl, D5.out⟩
end Go.Proofs.YtglnfccglgladaaDoor
