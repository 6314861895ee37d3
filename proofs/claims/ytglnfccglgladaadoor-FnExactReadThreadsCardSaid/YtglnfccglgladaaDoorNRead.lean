/-
  Texts cut at a mark: what strings.Split makes of them, and what the reference's own cutting makes, is the same.
  A list of numbers read from a text, as the reference reads it.
-/
import Derived.Test.YtglnfccglgladaaDoorRead5
import Derived.Test.YtglnfccglgladaaDoorShelf2
import Derived.Test.YtglnfccglgladaaDoorDraw2
namespace Go.Proofs.YtglnfccglgladaaDoor
open Go.RowKit
set_option linter.unusedVariables false

def cutGo (c : UInt8) : List UInt8 → List UInt8 → List (List UInt8)
  | [], cur => [cur]
  | x :: xs, cur => if x = c then cur :: cutGo c xs [] else cutGo c xs (cur ++ [x])
theorem cutGo_no {c : UInt8} : ∀ (s cur : List UInt8), c ∉ s → cutGo c s cur = [cur ++ s]
  | [], cur, _ => by simp [cutGo]
  | x :: xs, cur, h => by
    have h1 : ¬ x = c := fun e => h (by simp [e])
    have h2 : c ∉ xs := fun e => h (by simp [e])
    rw [cutGo, if_neg h1, cutGo_no xs _ h2]
    simp
theorem cutGo_at {c : UInt8} (r : List UInt8) : ∀ (x cur : List UInt8), c ∉ x → cutGo c (x ++ c :: r) cur = (cur ++ x) :: cutGo c r []
  | [], cur, _ => by simp [cutGo]
  | y :: ys, cur, h => by
    have h1 : ¬ y = c := fun e => h (by simp [e])
    have h2 : c ∉ ys := fun e => h (by simp [e])
    rw [List.cons_append, cutGo, if_neg h1, cutGo_at r ys _ h2]
    simp
theorem cutGo_pos (c : UInt8) (s cur : List UInt8) : 0 < (cutGo c s cur).length := by
  by_cases h : c ∈ s
  · obtain ⟨x, r, rfl, hx⟩ := List.eq_append_cons_of_mem h
    rw [cutGo_at r x cur hx]
    simp
  · rw [cutGo_no s cur h]
    simp

theorem indexC_no {c : UInt8} {s : List UInt8} (h : c ∉ s) : Lib.index s [c] = -1 := by
  apply Lib.index_none
  intro j hj
  cases e : Lib.occAt s [c] j with
  | false => rfl
  | true => exact absurd (List.mem_of_getElem? (Lib.occAt_head rfl e)) h
theorem indexC_at {c : UInt8} {x r : List UInt8} (h : c ∉ x) : Lib.index (x ++ c :: r) [c] = x.length := by
  refine Lib.index_first (by simp) (by simp [Lib.occAt]) ?_
  intro j hj
  cases e : Lib.occAt (x ++ c :: r) [c] j with
  | false => rfl
  | true =>
    have := Lib.occAt_head rfl e
    rw [List.getElem?_append_left hj] at this
    exact absurd (List.mem_of_getElem? this) h
theorem splitK_cut (c : UInt8) : ∀ (n : Nat) (s : List UInt8), s.length ≤ n → Lib.count s [c] + 1 = (cutGo c s []).length ∧ Lib.splitK [c] 0 (Lib.count s [c]) s = cutGo c s []
  | 0, s, h => by
    have : s = [] := List.length_eq_zero_iff.1 (by omega)
    subst this
    exact ⟨rfl, rfl⟩
  | n + 1, s, h => by
    by_cases hm : c ∈ s
    · obtain ⟨x, r, rfl, hx⟩ := List.eq_append_cons_of_mem hm
      have hi := indexC_at (r := r) hx
      have hd : (x ++ c :: r).drop (x.length + [c].length) = r := by
        rw [List.drop_append]
        simp
      have ih := splitK_cut c n r (by simp at h; omega)
      rw [Lib.count_hit (by simp) hi, hd, Nat.add_comm 1, cutGo_at r x [] hx, Lib.splitK, hi]
      have hne : ¬ (((x.length : Int)) == -1) = true := by simp
      rw [if_neg hne, Int.toNat_natCast, hd, ih.2]
      refine ⟨by rw [List.length_cons, ih.1], ?_⟩
      simp
    · rw [Lib.count_miss (indexC_no hm), cutGo_no s [] hm]
      exact ⟨rfl, rfl⟩

/-- The parts of a text between marks. -/
def partsC (c : UInt8) (s : ByteArray) : List ByteArray := Lib.splitB ⟨#[c]⟩ 0 (Lib.countB s ⟨#[c]⟩) s
theorem partsC_data (c : UInt8) (s : ByteArray) : (partsC c s).map (·.data.toList) = cutGo c s.data.toList [] := by
  rw [partsC, Lib.splitB_data]
  exact (splitK_cut c _ s.data.toList (Nat.le_refl _)).2
theorem partsC_len (c : UInt8) (s : ByteArray) : Lib.countB s ⟨#[c]⟩ + 1 = (partsC c s).length := by
  have h := congrArg List.length (partsC_data c s)
  rw [List.length_map] at h
  rw [h]
  exact (splitK_cut c _ s.data.toList (Nat.le_refl _)).1
theorem map_data_inj : ∀ (a b : List ByteArray), a.map (·.data.toList) = b.map (·.data.toList) → a = b
  | [], [], _ => rfl
  | [], _ :: _, h => by simp at h
  | _ :: _, [], h => by simp at h
  | x :: a, y :: b, h => by
    simp only [List.map_cons, List.cons.injEq] at h
    rw [bytes_eq h.1, map_data_inj a b h.2]
theorem partsC_small {c : UInt8} {s p : ByteArray} (h : p ∈ partsC c s) : p.size ≤ s.size := splitBC_small c _ _ _ h
  where splitBC_small (c : UInt8) : ∀ (k : Nat) (s p : ByteArray), p ∈ Lib.splitB ⟨#[c]⟩ 0 k s → p.size ≤ s.size
    | k, s, p, h => splitB_small _ k s p h
theorem partsC_count {c : UInt8} {s : ByteArray} : (partsC c s).length ≤ s.size + 2 := by
  rw [← partsC_len]
  have h := Lib.count_le s.data.toList [c]
  rw [lenL] at h
  exact Nat.succ_le_succ h

/-- One round of the reference's cutting. -/
theorem cut_mark {c : UInt8} {l : List UInt8} {i f : Nat} (hi : i < l.length) (hf : f ≤ i) (h : l[i] = c) : cutGo c (l.drop i) ((l.drop f).take (i - f)) = (l.drop f).take (i - f) :: cutGo c (l.drop (i + 1)) ((l.drop (i + 1)).take (i + 1 - (i + 1))) := by
  rw [List.drop_eq_getElem_cons hi, cutGo, if_pos h]
  simp
theorem cut_plain {c : UInt8} {l : List UInt8} {i f : Nat} (hi : i < l.length) (hf : f ≤ i) (h : ¬ l[i] = c) : cutGo c (l.drop i) ((l.drop f).take (i - f)) = cutGo c (l.drop (i + 1)) ((l.drop f).take (i + 1 - f)) := by
  rw [List.drop_eq_getElem_cons hi, cutGo, if_neg h]
  congr 1
  have e : i + 1 - f = i - f + 1 := by omega
  rw [e, List.take_add_one, List.getElem?_drop]
  have e2 : f + (i - f) = i := by omega
  rw [e2, List.getElem?_eq_getElem hi]
  rfl
theorem cut_end {c : UInt8} {l : List UInt8} {f : Nat} (hf : f ≤ l.length) : cutGo c (l.drop l.length) ((l.drop f).take (l.length - f)) = [(l.drop f).take (l.length - f)] := by
  rw [List.drop_length, cutGo]

/-- What is done and what is still to do. -/
def CutAt (c : UInt8) (l : List UInt8) (i f : Nat) (ds : List ByteArray) : Prop := f ≤ i ∧ i ≤ l.length + 1 ∧
  ((i ≤ l.length ∧ cutGo c l [] = ds.map (·.data.toList) ++ cutGo c (l.drop i) ((l.drop f).take (i - f))) ∨ (i = l.length + 1 ∧ cutGo c l [] = ds.map (·.data.toList)))

section
variable {P : Program} {ops : Array Oper} {rest : List Oper} {o : Oper} {a : Act} {Q : Exit → Act → World → Prop}
/-- v = append(v, y), of a long list. -/
theorem app_long {w0 W : World} (hgd : o.guard = none) (s x : Operand) (t e : TypeId) (z : Value) (bytes : Nat)
    (ho : o.op = .call { callee := .builtin .append, args := #[s, x], argTypes := #[t, t] })
    (ht : P.underlying t = some (.slice e)) (hinfo : (P.info? e).map (fun i => (i.zero, i.size, i.bytes)) = some (some z, 1, bytes)) (hz : z.cells.size = 1)
    {v : Value} {xs : List Value} {y : Value} {bk : Nat} (hs : a.eval s = v) (hx : a.eval x = .slice (some ⟨bk, 0, none⟩) 1 1) (hbk : bk = W.heap.size) (h1 : y.oneCell' = true)
    (H : Own w0 W e v xs) (hl : xs.length ≤ 1000000000) (hb : bytes ≤ 1000)
    (h : ∀ v1 w1, Own w0 w1 e v1 (xs ++ [y]) → W.grownBy w1 v.ownBlock → wpList P ops Q rest (a.put o.dst v1) w1) :
    wpList P ops Q (o :: rest) a (W.alloc (.cells #[y] e)) := by
  subst hbk
  obtain ⟨i0, hi, hzz⟩ := Option.map_eq_some_iff.1 hinfo
  simp only [Prod.mk.injEq] at hzz
  obtain ⟨hz0, hz1, hz2⟩ := hzz
  have hbig : (xs.length + 1) * bytes ≤ 140737488355328 := by
    have : (xs.length + 1) * bytes ≤ 1000000001 * 1000 := Nat.mul_le_mul (by omega) hb
    omega
  refine wpList_append_own (W.alloc (.cells #[y] e)) hgd s x t ho w0.heap.size e i0 z 1 bytes ht hi hz0 hz1 hz2 hz (by omega) v xs.length xs hs (H.row.alloc _) ⟨W.heap.size, 0, none⟩ 1 1 [y] hx rfl
    (cell_one_new _ _ _) (by simpa using h1) (by simp only [maxLen]; omega) hbig (by have := H.bel.size; simp; omega) ?_
  intro v1 w1 hown hg _
  have hg' : W.grownBy w1 v.ownBlock := World.grownBy.trans (World.grownBy_alloc W _ _) hg
  refine h v1 w1 ⟨by simpa using hown, H.bel.grown hg' H.bel.size (fun k hk => (H.row.lt k hk).1)⟩ hg'
end

theorem CutAt.start (c : UInt8) (l : List UInt8) : CutAt c l 0 0 [] := ⟨Nat.le_refl _, by omega, Or.inl ⟨Nat.zero_le _, by simp⟩⟩
theorem CutAt.mark {c : UInt8} {s : ByteArray} {i f : Nat} {ds : List ByteArray} (h : CutAt c s.data.toList i f ds) (hi : i < s.data.toList.length) (he : s.data.toList[i] = c) : CutAt c s.data.toList (i + 1) (i + 1) (ds ++ [s.extract f i]) := by
  obtain ⟨hf, _, h | h⟩ := h
  · refine ⟨Nat.le_refl _, by omega, Or.inl ⟨by omega, ?_⟩⟩
    rw [h.2, cut_mark hi hf he, List.map_append, List.append_assoc]
    congr 1
    simp
  · omega
theorem CutAt.plain {c : UInt8} {s : ByteArray} {i f : Nat} {ds : List ByteArray} (h : CutAt c s.data.toList i f ds) (hi : i < s.data.toList.length) (he : ¬ s.data.toList[i] = c) : CutAt c s.data.toList (i + 1) f ds := by
  obtain ⟨hf, _, h | h⟩ := h
  · refine ⟨by omega, by omega, Or.inl ⟨by omega, ?_⟩⟩
    rw [h.2, cut_plain hi hf he]
  · omega
theorem CutAt.last {c : UInt8} {s : ByteArray} {f : Nat} {ds : List ByteArray} (h : CutAt c s.data.toList s.size f ds) : CutAt c s.data.toList (s.size + 1) (s.size + 1) (ds ++ [s.extract f s.size]) := by
  have hl := lenL s
  obtain ⟨hf, _, h | h⟩ := h
  · refine ⟨Nat.le_refl _, by omega, Or.inr ⟨by omega, ?_⟩⟩
    rw [h.2, ← hl, cut_end (by omega), List.map_append]
    congr 1
    simp
  · omega
theorem CutAt.fin {c : UInt8} {s : ByteArray} {f : Nat} {ds : List ByteArray} (h : CutAt c s.data.toList (s.size + 1) f ds) : partsC c s = ds := by
  have hl := lenL s
  obtain ⟨hf, _, h | h⟩ := h
  · omega
  · exact map_data_inj _ _ (by rw [partsC_data, h.2])
theorem CutAt.short {c : UInt8} {l : List UInt8} {i f : Nat} {ds : List ByteArray} (h : CutAt c l i f ds) : f ≤ i := h.1

set_option maxRecDepth 100000 in
set_option maxHeartbeats 4000000 in
theorem l01Cut_c (s : ByteArray) (c : UInt8) (hs : s.size ≤ 100000000) {w : World} :
    Calls Tryd.prog 111 #[.string s, .int .u8 c.toNat] w fun e w' => ∃ v, e = .returned v ∧ Own w w' 9 v ((partsC c s).map Value.string) := by
  have hs' : (s.size : Int) ≤ 100000000 := by omega
  have h0 : (0 : Int) ≤ (s.size : Int) := by omega
  go_enter Tryd.func111, Tryd.ntmps111
  go_wp2
  have H0 := Lib.hid (Own.lit (e := 9) (Below.refl w.heap.size w) #[] 0 (by omega) rfl)
  go_loopw [5, 6, 7] (fun v f i wr => ∃ (k g : Nat) (ds : List ByteArray), f = .int .i64 g ∧ i = .int .i64 k ∧ g ≤ k ∧ k ≤ s.size + 1 ∧ ds.length ≤ k ∧ Hid (CutAt c s.data.toList k g ds) ∧ Hid (Own w wr 9 v (ds.map Value.string)))
    (fun _ _ i _ => s.size + 1 - (intOf i).toNat)
  case atStart => exact ⟨0, 0, [], rfl, rfl, Nat.le_refl _, by omega, by simp, Lib.hid (CutAt.start _ _), H0⟩
  case round =>
    obtain ⟨k, g, ds, rfl, rfl, hgk, hk, hdl, hcut, hown⟩ := hrel
    clear H0
    have hlen := lenL s
    have HLn := Lib.hid hlen
    clear hlen
    by_cases hlt : k < s.size
    · have hkl : k < s.data.toList.length := by rw [HLn.out]; exact hlt
      have hkk : Hid (s.data.toList[k] = s[k]'hlt) := Lib.hid rfl
      by_cases hc : s[k]'hlt = c
      · have hnext := Lib.hid (hcut.out.mark hkl (by rw [hkk.out, hc]))
        have hcb : (((s[k]'hlt).toNat : Int) == (c.toNat : Int)) = true := by rw [hc]; simp
        clear hc hkk hkl hcut
        go_wp2_with (at_builtin; go_loud (refine app_long rfl (.tmp 26) (.tmp 31) 87 9 (.string ⟨#[]⟩) 16 rfl Tryd.underlying87 info_str rfl rfl rfl (by simp) rfl hown.out (by simp; omega) (by omega) ?_; intro v1 w2 H1 hgr))
        have H2 := Lib.hid H1
        clear H1 hgr hown
        go_wp2
        go_roundw
        case rel => exact ⟨k + 1, k + 1, ds ++ [s.extract g k], by simp, by simp, by omega, by omega, by simp; omega, hnext, by simpa using H2⟩
        case measure => simp [intOf]; omega
      · have hnext := Lib.hid (hcut.out.plain hkl (by rw [hkk.out]; exact hc))
        have hcb : (((s[k]'hlt).toNat : Int) == (c.toNat : Int)) = false := by
          rw [beq_eq_false_iff_ne]
          intro h
          exact hc (UInt8.toNat_inj.1 (by omega))
        clear hc hkk hkl hcut
        go_wp2
        go_roundw
        case rel => exact ⟨k + 1, g, ds, rfl, by simp, by omega, by omega, by omega, hnext, hown⟩
        case measure => simp [intOf]; omega
    · by_cases hk1 : k = s.size
      · subst hk1
        have hnext := Lib.hid hcut.out.last
        clear hcut
        go_wp2_with (at_builtin; go_loud (refine app_long rfl (.tmp 26) (.tmp 31) 87 9 (.string ⟨#[]⟩) 16 rfl Tryd.underlying87 info_str rfl rfl rfl (by simp) rfl hown.out (by simp; omega) (by omega) ?_; intro v1 w2 H1 hgr))
        have H2 := Lib.hid H1
        clear H1 hgr hown
        go_wp2
        go_roundw
        case rel => exact ⟨s.size + 1, s.size + 1, ds ++ [s.extract g s.size], by simp, by simp, by omega, by omega, by simp; omega, hnext, by simpa using H2⟩
        case measure => simp [intOf]
      · obtain rfl : k = s.size + 1 := by omega
        have hfin := Lib.hid hcut.out.fin
        clear hcut
        go_wp2
        go_ret
        exact ⟨_, rfl, by rw [hfin.out]; exact hown.out⟩

theorem hv_cases : ∀ c : Fin 256, (48 ≤ c.val ∧ c.val ≤ 57 ∧ hv (UInt8.ofNat c.val) = c.val - 48) ∨ (97 ≤ c.val ∧ c.val ≤ 102 ∧ hv (UInt8.ofNat c.val) = c.val - 87) ∨ (¬ (48 ≤ c.val ∧ c.val ≤ 57) ∧ ¬ (97 ≤ c.val ∧ c.val ≤ 102) ∧ hv (UInt8.ofNat c.val) = -1) := by
  decide +kernel
theorem hv_of (c : UInt8) : (48 ≤ c.toNat ∧ c.toNat ≤ 57 ∧ hv c = c.toNat - 48) ∨ (97 ≤ c.toNat ∧ c.toNat ≤ 102 ∧ hv c = c.toNat - 87) ∨ (¬ (48 ≤ c.toNat ∧ c.toNat ≤ 57) ∧ ¬ (97 ≤ c.toNat ∧ c.toNat ≤ 102) ∧ hv c = -1) := by
  have h := hv_cases ⟨c.toNat, UInt8.toNat_lt c⟩
  simpa using h
theorem readN_len {l : List UInt8} (h : ¬ l.length = 8) : (readN l).2 = false := by
  unfold readN
  split
  · simp
    intro h'
    exact absurd h' h
  · rfl

/-- The block of a list that is not empty. -/
theorem Own.block {w0 W : World} {e : TypeId} {v : Value} {xs : List Value} (h : Own w0 W e v xs) (hn : 0 < xs.length) :
    ∃ g c cur, v = .slice (some ⟨g, 0, none⟩) xs.length c ∧ W.heap[g]? = some (.cells cur e (0, 0)) ∧ (∀ (j : Nat) (x : Value), xs[j]? = some x → cur[j]? = some x) ∧ w0.heap.size ≤ g ∧ g < W.heap.size := by
  rcases h.row.2 with ⟨rfl, h0⟩ | ⟨g, cap, cur, rfl, hb, hc, hnc, _, _, ht⟩
  · omega
  · refine ⟨g, cap, cur, rfl, hc, fun j x hj => ?_, hb, (Array.getElem?_eq_some_iff.1 hc).1⟩
    have hl := (List.getElem?_eq_some_iff.1 hj).1
    rw [← ht, List.getElem?_take] at hj
    rw [if_pos (by rw [Nat.mul_one]; exact hl)] at hj
    simpa using hj
theorem cell_of_block {W : World} {g : Nat} {cur : Array Value} {e : TypeId} {fz : Nat × Nat} (h : W.heap[g]? = some (.cells cur e fz)) {j : Nat} {x : Value} (hj : cur[j]? = some x) : W.cell? ⟨g, j, none⟩ = some x := by
  simp only [World.cell?, h]
  simpa using hj
theorem partsC_pos (c : UInt8) (s : ByteArray) : 0 < (partsC c s).length := by rw [← partsC_len]; omega
theorem partsOf_some {s : ByteArray} (h : s ≠ noneB) : partsOf s = partsC 44 s := by rw [partsOf, if_neg h, partsC]

theorem nread_none (w : World) : Calls Tryd.prog 148 #[.string noneB] w fun e w' => (∃ c g, e = .returned (.tuple #[.slice (some ⟨g, 0, none⟩) 0 c, .bool true])) ∧ Below w.heap.size w w' := by
  unfold noneB
  go_enter Tryd.func148, Tryd.ntmps148
  go_wp2
  exact bodyPost_ret (v := .tuple #[.slice (some ⟨w.heap.size, 0, none⟩) 0 0, .bool true]) (by simp [results, Tryd.results148, go_sem]) rfl ⟨⟨_, _, rfl⟩, below1 _ _⟩

set_option maxRecDepth 100000 in
set_option maxHeartbeats 8000000 in
theorem nread_some {s : ByteArray} (h : s ≠ noneB) (hs : s.size ≤ 100000000) {w : World} :
    Calls Tryd.prog 148 #[.string s] w fun e w' => ReadsTo w w' (readNs (partsOf s)) e ∧ Below w.heap.size w w' := by
  rw [partsOf_some h]
  have hb : (s.toList == [110, 111, 110, 101]) = false := by
    cases e : (s.toList == [110, 111, 110, 101]) with
    | false => rfl
    | true => exact absurd (bytes_eq (by rw [← ByteArray.toList_eq, beq_iff_eq.1 e]; rfl)) h
  have HC := Lib.hid (fun w => l01Cut_c s 44 hs (w := w))
  have hcnt := partsC_count (c := 44) (s := s)
  have hpos := partsC_pos 44 s
  generalize partsC 44 s = ps at *
  have hps : ps.length ≤ 100000002 := by omega
  clear h hs hcnt
  go_enter Tryd.func148, Tryd.ntmps148
  go_wp2_with fail
  refine (HC.out _).mono ?_
  rintro e w1 ⟨v, rfl, hv⟩
  obtain ⟨g, cg, cur, rfl, hg, hcur, hg1, hg2⟩ := hv.block (by simpa using hpos)
  have H0 := Lib.hid ((Own.lit (e := 24) (Below.refl w.heap.size w) #[] 0 (by omega) rfl).after hv.bel)
  have HG := Lib.hid hg
  have HCur := Lib.hid hcur
  obtain ⟨n, hn⟩ : ∃ n, ps.length = n := ⟨_, rfl⟩
  rw [List.length_map, hn]
  have hn0 : (0 : Int) ≤ n := by omega
  have hn1 : (n : Int) ≤ 100000002 := by omega
  have HN := Lib.hid hn
  clear hv hg hcur HC hb hn hpos hps hg1 hg2
  by_cases hlong : 256 < n
  · have hbad : Hid (readNs ps = none) := Lib.hid (readNs_long (by rw [HN.out]; exact hlong))
    have hl2 : (256 : Int) < n := by omega
    clear hlong
    go_wp2
    exact bodyPost_ret (v := .tuple #[.slice none 0 0, .bool false]) (by simp [results, Tryd.results148, go_sem]) rfl ⟨by rw [hbad.out]; rfl, H0.out.bel⟩
  · have hl2 : (n : Int) ≤ 256 := by omega
    clear hlong
    go_wp2_with fail
    go_loopw [4, 6] (fun v i wr => ∃ k : Nat, k ≤ n ∧ i = .int .i64 k ∧ Hid (Own w wr 24 v ((ps.take k).map fun p => .float .f32 (readN p.data.toList).1)) ∧ Hid (wr.heap[g]? = some (.cells cur 9 (0, 0))) ∧ Hid ((ps.take k).all (fun p => (readN p.data.toList).2) = true))
      (fun _ i _ => n - (intOf i).toNat)
    case atStart => exact ⟨0, Nat.zero_le _, rfl, H0, HG, Lib.hid rfl⟩
    case round =>
      obtain ⟨k, hk, rfl, hown, hgr0, hall⟩ := hrel
      clear H0 HG
      have hkl : (((ps.take k).map fun p => Value.float .f32 (readN p.data.toList).1)).length = k := by rw [List.length_map, List.length_take, HN.out]; omega
      obtain ⟨va, vc, hv⟩ := hown.out.len
      rw [hkl] at hv
      subst hv
      have HK := Lib.hid hkl
      clear hkl
      by_cases hlt : k < n
      · have hkx : k < ps.length := by rw [HN.out]; exact hlt
        obtain ⟨p, hp⟩ : ∃ p, ps[k] = p := ⟨_, rfl⟩
        have hcx : wr.cell? ⟨g, k, none⟩ = some (.string p) := cell_of_block hgr0.out (HCur.out k _ (by simp [List.getElem?_eq_getElem hkx, hp]))
        have HP := Lib.hid hp
        clear hp
        by_cases h8 : p.size = 8
        · have hpl : p.data.toList.length = 8 := by rw [lenL]; exact h8
          have HPL := Lib.hid hpl
          clear hpl
          go_wp2_with fail
          go_loop [7, 8] (fun m i => ∃ j : Nat, j ≤ 8 ∧ i = .int .i64 j ∧ m = .int .i64 (hval (p.data.toList.take j)) ∧ Hid ((p.data.toList.take j).all (fun c => 0 ≤ hv c) = true)) (fun _ i => 8 - (intOf i).toNat)
          case atStart => exact ⟨0, by omega, rfl, rfl, Lib.hid rfl⟩
          case round =>
            obtain ⟨j, hj, rfl, rfl, hall2⟩ := hrel
            have hN := hval_lt (p.data.toList.take j)
            have e8 : (16 : Nat) ^ 8 = 4294967296 := by decide
            have hN2 : (16 : Nat) ^ (p.data.toList.take j).length ≤ 16 ^ 8 := Nat.pow_le_pow_right (by omega) (by rw [List.length_take]; omega)
            have hN3 : (hval (p.data.toList.take j) : Int) ≤ 4294967295 := by omega
            have hN0 : (0 : Int) ≤ (hval (p.data.toList.take j) : Int) := by omega
            clear hN hN2 e8
            by_cases hlt2 : j < 8
            · have hjs : j < p.size := by omega
              have hjl : j < p.data.toList.length := by rw [HPL.out]; exact hlt2
              have hjj : p.data.toList[j] = p[j]'hjs := rfl
              have hval2 := hval_snoc (p.data.toList.take j) (p.data.toList[j])
              have htn := take_next p.data.toList j hjl
              have hcs := hv_of (p[j]'hjs)
              have hC0 : (p[j]'hjs).toNat < 256 := UInt8.toNat_lt _
              rw [← htn, hjj] at hval2
              have hall3 : (p.data.toList.take (j + 1)).all (fun c => 0 ≤ hv c) = decide (0 ≤ hv (p[j]'hjs)) := by
                rw [htn, List.all_append, hall2.out, hjj]
                simp
              have hbadp : ¬ 0 ≤ hv (p[j]'hjs) → readNs ps = none := fun hb => readNs_bad hkx (by
                rw [HP.out]
                rw [readN_bad hjl (by rw [hjj]; omega)])
              clear htn hjj hjl hall2
              generalize hD : hv (p[j]'hjs) = D at *
              generalize hC : (p[j]'hjs).toNat = C at *
              clear hD
              have hC' : ((p[j]'hjs).toNat : Int) = C := by rw [hC]
              clear hC
              generalize hM : hval (p.data.toList.take j) = M at *
              generalize hM2 : hval (p.data.toList.take (j + 1)) = M2 at *
              clear hM
              rcases hcs with ⟨hc1, hc2, rfl⟩ | ⟨hc1, hc2, rfl⟩ | ⟨hc1, hc2, rfl⟩
              · have hval3 : Hid ((M2 : Int) = 16 * M + (C - 48)) := Lib.hid (by omega)
                have ha : Hid ((p.data.toList.take (j + 1)).all (fun c => 0 ≤ hv c) = true) := Lib.hid (by rw [hall3]; simp; omega)
                have HM2 := Lib.hid hM2
                have q1 : (48 : Int) ≤ C := by omega
                have q2 : (C : Int) ≤ 57 := by omega
                have q3 : ¬ (97 : Int) ≤ C := by omega
                clear hbadp hall3 hval2 hM2 hc1 hc2
                go_wp2
                go_round
                case rel => exact ⟨j + 1, by omega, by simp, by rw [HM2.out, hval3.out], ha⟩
                case measure => simp [intOf]; omega
              · have hval3 : Hid ((M2 : Int) = 16 * M + (C - 97 + 10)) := Lib.hid (by omega)
                have ha : Hid ((p.data.toList.take (j + 1)).all (fun c => 0 ≤ hv c) = true) := Lib.hid (by rw [hall3]; simp; omega)
                have HM2 := Lib.hid hM2
                have q1 : (97 : Int) ≤ C := by omega
                have q2 : (C : Int) ≤ 102 := by omega
                have q3 : ¬ (C : Int) ≤ 57 := by omega
                clear hbadp hall3 hval2 hM2 hc1 hc2
                go_wp2
                go_round
                case rel => exact ⟨j + 1, by omega, by simp, by rw [HM2.out, hval3.out], ha⟩
                case measure => simp [intOf]; omega
              · have hbad : Hid (readNs ps = none) := Lib.hid (hbadp (by omega))
                clear hbadp hall3 hval2 hM2
                rcases (show C < 48 ∨ (57 < C ∧ C < 97) ∨ 102 < C by omega) with hq | ⟨hq, hq2⟩ | hq
                · have q1 : ¬ (48 : Int) ≤ C := by omega
                  have q2 : ¬ (97 : Int) ≤ C := by omega
                  clear hc1 hc2 hq
                  go_wp2
                  exact bodyPost_ret (v := .tuple #[.slice none 0 0, .bool false]) (by simp [results, Tryd.results148, go_sem]) rfl ⟨by rw [hbad.out]; rfl, hown.out.bel⟩
                · have q1 : (48 : Int) ≤ C := by omega
                  have q2 : ¬ (C : Int) ≤ 57 := by omega
                  have q3 : ¬ (97 : Int) ≤ C := by omega
                  clear hc1 hc2 hq hq2
                  go_wp2
                  exact bodyPost_ret (v := .tuple #[.slice none 0 0, .bool false]) (by simp [results, Tryd.results148, go_sem]) rfl ⟨by rw [hbad.out]; rfl, hown.out.bel⟩
                · have q1 : (48 : Int) ≤ C := by omega
                  have q2 : ¬ (C : Int) ≤ 57 := by omega
                  have q3 : (97 : Int) ≤ C := by omega
                  have q4 : ¬ (C : Int) ≤ 102 := by omega
                  clear hc1 hc2 hq
                  go_wp2
                  exact bodyPost_ret (v := .tuple #[.slice none 0 0, .bool false]) (by simp [results, Tryd.results148, go_sem]) rfl ⟨by rw [hbad.out]; rfl, hown.out.bel⟩
            · obtain rfl : j = 8 := by omega
              have htk : p.data.toList.take 8 = p.data.toList := List.take_of_length_le (by rw [HPL.out]; exact Nat.le_refl _)
              rw [htk] at hall2 hN3 hN0 ⊢
              have hrd : readN p.data.toList = (hval p.data.toList, bitsOf (hval p.data.toList) == hval p.data.toList) := by
                rw [readN_good (by rw [HPL.out]; exact Nat.le_refl _) hall2.out, HPL.out]
                simp
              generalize hval p.data.toList = M at *
              have hW : W32 M := by unfold W32; omega
              by_cases hbb : bitsOf M = M
              · have hok : readN p.data.toList = (M, true) := by rw [hrd, hbb]; simp
                have hnext : Hid ((ps.take (k + 1)).map (fun p => Value.float .f32 (readN p.data.toList).1) = (ps.take k).map (fun p => Value.float .f32 (readN p.data.toList).1) ++ [.float .f32 M] ∧ (ps.take (k + 1)).all (fun p => (readN p.data.toList).2) = true) := Lib.hid (by
                  rw [take_next' _ _ hkx, HP.out, List.map_append, List.all_append, hall.out]
                  simp [hok])
                have HB := Lib.hid hbb
                have HW := Lib.hid hW
                clear hrd hok hbb hW
                go_wp2_with (first
                  | (go_at_call 85; refine (l01From_c hN0 hN3 _).mono ?_; rintro e w2 ⟨rfl, rfl⟩; rw [Int.toNat_natCast])
                  | (go_at_call 107; refine (l01Bits_any M HW.out _).mono ?_; rintro e w2 ⟨rfl, rfl⟩; rw [HB.out])
                  | (at_builtin; go_loud (refine app_one rfl (.tmp 74) (.tmp 76) 71 24 (.float .f32 0) 4 rfl Tryd.underlying71 info_f32 rfl rfl rfl (by simp) rfl hown.out (by rw [HK.out]; omega) (by omega) ?_; intro v1 w2 H1 hgr)))
                rw [← hnext.out.1] at H1
                have H2 := Lib.hid H1
                have hg2 := Lib.hid (gheap' hgr hgr0.out (hown.out.apart hgr0.out (by decide)))
                clear H1 hgr hgr0 hown hcx
                go_wp2
                go_roundw
                case rel => exact ⟨k + 1, by omega, by simp, H2, hg2, Lib.hid hnext.out.2⟩
                case measure => simp [intOf]; omega
              · have hbad : Hid (readNs ps = none) := Lib.hid (readNs_bad hkx (by rw [HP.out, hrd]; simp [hbb]))
                have hbb2 : ((bitsOf M : Int) == (M : Int)) = false := by rw [beq_eq_false_iff_ne]; omega
                have HW := Lib.hid hW
                clear hrd hbb hW
                go_wp2_with (first
                  | (go_at_call 85; refine (l01From_c hN0 hN3 _).mono ?_; rintro e w2 ⟨rfl, rfl⟩; rw [Int.toNat_natCast])
                  | (go_at_call 107; refine (l01Bits_any M HW.out _).mono ?_; rintro e w2 ⟨rfl, rfl⟩))
                exact bodyPost_ret (v := .tuple #[.slice none 0 0, .bool false]) (by simp [results, Tryd.results148, go_sem]) rfl ⟨by rw [hbad.out]; rfl, hown.out.bel⟩
        · have hbad : Hid (readNs ps = none) := Lib.hid (readNs_bad hkx (by rw [HP.out]; exact readN_len (by rw [lenL]; exact h8)))
          go_wp2
          exact bodyPost_ret (v := .tuple #[.slice none 0 0, .bool false]) (by simp [results, Tryd.results148, go_sem]) rfl ⟨by rw [hbad.out]; rfl, hown.out.bel⟩
      · have htk : ps.take k = ps := List.take_of_length_le (by rw [HN.out]; omega)
        rw [htk] at hown hall
        have hr : Hid (readNs ps = some (ps.map fun p => (readN p.data.toList).1)) := Lib.hid (readNs_good (by rw [HN.out]; omega) hall.out)
        go_wp2
        exact bodyPost_ret (v := .tuple #[.slice va k vc, .bool true]) (by simp [results, Tryd.results148, go_sem]) rfl ⟨by rw [hr.out]; exact ⟨_, rfl, by rw [List.map_map]; exact hown.out⟩, hown.out.bel⟩
end Go.Proofs.YtglnfccglgladaaDoor
