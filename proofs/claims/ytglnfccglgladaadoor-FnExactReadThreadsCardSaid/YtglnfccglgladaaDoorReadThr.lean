/-
  A thread read from a text: what the program makes of it and what the reference makes of it is the same. (Plain law.)
  A thread read from a text: the program's walk.
-/
import Derived.Test.YtglnfccglgladaaDoorIsThr
import Derived.WalkSmall
namespace Go.Proofs.YtglnfccglgladaaDoor
open Go.RowKit
set_option linter.unusedVariables false

def vecsOf (ps : List ByteArray) : Option (List V3) := if ps.all (fun p => (vecOf p).isSome) = true then some (ps.map fun p => (vecOf p).getD (0, 0, 0)) else none
theorem vecsOf_bad {ps : List ByteArray} {k : Nat} (hk : k < ps.length) (h : vecOf ps[k] = none) : vecsOf ps = none := by
  unfold vecsOf
  rw [if_neg]
  rw [Bool.not_eq_true]
  exact allP_bad hk (by rw [h]; rfl)
theorem vecsOf_len {ps : List ByteArray} {vs : List V3} (h : vecsOf ps = some vs) : vs.length = ps.length := by
  unfold vecsOf at h
  split at h
  · cases h
    simp
  · cases h
def mkThr (o : Option Nat) (ps : List ByteArray) : Option Thr := match o, vecsOf ps with
  | some x, some vs => if thrB (vs, x) then some (vs, x) else none
  | _, _ => none
theorem mkThr_none {o : Option Nat} {ps : List ByteArray} (h : vecsOf ps = none) : mkThr o ps = none := by
  unfold mkThr
  rw [h]
  cases o <;> rfl
theorem mkThr_num {ps : List ByteArray} : mkThr none ps = none := rfl
theorem mkThr_long {o : Option Nat} {ps : List ByteArray} (h : 32 < ps.length) : mkThr o ps = none := by
  unfold mkThr
  split
  · rename_i x vs hv
    have hl := vecsOf_len hv
    have : thrB (vs, x) = false := by
      unfold thrB
      simp only []
      rw [decide_eq_false (by omega : ¬ vs.length ≤ 32)]
      simp
    rw [this]
    rfl
  · rfl
theorem mkThr_some {x : Nat} {ps : List ByteArray} {vs : List V3} (h : vecsOf ps = some vs) : mkThr (some x) ps = if thrB (vs, x) then some (vs, x) else none := by
  unfold mkThr
  rw [h]
/-- The thread with a text. -/
def thrOf (s : ByteArray) : Option Thr := match partsC 59 s with
  | [p0, p1] => mkThr (numOf p1) (partsC 47 p0)
  | _ => none

theorem cutGo_mem {c z : UInt8} (hz : z ≠ c) : ∀ (s cur : List UInt8), z ∈ s ∨ z ∈ cur → ∃ p ∈ cutGo c s cur, z ∈ p
  | [], cur, h => ⟨cur, by simp [cutGo], by simpa using h⟩
  | x :: xs, cur, h => by
    rw [cutGo]
    split
    · rename_i hx
      rcases h with h | h
      · have h2 : z ∈ xs := by
          rcases List.mem_cons.1 h with h | h
          · exact absurd (h.trans hx) hz
          · exact h
        obtain ⟨p, hp, hzp⟩ := cutGo_mem hz xs [] (Or.inl h2)
        exact ⟨p, List.mem_cons_of_mem _ hp, hzp⟩
      · exact ⟨cur, List.mem_cons_self, h⟩
    · refine cutGo_mem hz xs _ ?_
      rcases h with h | h
      · rcases List.mem_cons.1 h with h | h
        · right; simp [h]
        · exact Or.inl h
      · right; simp [h]
theorem numOf_semi {s : ByteArray} (h : (59 : UInt8) ∈ s.data.toList) : numOf s = none := by
  have hne : s ≠ noneB := by
    rintro rfl
    revert h
    decide
  unfold numOf
  rw [partsOf_some hne]
  obtain ⟨p, hp, hz⟩ := cutGo_mem (c := 44) (z := 59) (by decide) s.data.toList [] (Or.inl h)
  rw [← partsC_data] at hp
  obtain ⟨q, hq, rfl⟩ := List.mem_map.1 hp
  obtain ⟨k, hk, rfl⟩ := List.getElem_of_mem hq
  obtain ⟨j, hj, he⟩ := List.getElem_of_mem hz
  rw [readNs_bad hk (by rw [readN_bad hj (by rw [he]; decide)])]
  rfl

theorem cut_none {s : ByteArray} (h : (59 : UInt8) ∉ s.data.toList) : Lib.cut s.data.toList [59] = (s.data.toList, [], false) := by
  unfold Lib.cut
  rw [indexC_no h]
  rfl
theorem cut_some {s : ByteArray} {x r : List UInt8} (hs : s.data.toList = x ++ 59 :: r) (h : (59 : UInt8) ∉ x) : Lib.cut s.data.toList [59] = (x, r, true) := by
  unfold Lib.cut
  rw [hs, indexC_at h]
  rw [if_pos (by omega)]
  simp
theorem thrOf_none {s : ByteArray} (h : (59 : UInt8) ∉ s.data.toList) : thrOf s = none := by
  have hd := partsC_data 59 s
  rw [cutGo_no _ _ h] at hd
  unfold thrOf
  cases hp : partsC 59 s with
  | nil => rfl
  | cons a r =>
    cases r with
    | nil => rfl
    | cons b r => rw [hp] at hd; simp at hd
theorem thrOf_some {s F S : ByteArray} (hs : s.data.toList = F.data.toList ++ 59 :: S.data.toList) (h : (59 : UInt8) ∉ F.data.toList) : thrOf s = mkThr (numOf S) (partsC 47 F) := by
  have hd := partsC_data 59 s
  rw [hs, cutGo_at _ _ _ h, List.nil_append] at hd
  unfold thrOf
  by_cases h2 : (59 : UInt8) ∈ S.data.toList
  · rw [numOf_semi h2, mkThr_num]
    obtain ⟨x, r, hx, hx2⟩ := List.eq_append_cons_of_mem h2
    rw [hx, cutGo_at _ _ _ hx2] at hd
    have hpos := cutGo_pos 59 r []
    have hl := congrArg List.length hd
    simp only [List.length_map, List.length_cons] at hl
    split
    · rename_i p0 p1 hp
      rw [hp] at hl
      simp only [List.length_cons, List.length_nil] at hl
      omega
    · rfl
  · rw [cutGo_no _ _ h2, List.nil_append] at hd
    have : partsC 59 s = [F, S] := map_data_inj _ _ (by rw [hd]; rfl)
    rw [this]

/-- Vectors that fill the head of a block. -/
def VBlk (W : World) (g : Nat) (vs : List V3) : Prop := ∃ cur, W.heap[g]? = some (.cells cur 26 (0, 0)) ∧ ∀ (j : Nat) (x : Value), (vCells vs)[j]? = some x → cur[j]? = some x
theorem VBlk.nums {W : World} {g : Nat} {vs : List V3} (h : VBlk W g vs) : VNums W g vs := by obtain ⟨cur, hb, hc⟩ := h; exact VNums.of hb hc
theorem VBlk.lt {W : World} {g : Nat} {vs : List V3} (h : VBlk W g vs) : g < W.heap.size := h.nums.1
theorem VBlk.after {W W' : World} {g : Nat} {vs : List V3} (h : VBlk W g vs) (k : Below W.heap.size W W') : VBlk W' g vs := by
  obtain ⟨cur, hb, hc⟩ := h
  exact ⟨cur, (k.block g (Array.getElem?_eq_some_iff.1 hb).1).trans hb, hc⟩
theorem VBlk.set {W : World} {g : Nat} {vs : List V3} (h : VBlk W g vs) {p : Addr} (hp : g ≠ p.block) (u : Value) : VBlk (W.setCell p u) g vs := by
  obtain ⟨cur, hb, hc⟩ := h
  exact ⟨cur, (Below.heap_setCell W p u g hp).trans hb, hc⟩
/-- What a reader of a thread answers. -/
def ThrRet (w w' : World) (r : Option Thr) (e : Ending) : Prop := match r with
  | none => e = .returned (.tuple #[thr0, .bool false])
  | some t => ∃ g c, e = .returned (.tuple #[thrV g c t, .bool true]) ∧ w.heap.size ≤ g ∧ VBlk w' g t.1 ∧ 0 < t.1.length
/-- A result that holds nothing yet. -/
def Box0 (W : World) (b : Nat) : Prop := W.heap[b]? = some (.cells #[.slice none 0 0, .float .f32 0] 91 (0, 0))
theorem Box0.lt {W : World} {b : Nat} (h : Box0 W b) : b < W.heap.size := (Array.getElem?_eq_some_iff.1 h).1
theorem Box0.after {W W' : World} {b : Nat} (h : Box0 W b) (k : Below W.heap.size W W') : Box0 W' b := (k.block b h.lt).trans h
theorem Box0.new (W : World) : Box0 (W.alloc (.cells #[.slice none 0 0, .float .f32 0] 91)) W.heap.size := heap_alloc_new W _

set_option maxRecDepth 100000 in
set_option maxHeartbeats 8000000 in
theorem readThread_c {s : ByteArray} (hs : s.size ≤ 100000000) {w : World} (hm : MaxLen w) :
    Calls Tryd.prog 71 #[.string s] w fun e w' => ThrRet w w' (thrOf s) e ∧ Below w.heap.size w w' := by
  have HM := Lib.hid hm
  by_cases hmem : (59 : UInt8) ∈ s.data.toList
  · obtain ⟨x, r, hx, hx2⟩ := List.eq_append_cons_of_mem hmem
    obtain ⟨F, hF⟩ : ∃ F : ByteArray, F.data.toList = x := ⟨⟨x.toArray⟩, by simp⟩
    obtain ⟨S, hS⟩ : ∃ S : ByteArray, S.data.toList = r := ⟨⟨r.toArray⟩, by simp⟩
    have hFx : (⟨x.toArray⟩ : ByteArray) = F := bytes_eq (by simp [hF])
    have hSr : (⟨r.toArray⟩ : ByteArray) = S := bytes_eq (by simp [hS])
    have hsz : F.size + 1 + S.size = s.size := by
      have := congrArg List.length hx
      rw [← hF, ← hS, lenL, List.length_append, List.length_cons, lenL, lenL] at this
      omega
    rw [thrOf_some (F := F) (S := S) (by rw [hF, hS]; exact hx) (by rw [hF]; exact hx2)]
    have C := fun (W : World) (hm : MaxLen W) => (show Calls Tryd.prog 118 #[.string s, .string ⟨#[59]⟩] W fun e w' => e = .returned (.tuple #[.string F, .string S, .bool true]) ∧ ∃ n, w' = W.drewN n by
      obtain ⟨m, hm⟩ := hm
      have k := Tryd.strings_Cut s ⟨#[59]⟩ m W (by omega) hm
      rw [show (ByteArray.mk #[59]).data.toList = [59] from rfl, cut_some hx hx2] at k
      simp only [hFx, hSr] at k
      exact k)
    have RS := fun (W : World) hm => readNumbersAny (s := S) (by omega) (w := W) hm
    have hFs : F.size ≤ 100000000 := by omega
    have HC := Lib.hid C
    have HRS := Lib.hid RS
    clear hmem hx hx2 hF hS hFx hSr hsz C RS hs hm
    have hlen := partsC_len 47 F
    have hcnt := partsC_count (c := 47) (s := F)
    have hsmall := fun p (h : p ∈ partsC 47 F) => partsC_small h
    have KC := fun (W : World) (hm : MaxLen W) => (show Calls Tryd.prog 69 #[.string F, .string ⟨#[47]⟩] W fun e w' => e = .returned (.int .i64 (Lib.countB F ⟨#[47]⟩)) ∧ W = w' by
      obtain ⟨m, hm⟩ := hm
      refine (Tryd.strings_Count_any F ⟨#[47]⟩ m W (by omega) hm (by decide)).mono ?_
      rintro e w' ⟨h1, h2⟩
      exact ⟨h1, h2.symm⟩)
    have KS := fun (W : World) (hm : MaxLen W) => (show Calls Tryd.prog 70 #[.string F, .string ⟨#[47]⟩] W fun e w' => e = .returned (.slice (some ⟨W.heap.size, 0, none⟩) (Lib.countB F ⟨#[47]⟩ + 1) (Lib.countB F ⟨#[47]⟩ + 1)) ∧ w' = W.alloc (.cells ((partsC 47 F).map Value.string).toArray 9) by
      obtain ⟨m, hm⟩ := hm
      exact Tryd.strings_Split F ⟨#[47]⟩ m W (by omega) hm (by decide))
    unfold numOf
    generalize readNs (partsOf S) = rs at *
    generalize partsC 47 F = ps at *
    generalize Lib.countB F ⟨#[47]⟩ = K at *
    have hK : (K : Int) ≤ 100000002 := by omega
    have hK0 : (0 : Int) ≤ K := by omega
    have HKC := Lib.hid KC
    have HKS := Lib.hid KS
    have HLen := Lib.hid hlen
    have HSm := Lib.hid hsmall
    clear KC KS hcnt hlen hsmall
    obtain ⟨R, hR⟩ : ∃ R, mkThr (numL rs) ps = R := ⟨_, rfl⟩
    rw [hR]
    have HR := Lib.hid hR
    clear hR
    go_enter Tryd.func71, Tryd.ntmps71
    go_wp2_with fail
    have B0 := Lib.hid (Box0.new w)
    have D0 := Lib.hid (below1 w (.cells #[.slice none 0 0, .float .f32 0] 91))
    refine (HC.out _ (HM.out.after D0.out)).mono ?_
    rintro e w1 ⟨rfl, ⟨nd, rfl⟩⟩
    have D1 := Lib.hid (below_drewN D0.out nd)
    have B1 := Lib.hid (B0.out.after (below_drewN (Below.refl _ _) nd))
    generalize (w.alloc (.cells #[.slice none 0 0, .float .f32 0] 91)).drewN nd = w1 at *
    clear B0 D0
    go_wp2_with fail
    refine (HRS.out _ (HM.out.after D1.out)).mono ?_
    rintro e w2 ⟨hr, hw⟩
    have D2 := Lib.hid (bthen D1.out hw)
    have B2 := Lib.hid (B1.out.after hw)
    clear hw D1 B1 HC HRS
    cases rs with
    | none =>
      obtain rfl := hr
      obtain ⟨⟨r0, r1⟩, ⟨f0, f1⟩, hrl⟩ := two_facts B2.out
      go_wp2
      exact bodyPost_ret (v := .tuple #[thr0, .bool false]) (by simp [results, Tryd.results71, go_sem, *]) rfl ⟨by rw [show R = none from HR.out.symm]; rfl, by repeat (first | exact D2.out | refine bset ?_ (by simp <;> omega) _)⟩
    | some xs =>
      obtain ⟨v, rfl, ho⟩ := hr
      by_cases h1 : xs.length = 1
      · obtain ⟨a, rfl⟩ := len1 h1
        obtain ⟨g1, cg, hv, hp⟩ := ho
        obtain ⟨g1, rfl, hg1, hg4⟩ := hp (by simp)
        subst hv
        have c0 : w2.cell? ⟨g1, 0, none⟩ = some (.float .f32 a) := hg4 0 _ rfl
        clear hg4 hp h1
        simp only [List.map_cons, List.map_nil, List.length_cons, List.length_nil]
        by_cases h32 : 32 ≤ K
        · have hbad : Hid (R = none) := Lib.hid (HR.out.symm.trans (mkThr_long (by have := HLen.out; omega)))
          have h32' : (32 : Int) ≤ K := by omega
          clear h32
          obtain ⟨⟨r0, r1⟩, ⟨f0, f1⟩, hrl⟩ := two_facts B2.out
          go_wp2_with (go_at_call 69; refine (HKC.out _ (HM.out.after D2.out)).mono ?_; rintro e w3 ⟨rfl, rfl⟩)
          exact bodyPost_ret (v := .tuple #[thr0, .bool false]) (by simp [results, Tryd.results71, go_sem, *]) rfl ⟨by rw [hbad.out]; rfl, by repeat (first | exact D2.out | refine bset ?_ (by simp <;> omega) _)⟩
        · have h32' : ¬ (32 : Int) ≤ K := by omega
          clear h32
          go_wp2_with (first
            | (go_at_call 69; refine (HKC.out _ (HM.out.after D2.out)).mono ?_; rintro e w3 ⟨rfl, rfl⟩)
            | (go_at_call 70; refine (HKS.out _ (HM.out.after (balloc D2.out _))).mono ?_; rintro e w3 ⟨rfl, rfl⟩))
          have H0 := Lib.hid ((OwnK.nil (e := 26) 3 (Below.refl w2.heap.size w2)).alloc (.cells (ps.map Value.string).toArray 9))
          have G0 := Lib.hid (heap_alloc_new (w2.alloc (.cells #[] 26)) (.cells (ps.map Value.string).toArray 9))
          rw [World.size_alloc] at G0
          have C0 := Lib.hid c0
          clear c0
          go_loopw [9, 46] (fun v i wr => ∃ k : Nat, k ≤ K + 1 ∧ i = .int .i64 k ∧ Hid (OwnK w2 wr 26 3 v k (vCells ((ps.take k).map fun p => (vecOf p).getD (0, 0, 0)))) ∧ Hid (wr.heap[w2.heap.size + 1]? = some (.cells (ps.map Value.string).toArray 9 (0, 0))) ∧ Hid ((ps.take k).all (fun p => (vecOf p).isSome) = true))
            (fun _ i _ => K + 1 - (intOf i).toNat)
          case atStart => exact ⟨0, Nat.zero_le _, rfl, H0, G0, Lib.hid rfl⟩
          case round =>
            obtain ⟨k, hk, rfl, hown, hgr0, hall⟩ := hrel
            clear H0 G0
            obtain ⟨va, vc, hv⟩ := hown.out.len
            subst hv
            by_cases hlt : k < K + 1
            · have hkx : k < ps.length := by rw [← HLen.out]; exact hlt
              obtain ⟨p, hp⟩ : ∃ p, ps[k] = p := ⟨_, rfl⟩
              have hcx : wr.cell? ⟨w2.heap.size + 1, k, none⟩ = some (.string p) := cell_of_block hgr0.out (by simp [List.getElem?_eq_getElem hkx, hp])
              have hps := HSm.out p (by rw [← hp]; exact List.getElem_mem hkx)
              have RV := Lib.hid (fun (W : World) hm => readVectorAny (s := p) (by omega) (w := W) hm)
              have HP := Lib.hid hp
              clear hp hps
              have DR := Lib.hid (bthen D2.out hown.out.bel)
              go_wp2_with fail
              refine (RV.out _ (HM.out.after DR.out)).mono ?_
              rintro e w4 ⟨rfl, hw⟩
              cases hq : vecOf p with
              | none =>
                have hbad : Hid (R = none) := Lib.hid (HR.out.symm.trans (mkThr_none (vecsOf_bad hkx (by rw [HP.out]; exact hq))))
                have B4 := Lib.hid ((B2.out.after hown.out.bel).after hw)
                have D4 := Lib.hid (bthen DR.out hw)
                clear hw DR hgr0 hown hcx hq
                unfold vecRet
                obtain ⟨⟨r0, r1⟩, ⟨f0, f1⟩, hrl⟩ := two_facts B4.out
                go_wp2
                exact bodyPost_ret (v := .tuple #[thr0, .bool false]) (by simp [results, Tryd.results71, go_sem, *]) rfl ⟨by rw [hbad.out]; rfl, by repeat (first | exact D4.out | refine bset ?_ (by simp <;> omega) _ | refine balloc ?_ _)⟩
              | some q =>
                obtain ⟨x0, x1, x2⟩ := q
                have hown4 := Lib.hid (hown.out.after hw)
                have hg4 := Lib.hid ((hw.block (w2.heap.size + 1) (Array.getElem?_eq_some_iff.1 hgr0.out).1).trans hgr0.out)
                have hnext : Hid (vCells ((ps.take (k + 1)).map fun p => (vecOf p).getD (0, 0, 0)) = vCells ((ps.take k).map fun p => (vecOf p).getD (0, 0, 0)) ++ [.float .f32 x0, .float .f32 x1, .float .f32 x2] ∧ (ps.take (k + 1)).all (fun p => (vecOf p).isSome) = true) := Lib.hid (by
                  rw [take_next' _ _ hkx, HP.out, List.map_append, List.all_append, hall.out]
                  simp [hq, vCells])
                clear hw DR hgr0 hown hcx hq
                unfold vecRet v3A
                simp only []
                have hown5 := Lib.hid (hown4.out.alloc (.cells #[.float .f32 x0, .float .f32 x1, .float .f32 x2] 26))
                have hg5 := Lib.hid ((heap_alloc_old w4 (.cells #[.float .f32 x0, .float .f32 x1, .float .f32 x2] 26) (h := (Array.getElem?_eq_some_iff.1 hg4.out).1)).trans hg4.out)
                clear hown4 hg4
                go_wp2_with (at_builtin; go_loud (refine app_k 3 (by omega) rfl (.tmp 58) (.tmp 60) 89 26 _ 12 rfl Tryd.underlying89 info_vec rfl rfl rfl rfl (by simp) (by simp; exact ⟨rfl, rfl, rfl⟩) hown5.out (by omega) (by omega) ?_; intro v1 w5 H1 hgr))
                simp only [] at H1
                rw [← hnext.out.1] at H1
                have H2 := Lib.hid H1
                have hg6 := Lib.hid (gheap' hgr hg5.out (hown5.out.apart hg5.out (by decide)))
                clear H1 hgr hg5 hown5
                go_wp2
                go_roundw
                case rel => exact ⟨k + 1, by omega, by simp, H2, hg6, Lib.hid hnext.out.2⟩
                case measure => simp [intOf]; omega
            · obtain rfl : k = K + 1 := by omega
              have htk : ps.take (K + 1) = ps := List.take_of_length_le (by rw [HLen.out]; exact Nat.le_refl _)
              rw [htk] at hown hall
              have hvs : Hid (vecsOf ps = some (ps.map fun p => (vecOf p).getD (0, 0, 0))) := Lib.hid (if_pos hall.out)
              have hR2 : Hid (R = if thrB (ps.map (fun p => (vecOf p).getD (0, 0, 0)), a) then some (ps.map (fun p => (vecOf p).getD (0, 0, 0)), a) else none) := Lib.hid (HR.out.symm.trans (mkThr_some hvs.out))
              have hln : Hid ((ps.map fun p => (vecOf p).getD (0, 0, 0)).length = K + 1) := Lib.hid (by rw [List.length_map, ← HLen.out])
              clear hgr0 hall hvs
              generalize ps.map (fun p => (vecOf p).getD (0, 0, 0)) = vs at *
              obtain ⟨g, cg2, cur, hv2, hb2, hc2, hg1', hg2'⟩ := hown.out.block (by omega)
              simp only [Value.slice.injEq, true_and] at hv2
              obtain ⟨rfl, rfl⟩ := hv2
              have VB := Lib.hid (show VBlk wr g vs from ⟨cur, hb2, hc2⟩)
              have T := told_c (c := vc) (s := a) VB.out.nums (by rw [hln.out]; omega)
              rw [hln.out] at T
              have HT := Lib.hid T
              have B4 := Lib.hid (B2.out.after hown.out.bel)
              have D4 := Lib.hid (bthen D2.out hown.out.bel)
              have hz := hown.out.bel.size
              have c0 : wr.cell? ⟨g1, 0, none⟩ = some (.float .f32 a) := by rw [hown.out.bel.cell (p := ⟨g1, 0, none⟩) hg1]; exact C0.out
              have hg3 := Lib.hid (show w.heap.size ≤ g from Nat.le_trans D2.out.size hg1')
              clear T hown hb2 hc2
              go_wp2_with fail
              refine HT.out.mono ?_
              rintro e w5 ⟨rfl, hw⟩
              have VB5 := Lib.hid (VB.out.after hw)
              have B5 := Lib.hid (B4.out.after hw)
              have D5 := Lib.hid (bthen D4.out hw)
              clear HT hw VB B4 D4 c0
              have hne := Lib.hid (show g ≠ w.heap.size by
                rintro rfl
                obtain ⟨cur', h1, _⟩ := VB5.out
                have := B5.out
                unfold Box0 at this
                rw [h1] at this
                simp at this)
              obtain ⟨⟨r0, r1⟩, ⟨f0, f1⟩, hrl⟩ := two_facts B5.out
              unfold thrV
              cases hT : thrB (vs, a) with
              | false =>
                have hbad : Hid (R = none) := Lib.hid (by rw [hR2.out, hT]; rfl)
                simp only [Bool.false_eq_true, if_false]
                clear hT
                go_wp2
                exact bodyPost_ret (v := .tuple #[thr0, .bool false]) (by simp [results, Tryd.results71, go_sem, *]) rfl ⟨by rw [hbad.out]; rfl, by repeat (first | exact D5.out | refine bset ?_ (by simp <;> omega) _)⟩
              | true =>
                have hgood : Hid (R = some (vs, a)) := Lib.hid (by rw [hR2.out, hT]; rfl)
                simp only [if_true]
                clear hT
                rw [hln.out]
                go_wp2
                exact bodyPost_ret (v := .tuple #[.agg #[.slice (some ⟨g, 0, none⟩) (K + 1) vc, .float .f32 a], .bool true]) (by simp [results, Tryd.results71, go_sem, *]) rfl ⟨by rw [hgood.out]; exact ⟨g, vc, by unfold thrV; rw [hln.out], hg3.out, by repeat (first | exact VB5.out | refine VBlk.set ?_ hne.out _), by rw [hln.out]; omega⟩, by repeat (first | exact D5.out | refine bset ?_ (by simp <;> omega) _)⟩
      · have hn := Lib.hid (show R = none by rw [← HR.out, numL_len h1]; rfl)
        obtain ⟨g1, cg, hv, hp⟩ := ho
        rw [List.length_map] at hv
        subst hv
        generalize xs.length = n at *
        have h1' : ((n : Int) == 1) = false := by rw [beq_eq_false_iff_ne]; omega
        have h1'' : ((n : Int) != 1) = true := by rw [bne_iff_ne]; omega
        clear hp h1
        obtain ⟨⟨r0, r1⟩, ⟨f0, f1⟩, hrl⟩ := two_facts B2.out
        go_wp2
        exact bodyPost_ret (v := .tuple #[thr0, .bool false]) (by simp [results, Tryd.results71, go_sem, *]) rfl ⟨by rw [hn.out]; rfl, by repeat (first | exact D2.out | refine bset ?_ (by simp <;> omega) _)⟩
  · rw [thrOf_none hmem]
    have C := fun (W : World) (hm : MaxLen W) => (show Calls Tryd.prog 118 #[.string s, .string ⟨#[59]⟩] W fun e w' => e = .returned (.tuple #[.string s, .string ⟨#[]⟩, .bool false]) ∧ ∃ n, w' = W.drewN n by
      obtain ⟨m, hm⟩ := hm
      have k := Tryd.strings_Cut s ⟨#[59]⟩ m W (by omega) hm
      rw [show (ByteArray.mk #[59]).data.toList = [59] from rfl, cut_none hmem] at k
      simp only [show (⟨s.data.toList.toArray⟩ : ByteArray) = s from bytes_eq (by simp)] at k
      exact k)
    have RS := fun (W : World) hm => readNumbersAny (s := ⟨#[]⟩) (by decide) (w := W) hm
    have HC := Lib.hid C
    have HRS := Lib.hid RS
    clear hmem C RS hs hm
    generalize readNs (partsOf ⟨#[]⟩) = rs at *
    go_enter Tryd.func71, Tryd.ntmps71
    go_wp2_with fail
    have B0 := Lib.hid (Box0.new w)
    have D0 := Lib.hid (below1 w (.cells #[.slice none 0 0, .float .f32 0] 91))
    refine (HC.out _ (HM.out.after D0.out)).mono ?_
    rintro e w1 ⟨rfl, ⟨nd, rfl⟩⟩
    have D1 := Lib.hid (below_drewN D0.out nd)
    have B1 := Lib.hid (B0.out.after (below_drewN (Below.refl _ _) nd))
    generalize (w.alloc (.cells #[.slice none 0 0, .float .f32 0] 91)).drewN nd = w1 at *
    clear B0 D0
    go_wp2_with fail
    refine (HRS.out _ (HM.out.after D1.out)).mono ?_
    rintro e w2 ⟨hr, hw⟩
    have D2 := Lib.hid (bthen D1.out hw)
    have B2 := Lib.hid (B1.out.after hw)
    clear hw D1 B1 HC HRS
    obtain ⟨⟨r0, r1⟩, ⟨f0, f1⟩, hrl⟩ := two_facts B2.out
    cases rs with
    | none =>
      obtain rfl := hr
      go_wp2
      exact bodyPost_ret (v := .tuple #[thr0, .bool false]) (by simp [results, Tryd.results71, go_sem, *]) rfl ⟨rfl, by repeat (first | exact D2.out | refine bset ?_ (by simp <;> omega) _)⟩
    | some xs =>
      obtain ⟨v, rfl, ho⟩ := hr
      go_wp2
      exact bodyPost_ret (v := .tuple #[thr0, .bool false]) (by simp [results, Tryd.results71, go_sem, *]) rfl ⟨rfl, by repeat (first | exact D2.out | refine bset ?_ (by simp <;> omega) _)⟩
end Go.Proofs.YtglnfccglgladaaDoor
