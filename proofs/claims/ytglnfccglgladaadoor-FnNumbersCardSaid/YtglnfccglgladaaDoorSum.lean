/-
  Sums of lists of any numbers, from left to right; texts of such lists, read back.
-/
import Derived.Test.YtglnfccglgladaaDoorNanD
import Derived.Test.YtglnfccglgladaaDoorRead6
import Derived.Test.YtglnfccglgladaaDoorDraw11
import Derived.Test.YtglnfccglgladaaDoorCxSame
namespace Go.Proofs.YtglnfccglgladaaDoor
open Go.RowKit Ieee
set_option linter.unusedVariables false

/-- One more number; nothing: a not-a-number. -/
def sumStep (o : Option Nat) (x : Nat) : Option Nat := o.bind fun a => floatBits .add .f32 a x
def sumQ (xs : List Nat) : Option Nat := xs.foldl sumStep (some 0)
/-- The word is the sum. -/
def SumIs (o : Option Nat) (r : Nat) : Prop := W32 r ∧ match o with
  | some v => r = v
  | none => nan32 r = true
theorem SumIs.bits {o : Option Nat} {r s : Nat} (h : SumIs o r) (k : SumIs o s) : bitsOf r = bitsOf s := by
  obtain ⟨_, h⟩ := h
  obtain ⟨_, k⟩ := k
  cases o with
  | some v => simp only [] at h k; rw [h, k]
  | none => simp only [] at h k; unfold bitsOf; rw [h, k]; rfl
theorem add_nan {r x : Nat} (h : nan32 r = true) : floatBits .add .f32 r x = none := by
  obtain ⟨s, t, h⟩ := nan32_iff.1 h
  show ((FloatKind.f32.format.read r).sum (FloatKind.f32.format.read x)).map _ = _
  rw [h]
  rfl
theorem sum_step {o : Option Nat} {r x : Nat} (h : SumIs o r) : (∃ v, floatBits .add .f32 r x = some v ∧ SumIs (sumStep o x) v) ∨ (floatBits .add .f32 r x = none ∧ ∀ z, W32 z → nan32 z = true → SumIs (sumStep o x) z) := by
  obtain ⟨h32, h⟩ := h
  cases o with
  | none =>
    right
    exact ⟨add_nan h, fun z hz hn => ⟨hz, hn⟩⟩
  | some v =>
    simp only [] at h
    subst h
    cases hb : floatBits .add .f32 r x with
    | some v =>
      left
      have := floatBits_wf hb
      exact ⟨v, rfl, by simpa [Lit.wf, W32] using this, by show match sumStep (some r) x with | some v' => v = v' | none => _; simp [sumStep, hb]⟩
    | none =>
      right
      refine ⟨rfl, fun z hz hn => ⟨hz, ?_⟩⟩
      simp [sumStep, hb, hn]
theorem sumQ_next {xs : List Nat} {k : Nat} (h : k < xs.length) : sumQ (xs.take (k + 1)) = sumStep (sumQ (xs.take k)) xs[k] := by
  unfold sumQ
  rw [take_next' _ _ h, List.foldl_append]
  rfl

/-- A list that lies in memory, or the empty one. -/
theorem VList.nums {W : World} {b : Nat} {xs : List Nat} (hb : b < W.heap.size) (hc : ∀ j x, (xs.map flV)[j]? = some x → W.cell? ⟨b, j, none⟩ = some x) : Nums W b 0 xs := by
  refine ⟨hb, fun j x hj => ?_⟩
  rw [Nat.zero_add]
  exact hc j _ (by rw [List.getElem?_map, hj]; rfl)

theorem listOk_any (a : Option Addr) (n c : Nat) (hn : n ≤ 256) (w : World) : Calls Tryd.prog 98 #[.slice a n c] w fun e w' => e = .returned (.bool true) ∧ w = w' := by
  have h1 : (n : Int) ≤ 256 := by omega
  go_enter Tryd.func98, Tryd.ntmps98
  go_wp2
  go_ret
  exact ⟨rfl, rfl⟩
theorem sum_nil (a : Option Addr) (c : Nat) (w : World) : Calls Tryd.prog 99 #[.slice a 0 c] w fun e w' => e = .returned (.float .f32 0) ∧ Below w.heap.size w w' := by
  go_enter Tryd.func99, Tryd.ntmps99
  go_wp2
  refine wp_loop_rounds 1 ?_
  rw [rounds_succ]
  go_wp2
  go_ret
  exact ⟨rfl, Below.refl _ _⟩
theorem sum_c {w : World} {b c : Nat} {xs : List Nat} (h : Nums w b 0 xs) (hl : xs.length ≤ 1000) :
    Calls Tryd.prog 99 #[.slice (some ⟨b, 0, none⟩) xs.length c] w fun e w' => (∃ r, e = .returned (.float .f32 r) ∧ SumIs (sumQ xs) r) ∧ Below w.heap.size w w' := by
  have HB := Lib.hid h.1
  have HC := Lib.hid h.2
  clear h
  generalize hn : xs.length = n at hl
  have HN := Lib.hid hn
  clear hn
  have hn0 : (0 : Int) ≤ n := by omega
  have hn1 : (n : Int) ≤ 1000 := by omega
  go_enter Tryd.func99, Tryd.ntmps99
  go_wp2
  go_loopw [3, 8] (fun v i wr => ∃ (k r : Nat), k ≤ n ∧ v = .float .f32 r ∧ i = .int .i64 k ∧ Hid (SumIs (sumQ (xs.take k)) r) ∧ Hid (Below w.heap.size w wr)) (fun _ i _ => n - (intOf i).toNat)
  case atStart => exact ⟨0, 0, Nat.zero_le _, rfl, rfl, Lib.hid ⟨by unfold W32; omega, rfl⟩, Lib.hid (Below.refl _ _)⟩
  case round =>
    obtain ⟨k, r, hk, rfl, rfl, hs, hbel⟩ := hrel
    by_cases hlt : k < n
    · have hkx : k < xs.length := by rw [HN.out]; exact hlt
      obtain ⟨x, hx⟩ : ∃ x, xs[k] = x := ⟨_, rfl⟩
      have hc : wr.cell? ⟨b, k, none⟩ = some (.float .f32 x) := by
        rw [hbel.out.cell (p := ⟨b, k, none⟩) HB.out]
        have := HC.out k x (by rw [List.getElem?_eq_getElem hkx, hx])
        rwa [Nat.zero_add] at this
      have hnext := sumQ_next hkx
      rw [hx] at hnext
      rcases sum_step (x := x) hs.out with ⟨v, hv, hs2⟩ | ⟨hv, hs2⟩
      · have hr := rf (P := Tryd.prog) hv
        rw [← hnext] at hs2
        have H2 := Lib.hid hs2
        clear hv hs2 hx hs hnext
        go_wp2
        go_roundw
        case rel => exact ⟨k + 1, v, by omega, rfl, by simp, H2, hbel⟩
        case measure => simp [intOf]; omega
      · have hr := run_arith_nan (P := Tryd.prog) (op := .add) (by simp) hv
        have hq : AsksNan .f32 (.nanBits .f32 r x) := Or.inl ⟨r, x, rfl⟩
        rw [← hnext] at hs2
        have H2 := Lib.hid hs2
        have HQ := Lib.hid hq
        clear hv hs2 hx hs hnext hq
        go_wp2
        go_roundw
        case rel => exact ⟨k + 1, _, by omega, rfl, by simp, Lib.hid (H2.out _ (nanOf_w32 HQ.out _) (nanOf_nan32 HQ.out _)), Lib.hid hbel.out.drew⟩
        case measure => simp [intOf]; omega
    · have htk : xs.take k = xs := List.take_of_length_le (by rw [HN.out]; omega)
      rw [htk] at hs
      go_wp2
      go_ret
      exact ⟨⟨r, rfl, hs.out⟩, hbel.out⟩
theorem sumNumbers_any {w : World} {v : Value} {ps : List Nat} (hv : VList w v (ps.map flV)) (hl : ps.length ≤ 100) :
    Calls Tryd.prog 51 #[v] w fun e w' => (∃ r, e = .returned (.tuple #[.float .f32 r, .bool true]) ∧ SumIs (sumQ ps) r) ∧ Below w.heap.size w w' := by
  obtain ⟨a, c, rfl, hp⟩ := hv
  rw [List.length_map] at hp ⊢
  have S : Calls Tryd.prog 99 #[.slice a ps.length c] w fun e w' => (∃ r, e = .returned (.float .f32 r) ∧ SumIs (sumQ ps) r) ∧ Below w.heap.size w w' := by
    cases hps : ps with
    | nil =>
      refine (sum_nil a c w).mono ?_
      rintro e w' ⟨rfl, hw⟩
      exact ⟨⟨0, rfl, by unfold W32; omega, rfl⟩, hw⟩
    | cons p r =>
      rw [← hps]
      obtain ⟨b, rfl, hb, hc⟩ := hp (by rw [hps]; simp)
      exact sum_c (VList.nums hb hc) (by omega)
  have H := Lib.hid S
  have L := Lib.hid (fun w => listOk_any a ps.length c (by omega) w)
  clear S hp hl
  generalize ps.length = n at *
  go_enter Tryd.func51, Tryd.ntmps51
  go_wp2_with (first
    | (go_at_call 98; refine (L.out _).mono ?_; rintro e w1 ⟨rfl, rfl⟩)
    | (go_at_call 99; refine H.out.mono ?_; rintro e w1 ⟨⟨r, rfl, hs⟩, hw⟩; have HS := Lib.hid hs; have HW := Lib.hid hw; clear hs hw))
  exact bodyPost_ret (v := .tuple #[.float .f32 r, .bool true]) (by simp [results, Tryd.results51, go_sem]) rfl ⟨⟨r, rfl, HS.out⟩, HW.out⟩

theorem numbersText_nil (a : Option Addr) (c : Nat) (w : World) : Calls Tryd.prog 52 #[.slice a 0 c] w fun e w' => e = .returned (.tuple #[.string noneB, .bool true]) ∧ Below w.heap.size w w' := by
  go_enter Tryd.func52, Tryd.ntmps52
  go_wp2_with (go_at_call 98; refine (listOk_any a 0 c (by omega) _).mono ?_; rintro e w1 ⟨rfl, rfl⟩)
  have H0 := Lib.hid (Own.lit (e := 9) (Below.refl w.heap.size w) #[] 0 (by omega) rfl)
  refine wp_loop_rounds 1 ?_
  rw [rounds_succ]
  go_wp2_with (go_at_call 81; refine (joined_c (ts := []) H0.out (by simp [Lib.join_nil]) (by simp)).mono ?_; rintro e w1 ⟨rfl, hw1⟩; have hbel := Lib.hid (bthen H0.out.bel hw1); clear hw1 H0)
  exact bodyPost_ret (v := .tuple #[.string noneB, .bool true]) (by simp [results, Tryd.results52, go_sem, joinT, noneB]) rfl ⟨rfl, hbel.out⟩
theorem numbersText_any {w : World} {v : Value} {ps : List Nat} (hv : VList w v (ps.map flV)) (h32 : ∀ p ∈ ps, W32 p) (hl : ps.length ≤ 100) :
    Calls Tryd.prog 52 #[v] w fun e w' => e = .returned (.tuple #[.string (numText ps), .bool true]) ∧ Below w.heap.size w w' := by
  obtain ⟨a, c, rfl, hp⟩ := hv
  rw [List.length_map] at hp ⊢
  cases hps : ps with
  | nil => exact numbersText_nil a c w
  | cons p r =>
    rw [← hps]
    obtain ⟨b, rfl, hb, hc⟩ := hp (by rw [hps]; simp)
    exact numbersText_c (VList.nums hb hc) h32 (by omega)
theorem readNumbers_any {ps : List Nat} (h32 : ∀ p ∈ ps, W32 p) (hl : ps.length ≤ 100) {w : World} (hm : MaxLen w) :
    Calls Tryd.prog 53 #[.string (numText ps)] w fun e w' => (∃ v, e = .returned (.tuple #[v, .bool true]) ∧ VList w' v ((ps.map bitsOf).map flV)) ∧ Below w.heap.size w w' := by
  cases hps : ps with
  | nil =>
    refine (readNumbers_none w).mono ?_
    rintro e w' ⟨⟨c, g, rfl⟩, hw⟩
    exact ⟨⟨_, rfl, ⟨_, _, rfl, fun h => by simp at h⟩⟩, hw⟩
  | cons p r =>
    rw [← hps]
    refine (readText_c (by rw [hps]; simp) h32 (by omega) hm).mono ?_
    rintro e w' ⟨⟨v, rfl, ho⟩, hw⟩
    refine ⟨⟨v, rfl, ?_⟩, hw⟩
    have := ho.list
    rwa [show (ps.map fun x => Value.float .f32 (bitsOf x)) = (ps.map bitsOf).map flV by rw [List.map_map]; rfl] at this
end Go.Proofs.YtglnfccglgladaaDoor
