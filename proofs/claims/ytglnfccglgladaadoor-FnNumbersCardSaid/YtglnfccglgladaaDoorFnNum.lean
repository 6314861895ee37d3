/-
  The law of numbers: the walk.
-/
import Derived.Test.YtglnfccglgladaaDoorSine
import Derived.Test.YtglnfccglgladaaDoorFnVec
import Derived.Deep.RegionHeld3
import Derived.Deep.DeepCutAuto
namespace Go.Proofs.YtglnfccglgladaaDoor
open Go.RowKit
set_option linter.unusedVariables false
set_option linter.unusedSimpArgs false

theorem nanConst : nan32 2143289344 = true := by decide +kernel
theorem sameN_bits (x y : Nat) : sameN x y = (bitsOf x == bitsOf y) := by
  unfold sameN bitsOf
  cases hx : nan32 x <;> cases hy : nan32 y
  · simp
  · simp only [Bool.or_true, if_true, Bool.false_and, Bool.false_eq_true, if_false]
    symm
    rw [beq_eq_false_iff_ne]
    rintro rfl
    rw [nanConst] at hx
    cases hx
  · simp only [Bool.or_false, if_true, Bool.true_and, Bool.and_false, Bool.false_eq_true, if_false]
    symm
    rw [beq_eq_false_iff_ne]
    rintro rfl
    rw [nanConst] at hy
    cases hy
  · simp
theorem l01SameB_c {x y : Nat} (hx : W32 x) (hy : W32 y) (w : World) : Calls Tryd.prog 62 #[.float .f32 x, .float .f32 y] w fun e w' => e = .returned (.bool (sameN x y)) ∧ w = w' := by
  rw [sameN_bits]
  have L1 := Lib.hid (fun w => l01Bits_any x hx w)
  have L2 := Lib.hid (fun w => l01Bits_any y hy w)
  generalize bitsOf x = a at *
  generalize bitsOf y = b at *
  clear hx hy
  by_cases h : a = b
  · subst h
    go_enter Tryd.func62, Tryd.ntmps62
    go_wp2_with (go_at_call 107; first | (with_reducible refine (L1.out _).mono ?_; rintro e w1 ⟨rfl, rfl⟩) | (with_reducible refine (L2.out _).mono ?_; rintro e w1 ⟨rfl, rfl⟩))
    go_ret
    exact ⟨by simp, rfl⟩
  · have h2 : ((a : Int) == (b : Int)) = false := by simp; omega
    have h3 : (a == b) = false := by simp [h]
    rw [h3]
    clear h h3
    go_enter Tryd.func62, Tryd.ntmps62
    go_wp2_with (go_at_call 107; first | (with_reducible refine (L1.out _).mono ?_; rintro e w1 ⟨rfl, rfl⟩) | (with_reducible refine (L2.out _).mono ?_; rintro e w1 ⟨rfl, rfl⟩))
    go_ret
    exact ⟨rfl, rfl⟩
theorem specSameB_c {x y : Nat} (hx : W32 x) (hy : W32 y) (w : World) : Calls Tryd.prog 16 #[.float .f32 x, .float .f32 y] w fun e w' => e = .returned (.bool (sameN x y)) ∧ w = w' := by
  have L := Lib.hid (fun w => l01SameB_c hx hy w)
  clear hx hy
  go_enter Tryd.func16, Tryd.ntmps16
  go_wp2_with (go_at_call 62; refine (L.out _).mono ?_; rintro e w1 ⟨rfl, rfl⟩)
  go_ret
  exact ⟨rfl, rfl⟩
theorem narrowN_c {p x : Nat} (hx : W32 x) (hp : Back p x) (w : World) : Calls Tryd.prog 57 #[.float .f64 p] w fun e w' => (∃ r, e = .returned (.float .f32 r) ∧ W32 r ∧ sameN r x = true) ∧ Below w.heap.size w w' := by
  rcases narrow_run hx hp with h1 | ⟨q1, k1, n1, h1⟩
  · go_enter Tryd.func57, Tryd.ntmps57
    go_wp2
    go_ret
    exact ⟨⟨x, rfl, hx, sameN_refl _⟩, Below.refl _ _⟩
  · go_enter Tryd.func57, Tryd.ntmps57
    go_wp2
    go_ret
    exact ⟨⟨_, rfl, nanOf_w32 k1 _, sameN_nans (nanOf_nan32 k1 _) n1⟩, (Below.refl _ _).drew⟩

set_option maxRecDepth 100000 in
set_option maxHeartbeats 8000000 in
theorem fnNumbers_c {w : World} {n cp m cp' : Nat} {A A' : Option Addr} (hc : Code w w.heap.size A n) (hc' : Code w w.heap.size A' m) (hm : MaxLen w) :
    Calls Tryd.prog 6 #[.slice A n cp, .slice A' m cp'] w fun e w' => e = .returned (.bool true) ∧ Below w.heap.size w w' := by
  by_cases hlong : 1048576 < n ∨ 1048576 < m
  · go_enter Tryd.func6, Tryd.ntmps6
    go_wp2_with (go_at_call 7; refine (long_true hlong _).mono ?_; rintro e w1 ⟨rfl, rfl⟩)
    go_ret
    exact ⟨rfl, Below.refl _ _⟩
  · have hn : n ≤ 1048576 := by omega
    have hmm : m ≤ 1048576 := by omega
    have HC := Lib.hid hc
    have HC' := Lib.hid hc'
    have HM := Lib.hid hm
    clear hc hc' hm hlong
    go_enter Tryd.func6, Tryd.ntmps6
    go_wp2_with fail
    refine (long_c hn hmm _).mono ?_
    rintro e w1 ⟨rfl, rfl⟩
    go_wp2_with fail
    refine (b10number_c (by omega) HC.out).mono ?_
    rintro e w1 ⟨⟨x, rfl, hx⟩, hw⟩
    have HB1 := Lib.hid hw
    have HX := Lib.hid hx
    clear hw hx
    go_wp2_with fail
    refine (b10number_c (by omega) (HC'.out.into HB1.out)).mono ?_
    rintro e w2 ⟨⟨y, rfl, hy⟩, hw⟩
    have HB2 := Lib.hid (bthen HB1.out hw)
    have HY := Lib.hid hy
    have HX2 := Lib.hid (show W32 (bitsOf x) from bitsOf_lt HX.out)
    clear hw hy HB1
    go_upto_region 7 with (first
      | (go_at_call 42; with_reducible refine (bitsOf_c x HX.out _).mono ?_; rintro e w3 ⟨rfl, rfl⟩)
      | (go_at_call 41; with_reducible refine (fromBits_c (bitsOf x) HX2.out _).mono ?_; rintro e w3 ⟨rfl, rfl⟩)
      | (go_at_call 49; with_reducible refine (flush_c HX.out _).mono ?_; rintro e w3 ⟨rfl, rfl⟩))
    go_wp2_with fail
    refine (b10at_c (by omega) (HC.out.into HB2.out) (by omega) (by omega)).mono ?_
    rintro e w3 ⟨⟨r, rfl, hr⟩, rfl⟩
    have hr' : r < 12 := by omega
    clear hr
    go_wp2_with fail
    refine (b10numbers_c (k := r) (by omega) (HC'.out.into HB2.out) (by omega)).mono ?_
    rintro e w4 ⟨⟨v, ps, rfl, hl, hv, h32⟩, hw⟩
    have HB4 := Lib.hid (bthen HB2.out hw)
    have hl' : ps.length ≤ 100 := by omega
    obtain ⟨la, lc, hv0, hp⟩ := id hv
    rw [List.length_map] at hv0 hp
    subst hv0
    have HT := Lib.hid (fun (W : World) (k : Below w4.heap.size w4 W) => numbersText_any (hv.after k) h32 hl')
    have HR := Lib.hid (fun (W : World) hm => readNumbers_any h32 hl' (w := W) hm)
    have HS := Lib.hid (fun (W : World) (k : Below w4.heap.size w4 W) => sumNumbers_any (hv.after k) hl')
    have HV := Lib.hid hv
    have HP := Lib.hid hp
    have H32 := Lib.hid h32
    have hN1 : (ps.length : Int) ≤ 100 := by omega
    have hN0 : (0 : Int) ≤ ps.length := by omega
    clear hw HB2 HC' HC hv h32 hl hl' hr' hp
    obtain ⟨N, hN⟩ : ∃ N, ps.length = N := ⟨_, rfl⟩
    rw [hN] at HT HS HV HP hN1 hN0 ⊢
    have HN := Lib.hid hN
    clear hN
    go_upto_block 0 with fail
    go_cut [11] from 42 to 50 (fun s wx => ∃ q, s = .float .f32 q ∧ Hid (SumIs (sumQ ps) q) ∧ Hid (Below w4.heap.size w4 wx))
    case first =>
      by_cases h0 : N = 0
      · subst h0
        have e : ps = [] := List.length_eq_zero_iff.1 HN.out
        have S0 : Hid (SumIs (sumQ ps) 0) := Lib.hid (by rw [e]; exact ⟨by unfold W32; omega, rfl⟩)
        go_wp2_with fail
        refine wp_loop_rounds 1 ?_
        rw [rounds_succ]
        go_wp2
        go_meet
        exact ⟨0, rfl, S0, Lib.hid (Below.refl _ _)⟩
      · obtain ⟨b, rfl, hb, hc⟩ := HP.out (by have := HN.out; omega)
        have NU := Lib.hid (VList.nums hb hc)
        clear hb hc
        go_wp2_with fail
        go_loopw [11, 41] (fun v i wr => ∃ (k q : Nat), k ≤ N ∧ v = .float .f32 q ∧ i = .int .i64 k ∧ Hid (SumIs (sumQ (ps.take k)) q) ∧ Hid (Below w4.heap.size w4 wr)) (fun _ i _ => N - (intOf i).toNat)
        case atStart => exact ⟨0, 0, Nat.zero_le _, rfl, rfl, Lib.hid ⟨by unfold W32; omega, rfl⟩, Lib.hid (Below.refl _ _)⟩
        case round =>
          obtain ⟨k, q, hk, rfl, rfl, hs, hbel⟩ := hrel
          by_cases hlt : k < N
          · have hkx : k < ps.length := by rw [HN.out]; exact hlt
            obtain ⟨z, hz⟩ : ∃ z, ps[k] = z := ⟨_, rfl⟩
            have hc : wr.cell? ⟨b, k, none⟩ = some (.float .f32 z) := by
              rw [hbel.out.cell (p := ⟨b, k, none⟩) NU.out.1]
              have := NU.out.2 k z (by rw [List.getElem?_eq_getElem hkx, hz])
              rwa [Nat.zero_add] at this
            have hnext := sumQ_next hkx
            rw [hz] at hnext
            rcases sum_step (x := z) hs.out with ⟨v, hv, hs2⟩ | ⟨hv, hs2⟩
            · have hr := rf (P := Tryd.prog) hv
              rw [← hnext] at hs2
              have H2 := Lib.hid hs2
              clear hv hs2 hz hs hnext
              go_wp2
              go_roundw
              case rel => exact ⟨k + 1, v, by omega, rfl, by simp, H2, hbel⟩
              case measure => simp [intOf]; omega
            · have hr := run_arith_nan (P := Tryd.prog) (op := .add) (by simp) hv
              have hq : AsksNan .f32 (.nanBits .f32 q z) := Or.inl ⟨q, z, rfl⟩
              rw [← hnext] at hs2
              have H2 := Lib.hid hs2
              have HQ := Lib.hid hq
              clear hv hs2 hz hs hnext hq
              go_wp2
              go_roundw
              case rel => exact ⟨k + 1, _, by omega, rfl, by simp, Lib.hid (H2.out _ (nanOf_w32 HQ.out _) (nanOf_nan32 HQ.out _)), Lib.hid hbel.out.drew⟩
              case measure => simp [intOf]; omega
          · have htk : ps.take k = ps := List.take_of_length_le (by rw [HN.out]; omega)
            rw [htk] at hs
            go_wp2
            go_meet
            exact ⟨q, rfl, hs, hbel⟩
    case rest =>
      obtain ⟨q, rfl, hs, hbel⟩ := hcut
      have HB5 := Lib.hid (bthen HB4.out hbel.out)
      have HV5 := Lib.hid (HV.out.after hbel.out)
      have HS5 := Lib.hid (HS.out _ hbel.out)
      have HQ := Lib.hid hs.out
      have HT5 := Lib.hid (fun W (k : Below wc.heap.size wc W) => HT.out W (bthen hbel.out k))
      clear hs hbel HS HV HB4 HT
      go_wp2_with fail
      refine HS5.out.mono ?_
      rintro e w6 ⟨⟨q2, rfl, hq2⟩, hw⟩
      have HQ2 := Lib.hid hq2
      have HB6 := Lib.hid (bthen HB5.out hw)
      have HV6 := Lib.hid (HV5.out.after hw)
      have HT6 := Lib.hid (HT5.out _ hw)
      clear hq2 hw HB5 HV5 HT5 HS5
      generalize hTx : numText ps = T at *
      go_wp2_with fail
      refine HT6.out.mono ?_
      rintro e w7 ⟨rfl, hw⟩
      have HB7 := Lib.hid (bthen HB6.out hw)
      have HV7 := Lib.hid (HV6.out.after hw)
      clear hw HB6 HV6 HT6
      go_wp2_with fail
      refine (HR.out _ (HM.out.into HB7.out)).mono ?_
      rintro e w8 ⟨⟨v8, rfl, hv8⟩, hw⟩
      have HB8 := Lib.hid (bthen HB7.out hw)
      have HV8 := Lib.hid (HV7.out.after hw)
      obtain ⟨ra, rc, hv0, hp8⟩ := hv8
      rw [List.length_map, List.length_map, HN.out] at hv0 hp8
      subst hv0
      have HP8 := Lib.hid hp8
      clear hw HB7 HV7 HR HM hp8 hTx
      go_upto_region 17 with fail
      have C1 := Lib.hid (fun w => specSame_c (x := bitsOf x) (y := x) HX2.out HX.out (bitsOf_idem x) w)
      have C2 := Lib.hid (fun w => isSub_c (flushed_w32 HX.out) w)
      have C3 := Lib.hid (fun w => isSub_c HX.out w)
      have C4 := Lib.hid (fun w => specSameB_c HX.out (flushed_w32 HX.out) w)
      have C5 := Lib.hid (fun w => specSame_c (x := q2) (y := q) HQ2.out.1 HQ.out.1 (HQ2.out.bits HQ.out) w)
      rw [flushed_plain] at C2
      have hfs := flushed_same x
      generalize flushed x = fx at *
      generalize subB x = sb at *
      generalize sameN x fx = sn at *
      go_cut [110] from 66 to 110 (fun s wx => s = .bool false ∧ w8 = wx)
      case first =>
        cases sb <;> cases sn
        · cases hfs
        · clear hfs
          go_wp2_with (first
            | (go_at_call 16; first
              | (with_reducible refine (C1.out _).mono ?_; rintro e w9 ⟨rfl, rfl⟩)
              | (with_reducible refine (C4.out _).mono ?_; rintro e w9 ⟨rfl, rfl⟩)
              | (with_reducible refine (C5.out _).mono ?_; rintro e w9 ⟨rfl, rfl⟩))
            | (go_at_call 54; first
              | (with_reducible refine (C2.out _).mono ?_; rintro e w9 ⟨rfl, rfl⟩)
              | (with_reducible refine (C3.out _).mono ?_; rintro e w9 ⟨rfl, rfl⟩)))
          go_meet
          exact ⟨rfl, rfl⟩
        · clear hfs
          go_wp2_with (first
            | (go_at_call 16; first
              | (with_reducible refine (C1.out _).mono ?_; rintro e w9 ⟨rfl, rfl⟩)
              | (with_reducible refine (C4.out _).mono ?_; rintro e w9 ⟨rfl, rfl⟩)
              | (with_reducible refine (C5.out _).mono ?_; rintro e w9 ⟨rfl, rfl⟩))
            | (go_at_call 54; first
              | (with_reducible refine (C2.out _).mono ?_; rintro e w9 ⟨rfl, rfl⟩)
              | (with_reducible refine (C3.out _).mono ?_; rintro e w9 ⟨rfl, rfl⟩)))
          go_meet
          exact ⟨rfl, rfl⟩
        · cases hfs
      case rest =>
        obtain ⟨rfl, rfl⟩ := hcut
        clear C1 C2 C3 C4 C5 hfs HQ HQ2
        go_upto_block 2 with fail
        go_cut [4] from 114 to 126 (fun _ wx => Hid (Below w8.heap.size w8 wx))
        case first =>
          by_cases h0 : N = 0
          · subst h0
            go_wp2_with fail
            refine wp_loop_rounds 1 ?_
            rw [rounds_succ]
            go_wp2
            go_meet
            exact Lib.hid (Below.refl _ _)
          · obtain ⟨b, rfl, hb, hc⟩ := HP8.out (by omega)
            obtain ⟨a', c', he, hq⟩ := HV8.out
            rw [List.length_map, HN.out] at he hq
            simp only [Value.slice.injEq, true_and] at he
            obtain ⟨rfl, rfl⟩ := he
            obtain ⟨b', rfl, hb', hc'⟩ := hq (by omega)
            have NU := Lib.hid (VList.nums hb hc)
            have NV := Lib.hid (VList.nums hb' hc')
            clear hb hc hb' hc' hq
            go_wp2_with fail
            go_loopw [113] (fun i wr => ∃ k : Nat, k ≤ N ∧ i = .int .i64 k ∧ Hid (Below w8.heap.size w8 wr)) (fun i _ => N - (intOf i).toNat)
            case atStart => exact ⟨0, Nat.zero_le _, rfl, Lib.hid (Below.refl _ _)⟩
            case round =>
              obtain ⟨k, hk, rfl, hbel⟩ := hrel
              by_cases hlt : k < N
              · have hkx : k < ps.length := by rw [HN.out]; exact hlt
                obtain ⟨z, hz⟩ : ∃ z, ps[k] = z := ⟨_, rfl⟩
                have d1 : wr.cell? ⟨b, k, none⟩ = some (.float .f32 (bitsOf z)) := by
                  rw [hbel.out.cell (p := ⟨b, k, none⟩) NU.out.1]
                  have := NU.out.2 k (bitsOf z) (by rw [List.getElem?_map, List.getElem?_eq_getElem hkx, hz]; rfl)
                  rwa [Nat.zero_add] at this
                have d2 : wr.cell? ⟨b', k, none⟩ = some (.float .f32 z) := by
                  rw [hbel.out.cell (p := ⟨b', k, none⟩) NV.out.1]
                  have := NV.out.2 k z (by rw [List.getElem?_eq_getElem hkx, hz])
                  rwa [Nat.zero_add] at this
                have l1 : b < wr.heap.size := World.block_lt_of_cell? wr _ d1
                have l2 : b' < wr.heap.size := World.block_lt_of_cell? wr _ d2
                have hzw := H32.out _ (List.getElem_mem hkx)
                rw [hz] at hzw
                have C := Lib.hid (fun w => specSame_c (x := bitsOf z) (y := z) (bitsOf_lt hzw) hzw (bitsOf_idem z) w)
                clear hz hzw
                generalize bitsOf z = z' at *
                go_wp2
                refine wp_region_reads (by kernel_rfl) (by kernel_rfl) ?_
                repeat (refine tame_step rfl ?_; apply Exists.intro; refine ⟨fun w' hw => ?_, ?_⟩; (have hc := hw.cell; go_simp; first | (with_reducible rfl) | (go_at_call 16; with_reducible exact hw.same (C.out _))); (try simp only [Act.put, List.setIfInBounds_toArray, List.set_cons_zero, List.set_cons_succ]))
                refine wpQuiet_nil ?_
                intro w9 hw
                have hb9 := Lib.hid (bthen hbel.out hw)
                clear hbel d1 d2 l1 l2 hw C
                go_wp2
                go_roundw
                case rel => exact ⟨k + 1, by omega, by simp, hb9⟩
                case measure => simp [intOf]; omega
              · go_wp2
                go_meet
                exact hbel
        case rest =>
          have hbel := hcut
          have HB9 := Lib.hid (bthen HB8.out hbel.out)
          clear hbel HB8 HV8 HP8 HP H32 HN hN1 hN0
          obtain ⟨o, ho⟩ := angle_c HY.out HX.out
          have HO := Lib.hid ho
          clear ho HY
          have h1 : FloatKind.f32.format.order 1065353216 1065353216 = some .eq := by decide +kernel
          rcases widen_run HX.out with ⟨p, k1, hc⟩ | ⟨p, k1, n1, hc⟩
          · have HBk := Lib.hid (fun _ : World => k1)
            clear k1
            go_wp2_with (first
            | (go_at_call 55; refine (HO.out _).mono ?_; rintro e w10 ⟨⟨r1, rfl, hr1⟩, hw⟩; have HR1 := Lib.hid hr1; have WR1 := Lib.hid hr1.1; have HB10 := Lib.hid (bthen HB9.out hw); clear hr1 hw HB9)
            | (go_at_call 56; refine (angleOf_c HO.out _).mono ?_; rintro e w11 ⟨⟨r2, rfl, hr2⟩, hw⟩; have HR2 := Lib.hid hr2; have WR2 := Lib.hid hr2.1; have HB11 := Lib.hid (bthen HB10.out hw); clear hr2 hw HB10)
            | (go_at_call 16; first
              | (with_reducible refine (specSame_c (x := r1) (y := r2) WR1.out WR2.out (HR1.out.bits HR2.out) _).mono ?_; rintro e w12 ⟨rfl, rfl⟩)
              | (with_reducible refine (specSame_c (x := r3) (y := x) HR3.out.1 HX.out HR3.out.2 _).mono ?_; rintro e w12 ⟨rfl, rfl⟩))
            | (go_at_call 57; refine (narrowN_c HX.out (HBk.out w) _).mono ?_; rintro e w13 ⟨⟨r3, rfl, hr3⟩, hw⟩; have HR3 := Lib.hid (show W32 r3 ∧ bitsOf r3 = bitsOf x from ⟨hr3.1, beq_iff_eq.1 ((sameN_bits r3 x).symm.trans hr3.2)⟩); have HB13 := Lib.hid (bthen HB11.out hw); clear hr3 hw HB11)
            | (go_at_call 58; refine (sineTurns_c _).mono ?_; rintro e w14 ⟨rfl, hw⟩; have HB14 := Lib.hid (bthen HB13.out hw); clear hw HB13))
            go_ret
            exact ⟨rfl, HB14.out⟩
          · have HBk := Lib.hid (back_nan k1 n1)
            clear k1 n1
            go_wp2_with (first
            | (go_at_call 55; refine (HO.out _).mono ?_; rintro e w10 ⟨⟨r1, rfl, hr1⟩, hw⟩; have HR1 := Lib.hid hr1; have WR1 := Lib.hid hr1.1; have HB10 := Lib.hid (bthen HB9.out hw); clear hr1 hw HB9)
            | (go_at_call 56; refine (angleOf_c HO.out _).mono ?_; rintro e w11 ⟨⟨r2, rfl, hr2⟩, hw⟩; have HR2 := Lib.hid hr2; have WR2 := Lib.hid hr2.1; have HB11 := Lib.hid (bthen HB10.out hw); clear hr2 hw HB10)
            | (go_at_call 16; first
              | (with_reducible refine (specSame_c (x := r1) (y := r2) WR1.out WR2.out (HR1.out.bits HR2.out) _).mono ?_; rintro e w12 ⟨rfl, rfl⟩)
              | (with_reducible refine (specSame_c (x := r3) (y := x) HR3.out.1 HX.out HR3.out.2 _).mono ?_; rintro e w12 ⟨rfl, rfl⟩))
            | (go_at_call 57; refine (narrowN_c HX.out (HBk.out _) _).mono ?_; rintro e w13 ⟨⟨r3, rfl, hr3⟩, hw⟩; have HR3 := Lib.hid (show W32 r3 ∧ bitsOf r3 = bitsOf x from ⟨hr3.1, beq_iff_eq.1 ((sameN_bits r3 x).symm.trans hr3.2)⟩); have HB13 := Lib.hid (bthen HB11.out.drew hw); clear hr3 hw HB11)
            | (go_at_call 58; refine (sineTurns_c _).mono ?_; rintro e w14 ⟨rfl, hw⟩; have HB14 := Lib.hid (bthen HB13.out hw); clear hw HB13))
            go_ret
            exact ⟨rfl, HB14.out⟩
end Go.Proofs.YtglnfccglgladaaDoor
