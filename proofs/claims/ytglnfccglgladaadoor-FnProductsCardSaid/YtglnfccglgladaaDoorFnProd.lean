/-
  The law of products: the walk, down to the lists.
-/
import Derived.Test.YtglnfccglgladaaDoorCxAny
import Derived.Deep.RegionHeld3
import Derived.Deep.DeepCutAuto
namespace Go.Proofs.YtglnfccglgladaaDoor
open Go.RowKit
set_option linter.unusedVariables false
set_option linter.unusedSimpArgs false

set_option maxRecDepth 100000 in
set_option maxHeartbeats 8000000 in
theorem fnProducts_c {w : World} {n cp m cp' : Nat} {A A' : Option Addr} (hc : Code w w.heap.size A n) (hc' : Code w w.heap.size A' m) (hm : MaxLen w) :
    Calls Tryd.prog 5 #[.slice A n cp, .slice A' m cp'] w fun e w' => e = .returned (.bool true) ∧ Below w.heap.size w w' := by
  by_cases hlong : 1048576 < n ∨ 1048576 < m
  · go_enter Tryd.func5, Tryd.ntmps5
    go_wp2_with (go_at_call 7; refine (long_true hlong _).mono ?_; rintro e w1 ⟨rfl, rfl⟩)
    go_ret
    exact ⟨rfl, Below.refl _ _⟩
  · have hn : n ≤ 1048576 := by omega
    have hmm : m ≤ 1048576 := by omega
    have HC := Lib.hid hc
    have HC' := Lib.hid hc'
    have HM := Lib.hid hm
    clear hc hc' hm hlong
    go_enter Tryd.func5, Tryd.ntmps5
    go_wp2_with fail
    refine (long_c hn hmm _).mono ?_
    rintro e w1 ⟨rfl, rfl⟩
    go_wp2_with fail
    refine (b10whole_c (by omega) HC.out).mono ?_
    rintro e w1 ⟨⟨a, b, g, c0, rfl, hcell, ha, hb⟩, hw⟩
    have HB1 := Lib.hid hw
    go_wp2_with fail
    refine (b10whole_c (by omega) (HC'.out.into HB1.out)).mono ?_
    rintro e w2 ⟨⟨c, d, g2, c02, rfl, hcell2, hc, hd⟩, hw2⟩
    have HB2 := Lib.hid (bthen HB1.out hw2)
    obtain ⟨p0, p1, q0, q1, pw, n1, r0, r1, lg, s0, s1, a0, a1, fX, fY, fP, X, Y, Z, hR⟩ := cxRun ha hb hc hd
    obtain ⟨ac, bd, ad, bc, aa, bb, hI⟩ := intRun ha hb hc hd hR.hX hR.hY hR.hP hR.fx hR.fy hR.fp
    generalize floatOfInt .f32 a = x at *
    generalize floatOfInt .f32 b = y at *
    generalize floatOfInt .f32 c = u at *
    generalize floatOfInt .f32 d = v at *
    have R := Lib.hid hR
    have I := Lib.hid hI
    clear hR hI ha hb hc hd hw hw2 hcell HB1
    go_wp2_with fail
    refine (R.out.mul1 _).mono ?_
    rintro e w3 ⟨rfl, rfl⟩
    have i1 := R.out.i1
    have i2 := R.out.i2
    have i3 := R.out.i3
    have i4 := R.out.i4
    have j1 := I.out.m1
    have j2 := I.out.m2
    have j3 := I.out.m3
    have j4 := I.out.m4
    have j5 := I.out.m5
    have j6 := I.out.m6
    go_upto_region 9 with fail
    rw [I.out.s1, I.out.s2, I.out.s3]
    clear i1 i2 i3 i4 j1 j2 j3 j4 j5 j6
    have c1 := I.out.c1
    have c2 := I.out.c2
    have c3 := I.out.c3
    have n1 : FloatKind.f32.format.order p0 fX = some .eq := R.out.e1
    have n2 : FloatKind.f32.format.order p1 fY = some .eq := R.out.e2
    have n3 : FloatKind.f32.format.order q0 p0 = some .eq := R.out.e3
    have n4 : FloatKind.f32.format.order q1 p1 = some .eq := R.out.e4
    have n5 : FloatKind.f32.format.order pw fP = some .eq := R.out.e5
    have n6 : FloatKind.f32.format.order r0 fP = some .eq := R.out.e6
    have n7 : FloatKind.f32.format.order r1 0 = some .eq := R.out.e7
    go_upto_region 11 with (first
      | (go_at_call 30; first
        | (with_reducible refine (R.out.mul2 _).mono ?_; rintro e w3 ⟨rfl, rfl⟩)
        | (with_reducible refine (R.out.mul3 _).mono ?_; rintro e w3 ⟨rfl, rfl⟩))
      | (go_at_call 31; refine (R.out.power _).mono ?_; rintro e w3 ⟨rfl, rfl⟩)
      | (go_at_call 32; refine (R.out.conj _).mono ?_; rintro e w3 ⟨rfl, rfl⟩)
      | (go_at_call 33; refine (R.out.long _).mono ?_; rintro e w3 ⟨rfl, rfl⟩)
      | (go_at_call 18; refine (R.out.root _).mono ?_; rintro e w3 ⟨rfl, rfl⟩)
      | (go_at_call 16; refine (R.out.same _).mono ?_; rintro e w3 ⟨rfl, rfl⟩))
    clear c1 c2 c3 n1 n2 n3 n4 n5 n6 n7
    go_cut [136] from 120 to 136 (fun s wx => s = .bool false ∧ wx = w2)
    case first =>
      have sm := R.out.sum
      have n8 : FloatKind.f32.format.order s0 a0 = some .eq := R.out.e8
      have n9 : FloatKind.f32.format.order s1 a1 = some .eq := R.out.e9
      rcases R.out.quo with ⟨h1, h2⟩ | ⟨h, t0, t1, hq, h1, h2⟩
      · have o1 : FloatKind.f32.format.order u 0 = some .eq := h1
        have o2 : FloatKind.f32.format.order v 0 = some .eq := h2
        clear h1 h2
        go_wp2_with (go_at_call 35; refine (R.out.scale _).mono ?_; rintro e w3 ⟨rfl, rfl⟩)
        go_meet
        exact ⟨rfl, rfl⟩
      · have o1 : FloatKind.f32.format.order t0 x = some .eq := h1
        have o2 : FloatKind.f32.format.order t1 y = some .eq := h2
        have HQ := Lib.hid hq
        have o3 : ¬ FloatKind.f32.format.order u 0 = some .eq ∨ ¬ FloatKind.f32.format.order v 0 = some .eq := h
        clear h1 h2 hq h
        go_wp2_with (first
          | (go_at_call 35; refine (R.out.scale _).mono ?_; rintro e w3 ⟨rfl, rfl⟩)
          | (go_at_call 34; refine (HQ.out _).mono ?_; rintro e w3 ⟨rfl, rfl⟩))
        go_meet
        exact ⟨rfl, rfl⟩
    case rest =>
      obtain ⟨rfl, rfl⟩ := hcut
      clear R I
      go_wp2_with fail
      refine (b10at_c (by omega) (HC.out.into HB2.out) (by omega) (by omega)).mono ?_
      rintro e w3 ⟨⟨r, rfl, hr⟩, rfl⟩
      have hr' : r < 9 := by omega
      clear hr
      go_wp2_with fail
      refine (b10any_c (k := r) (by omega) (HC'.out.into HB2.out) (by omega)).mono ?_
      rintro e w4 ⟨⟨v, ps, rfl, hl, hv, h32⟩, hw⟩
      have HB4 := Lib.hid (bthen HB2.out hw)
      have hl' : ps.length ≤ 100 := by omega
      clear hw HB2 HC' hcell2
      have HT := Lib.hid (complexText_any hv h32 hl')
      have HRd := Lib.hid (fun w hm => readComplex_any h32 hl' (w := w) hm)
      have HSm := Lib.hid (fun w v1 v2 h1 h2 => b10same_any (w := w) (v1 := v1) (v2 := v2) h1 h2 h32 hl')
      have HV := Lib.hid hv
      clear hv h32 hl hl' hr'
      generalize cxText ps = T at *
      go_wp2_with fail
      refine HT.out.mono ?_
      rintro e w5 ⟨rfl, hw⟩
      have HB5 := Lib.hid (bthen HB4.out hw)
      have HV5 := Lib.hid (HV.out.after hw)
      clear hw HB4 HV HT
      go_wp2_with fail
      refine (HRd.out _ (HM.out.into HB5.out)).mono ?_
      rintro e w6 ⟨⟨v6, rfl, ho⟩, hw⟩
      have HB6 := Lib.hid (bthen HB5.out hw)
      have HV6 := Lib.hid (HV5.out.after hw)
      have HO6 := Lib.hid ho
      clear hw HB5 HV5 ho HRd
      go_wp2_with fail
      refine (b10number_c (by omega) (HC.out.into HB6.out)).mono ?_
      rintro e w7 ⟨⟨z, rfl, hz⟩, hw⟩
      have HB7 := Lib.hid (bthen HB6.out hw)
      have HV7 := Lib.hid (HV6.out.after hw)
      have HO7 := Lib.hid (HO6.out.after hw)
      have HZ := Lib.hid hz
      have HZ2 := Lib.hid (show W32 (bitsOf z) from bitsOf_lt hz)
      have HZ3 := Lib.hid (bitsOf_idem z)
      clear hw HB6 HV6 HO6 hz
      go_wp2_with (first
        | (go_at_call 42; with_reducible refine (bitsOf_c z HZ.out _).mono ?_; rintro e w8 ⟨rfl, rfl⟩)
        | (go_at_call 41; with_reducible refine (fromBits_c (bitsOf z) HZ2.out _).mono ?_; rintro e w8 ⟨rfl, rfl⟩))
      refine (b10complex_c (by omega) (HC.out.into HB7.out)).mono ?_
      rintro e w8 ⟨⟨wx, wy, rfl, hx, hy⟩, hw⟩
      have HB8 := Lib.hid (bthen HB7.out hw)
      have HV8 := Lib.hid (HV7.out.after hw)
      have HO8 := Lib.hid (HO7.out.after hw)
      have HX := Lib.hid hx
      have HY := Lib.hid hy
      clear hw HB7 HV7 HO7 HC HM
      have cx := widen_run hx
      have cy := widen_run hy
      clear hx hy
      go_upto_region 19 with fail
      go_cut [20] from 161 to 167 (fun s wx' => ∃ p q, s = .complex .f64 p q ∧ Hid (Back p wx) ∧ Hid (Back q wy) ∧ Hid (Below w8.heap.size w8 wx'))
      case first =>
        rcases cx with ⟨p, k1, h1⟩ | ⟨p, k1, n1, h1⟩ <;> rcases cy with ⟨q, k2, h2⟩ | ⟨q, k2, n2, h2⟩
        · have K1 := Lib.hid k1
          have K2 := Lib.hid k2
          clear k1 k2
          go_wp2_with fail
          go_meet
          exact ⟨_, _, rfl, K1, K2, Lib.hid (Below.refl _ _)⟩
        · have K1 := Lib.hid k1
          have K2 := Lib.hid (back_nan k2 n2)
          clear k1 k2 n2
          go_wp2_with fail
          go_meet
          exact ⟨_, _, rfl, K1, Lib.hid (K2.out _), Lib.hid (Below.refl _ _).drew⟩
        · have K1 := Lib.hid (back_nan k1 n1)
          have K2 := Lib.hid k2
          clear k1 k2 n1
          go_wp2_with fail
          go_meet
          exact ⟨_, _, rfl, Lib.hid (K1.out _), K2, Lib.hid (Below.refl _ _).drew⟩
        · have K1 := Lib.hid (back_nan k1 n1)
          have K2 := Lib.hid (back_nan k2 n2)
          clear k1 k2 n1 n2
          go_wp2_with fail
          go_meet
          exact ⟨_, _, rfl, Lib.hid (K1.out _), Lib.hid (K2.out _), Lib.hid (Below.refl _ _).drew.drew⟩
      case rest =>
        clear cx cy
        obtain ⟨p, q, rfl, hp, hq, hw⟩ := hcut
        have HB9 := Lib.hid (bthen HB8.out hw.out)
        have HV9 := Lib.hid (HV8.out.after hw.out)
        have HO9 := Lib.hid (HO8.out.after hw.out)
        clear hw HB8 HV8 HO8
        have HS := Lib.hid (fun w => specSame_c (x := bitsOf z) (y := z) HZ2.out HZ.out HZ3.out w)
        have HN := Lib.hid (fun w => narrowC_c HX.out HY.out hp.out hq.out w)
        have HQ := Lib.hid (HSm.out _ _ _ HO9.out HV9.out)
        clear hp hq HZ HZ2 HZ3 HX HY HSm HO9 HV9
        cases hf : finB wx with
        | false =>
          have F := Lib.hid hf
          clear hf
          go_wp2_with (first
            | (go_at_call 44; with_reducible refine HQ.out.mono ?_; rintro e w10 ⟨rfl, hw⟩; have HB10 := Lib.hid (bthen HB9.out hw); clear hw HB9)
            | (go_at_call 16; with_reducible refine (HS.out _).mono ?_; rintro e w11 ⟨rfl, rfl⟩)
            | (go_at_call 46; with_reducible refine (HN.out _).mono ?_; rintro e w12 ⟨⟨x', y', rfl, h1, h2⟩, hw⟩; have HB12 := Lib.hid (bthen HB10.out hw); clear hw HB10; have HE1 := Lib.hid h1; have HE2 := Lib.hid h2; clear h1 h2)
            | (go_at_call 45; with_reducible refine (sameComplex_c _ _ _ _ _).mono ?_; rintro e w13 ⟨rfl, rfl⟩; first | rw [HE1.out, HE2.out] | rw [neg_neg32, sameN_refl, sameN_refl])
            | (go_at_call 32; with_reducible refine (impl_ConjugateOf_c _).mono ?_; rintro e w14 ⟨rfl, rfl⟩; unfold impl_ConjugateOf_V0 impl_ConjugateOf_V1)
            | (go_at_call 47; with_reducible refine (finiteComplex_c wx wy _).mono ?_; rintro e w15 ⟨rfl, hw⟩; have HB15 := Lib.hid (bthen HB12.out hw); clear hw HB12; rw [F.out, Bool.false_and])
            | (go_at_call 48; with_reducible refine (specIsFinite_c wx _).mono ?_; rintro e w16 ⟨rfl, hw⟩; have HB16 := Lib.hid (bthen HB15.out hw); clear hw HB15; rw [F.out]))
          go_ret
          exact ⟨rfl, HB16.out⟩
        | true =>
          have F := Lib.hid hf
          clear hf
          obtain ⟨fy, hfy⟩ : ∃ b, finB wy = b := ⟨_, rfl⟩
          have G := Lib.hid hfy
          clear hfy
          go_wp2_with (first
            | (go_at_call 44; with_reducible refine HQ.out.mono ?_; rintro e w10 ⟨rfl, hw⟩; have HB10 := Lib.hid (bthen HB9.out hw); clear hw HB9)
            | (go_at_call 16; with_reducible refine (HS.out _).mono ?_; rintro e w11 ⟨rfl, rfl⟩)
            | (go_at_call 46; with_reducible refine (HN.out _).mono ?_; rintro e w12 ⟨⟨x', y', rfl, h1, h2⟩, hw⟩; have HB12 := Lib.hid (bthen HB10.out hw); clear hw HB10; have HE1 := Lib.hid h1; have HE2 := Lib.hid h2; clear h1 h2)
            | (go_at_call 45; with_reducible refine (sameComplex_c _ _ _ _ _).mono ?_; rintro e w13 ⟨rfl, rfl⟩; first | rw [HE1.out, HE2.out] | rw [neg_neg32, sameN_refl, sameN_refl])
            | (go_at_call 32; with_reducible refine (impl_ConjugateOf_c _).mono ?_; rintro e w14 ⟨rfl, rfl⟩; unfold impl_ConjugateOf_V0 impl_ConjugateOf_V1)
            | (go_at_call 47; with_reducible refine (finiteComplex_c wx wy _).mono ?_; rintro e w15 ⟨rfl, hw⟩; have HB15 := Lib.hid (bthen HB12.out hw); clear hw HB12; rw [F.out, G.out, Bool.true_and])
            | (go_at_call 48; first
              | (with_reducible refine (specIsFinite_c wx _).mono ?_; rintro e w16 ⟨rfl, hw⟩; have HB16 := Lib.hid (bthen HB15.out hw); clear hw HB15; rw [F.out])
              | (with_reducible refine (specIsFinite_c wy _).mono ?_; rintro e w17 ⟨rfl, hw⟩; have HB17 := Lib.hid (bthen HB16.out hw); clear hw HB16; rw [G.out])))
          go_ret
          exact ⟨by cases fy <;> rfl, HB17.out⟩
end Go.Proofs.YtglnfccglgladaaDoor
