/-
  The angle of a point with finite coordinates: the walk.
-/
import Derived.Test.YtglnfccglgladaaDoorAngle2
import Derived.Test.YtglnfccglgladaaDoorFinite
import Derived.Test.YtglnfccglgladaaDoorSum
import Derived.Test.YtglnfccglgladaaDoorStraight
import Derived.Deep.DeepCutAuto
namespace Go.Proofs.YtglnfccglgladaaDoor
open Go.RowKit Ieee
set_option linter.unusedVariables false

theorem rfe {P : Program} {op : BinOp} {k : FloatKind} {x y r : Nat} (h : okf op k x y) (e : fop op k x y = r) : ∀ t w, (binOp op t (.float k x) (.float k y)).run P w = .ok (.float k r) w := by
  intro t w
  rw [← e]
  exact h.rf t w

set_option maxRecDepth 100000 in
set_option maxHeartbeats 8000000 in
theorem angleW {y x wy wx a b t u v0 v1 v2 v3 v v4 v5 r : Nat} {xneg yneg g : Bool}
    (hf : ([y, x].all finB) = true) (hz : ¬ (FloatKind.f32.format.order x 0 = some .eq ∧ FloatKind.f32.format.order y 0 = some .eq))
    (cy : ∀ w, (convert 24 65 (.float .f32 y)).run Tryd.prog w = .ok (.float .f64 wy) w) (cx : ∀ w, (convert 24 65 (.float .f32 x)).run Tryd.prog w = .ok (.float .f64 wx) w)
    (ay : ∀ w, Calls Tryd.prog 102 #[.float .f64 wy] w fun e w' => e = .returned (.float .f64 a) ∧ w = w') (ax : ∀ w, Calls Tryd.prog 102 #[.float .f64 wx] w fun e w' => e = .returned (.float .f64 b) ∧ w = w')
    (D : AngD a b t) (E : AngE t u v0 v1 v2 v3) (hg : (FloatKind.f64.format.order a b == some .gt) = g) (hv : v = if g then v3 else v2)
    (hx : (FloatKind.f32.format.order x 0 == some .lt) = xneg) (hy : (FloatKind.f32.format.order y 0 == some .lt) = yneg) (F : AngF v xneg yneg v4 v5 r) (w : World) :
    Calls Tryd.prog 55 #[.float .f32 y, .float .f32 x] w fun e w' => e = .returned (.float .f32 r) ∧ Below w.heap.size w w' := by
  have N := Lib.hid (finite_c (c := 2) (nums_new w [y, x] (by simp)) (by simp))
  rw [hf] at N
  have HZ := Lib.hid hz
  have CY := Lib.hid cy
  have CX := Lib.hid cx
  have AY := Lib.hid ay
  have AX := Lib.hid ax
  have HD := Lib.hid D
  have HE := Lib.hid E
  have HF := Lib.hid F
  have HG := Lib.hid hg
  have HV := Lib.hid hv
  have HX := Lib.hid hx
  have HY := Lib.hid hy
  clear hf hz cy cx ay ax D E F hg hv hx hy
  go_enter Tryd.func55, Tryd.ntmps55
  go_upto_region 3 with (go_at_call 95; refine N.out.mono ?_; rintro e w1 ⟨rfl, hw⟩; have HB := Lib.hid (bthen (below1 _ _) hw); clear hw N)
  go_cut [20] from 21 to 26 (fun s wx => s = .bool false ∧ w1 = wx)
  case first =>
    by_cases h1 : FloatKind.f32.format.order x 0 = some .eq
    · have h2 : ¬ FloatKind.f32.format.order y 0 = some .eq := fun k => HZ.out ⟨h1, k⟩
      go_wp2 <;> (go_meet; exact ⟨by simp [h2], rfl⟩)
    · go_wp2 <;> (go_meet; exact ⟨rfl, rfl⟩)
  case rest =>
    obtain ⟨rfl, rfl⟩ := hcut
    have cy := CY.out
    have cx := CX.out
    go_upto_region 6 with (go_at_call 102; first
      | (with_reducible refine (AY.out _).mono ?_; rintro e w2 ⟨rfl, rfl⟩)
      | (with_reducible refine (AX.out _).mono ?_; rintro e w2 ⟨rfl, rfl⟩))
    clear cy cx
    have q0 := HD.out.any.rf (P := Tryd.prog)
    have hg := HG.out
    go_upto_if 38 with fail
    go_cut [7] from 39 to 41 (fun s wx => s = .float .f64 t ∧ w1 = wx)
    case first =>
      cases g with
      | true =>
        have k := HD.out.gt (by simpa using hg)
        have q1 := rfe (P := Tryd.prog) k.1 k.2
        clear k
        go_wp2
        go_meet
        exact ⟨rfl, rfl⟩
      | false =>
        have k := HD.out.le (by simpa using hg)
        have K := Lib.hid k
        clear k
        go_wp2
        go_meet
        exact ⟨by rw [K.out], rfl⟩
    case rest =>
      obtain ⟨rfl, rfl⟩ := hcut
      clear q0
      go_upto_block 1 with fail
      go_cut [7] from 43 to 52 (fun s wx => s = .float .f64 (tSeq t 3) ∧ w1 = wx)
      case first =>
        go_wp2_with fail
        go_loop [7, 42] (fun v i => ∃ k : Nat, k ≤ 3 ∧ v = .float .f64 (tSeq t k) ∧ i = .int .i64 k) (fun _ i => 3 - (intOf i).toNat)
        case atStart => exact ⟨0, Nat.zero_le _, rfl, rfl⟩
        case round =>
          obtain ⟨k, hk, rfl, rfl⟩ := hrel
          by_cases hlt : k < 3
          · have O := (tNext_ok (tSeq_bd HD.out.bd k)).1
            have r1 := O.o1.rf (P := Tryd.prog)
            have r2 := O.o2.rf (P := Tryd.prog)
            have r4 := O.o4.rf (P := Tryd.prog)
            have r5 := O.o5.rf (P := Tryd.prog)
            have O3 := Lib.hid O.o3
            clear O
            go_wp2_with (go_at_call 77; refine (math_Sqrt_c O3.out _).mono ?_; rintro e w2 ⟨rfl, rfl⟩; unfold math_Sqrt_V0)
            go_round
            case rel => exact ⟨k + 1, by omega, rfl, by simp⟩
            case measure => simp [intOf]; omega
          · obtain rfl : k = 3 := by omega
            go_wp2
            go_meet
            exact ⟨rfl, rfl⟩
      case rest =>
        obtain ⟨rfl, rfl⟩ := hcut
        have r1 := rfe (P := Tryd.prog) HE.out.o1 HE.out.e1
        go_upto_block 3 with fail
        clear r1
        go_cut [9] from 56 to 66 (fun s wx => s = .float .f64 (pSeq u 8) ∧ w1 = wx)
        case first =>
          go_wp2_with fail
          go_loop [9, 10] (fun v c => ∃ (i : Nat) (z : Int), i ≤ 8 ∧ v = .float .f64 (pSeq u i) ∧ c = .int .i64 z ∧ Hid (z = 15 - 2 * i)) (fun _ c => (intOf c + 1).toNat)
          case atStart => exact ⟨0, 15, Nat.zero_le _, rfl, rfl, Lib.hid rfl⟩
          case round =>
            obtain ⟨i, z, hi, rfl, rfl, hz⟩ := hrel
            by_cases hlt : i < 8
            · obtain ⟨n, hn⟩ : ∃ n : Nat, z = n := ⟨z.toNat, by have := hz.out; omega⟩
              subst hn
              have O := (pNext_ok hlt HE.out.b1 (pSeq_bd HE.out.b1 i (by omega)) (by omega)).1
              have ek : kAt i = floatOfInt .f64 n := by unfold kAt; have := hz.out; congr 1; omega
              have en : pSeq u (i + 1) = fop .sub .f64 (fop .quo .f64 one64 (floatOfInt .f64 n)) (fop .mul .f64 u (pSeq u i)) := by rw [← ek]; rfl
              have o1 := O.o1
              have o3 := O.o3
              rw [ek] at o1 o3
              have r1 := o1.rf (P := Tryd.prog)
              have r2 := O.o2.rf (P := Tryd.prog)
              have r3 := o3.rf (P := Tryd.prog)
              have hn1 : (1 : Int) ≤ n := by have := hz.out; omega
              have hn2 : (n : Int) ≤ 15 := by have := hz.out; omega
              have EN := Lib.hid en
              clear O o1 o3 ek en
              go_wp2
              go_round
              case rel => exact ⟨i + 1, _, by omega, by rw [EN.out], rfl, Lib.hid (by have := hz.out; simp; omega)⟩
              case measure => have := hz.out; simp [intOf]; omega
            · obtain rfl : i = 8 := by omega
              have hz1 : z = -1 := by have := hz.out; omega
              subst hz1
              clear hz
              go_wp2
              go_meet
              exact ⟨rfl, rfl⟩
        case rest =>
          obtain ⟨rfl, rfl⟩ := hcut
          have r2 := rfe (P := Tryd.prog) HE.out.o2 HE.out.e2
          have r3 := rfe (P := Tryd.prog) HE.out.o3 HE.out.e3
          have r4 := rfe (P := Tryd.prog) HE.out.o4 HE.out.e4
          have r5 := rfe (P := Tryd.prog) HE.out.o5 HE.out.e5
          have hg := HG.out
          go_upto_if 74 with fail
          clear r2 r3 r4
          go_cut [11] from 75 to 76 (fun s wx => s = .float .f64 v ∧ w1 = wx)
          case first =>
            cases g with
            | true =>
              have K : Hid (v = v3) := Lib.hid (by rw [HV.out]; rfl)
              go_wp2
              go_meet
              exact ⟨by rw [K.out], rfl⟩
            | false =>
              have K : Hid (v = v2) := Lib.hid (by rw [HV.out]; rfl)
              go_wp2
              go_meet
              exact ⟨by rw [K.out], rfl⟩
          case rest =>
            obtain ⟨rfl, rfl⟩ := hcut
            clear r5 hg
            have hx := HX.out
            have r6 := HF.out.o1.rf (P := Tryd.prog)
            go_upto_if 78 with fail
            go_cut [11] from 79 to 80 (fun s wx => s = .float .f64 v4 ∧ w1 = wx)
            case first =>
              cases xneg with
              | true =>
                have K : Hid (v4 = fop .sub .f64 half64 v) := Lib.hid (by rw [HF.out.e1]; rfl)
                go_wp2
                go_meet
                exact ⟨by rw [K.out], rfl⟩
              | false =>
                have K : Hid (v4 = v) := Lib.hid (by rw [HF.out.e1]; rfl)
                go_wp2
                go_meet
                exact ⟨by rw [K.out], rfl⟩
            case rest =>
              obtain ⟨rfl, rfl⟩ := hcut
              clear r6 hx
              have hy := HY.out
              go_upto_if 82 with fail
              go_cut [11] from 83 to 84 (fun s wx => s = .float .f64 v5 ∧ w1 = wx)
              case first =>
                cases yneg with
                | true =>
                  have K : Hid (v5 = Op.negFloat .f64 v4) := Lib.hid (by rw [HF.out.e2]; rfl)
                  go_wp2
                  go_meet
                  exact ⟨by rw [K.out], rfl⟩
                | false =>
                  have K : Hid (v5 = v4) := Lib.hid (by rw [HF.out.e2]; rfl)
                  go_wp2
                  go_meet
                  exact ⟨by rw [K.out], rfl⟩
              case rest =>
                obtain ⟨rfl, rfl⟩ := hcut
                clear hy
                have rc := HF.out.o3.run (P := Tryd.prog) 65 24 (by rw [Tryd.underlying65]; rfl) Tryd.underlying24
                rw [HF.out.e3] at rc
                go_wp2
                go_ret
                exact ⟨rfl, HB.out⟩
end Go.Proofs.YtglnfccglgladaaDoor
