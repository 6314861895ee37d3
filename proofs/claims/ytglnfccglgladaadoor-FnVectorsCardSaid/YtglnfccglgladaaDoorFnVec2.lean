/-
  The law of vectors: the walk. (Its steps are printed by wip/tools/fnvec.py.)
-/
import Derived.Test.YtglnfccglgladaaDoorFnVec
import Derived.Deep.RegionHeld3
import Derived.Deep.DeepCutAuto
namespace Go.Proofs.YtglnfccglgladaaDoor
open Go.RowKit
set_option linter.unusedVariables false
set_option linter.unusedSimpArgs false

theorem numText3 (x y z : Nat) : (numText [x, y, z]).size = 26 := by
  rw [← lenL, numText_data (by simp)]
  simp [join_cons2, Lib.join_one, hex8_length]
theorem sameNs_bits (x y z : Nat) : sameNs [bitsOf x, bitsOf y, bitsOf z] [x, y, z] = true := by
  simp [sameNs, sameN_bitsOf]

/-- Four variables, and the old memory. -/
structure All4 (w W : World) (bx bY bc bd x0 x1 x2 y0 y1 y2 c0 c1 c2 d0 d1 d2 : Nat) : Prop where
  x : VAt W bx x0 x1 x2
  y : VAt W bY y0 y1 y2
  c : VAt W bc c0 c1 c2
  d : VAt W bd d0 d1 d2
  b : Below w.heap.size w W
section
variable {w W W' : World} {bx bY bc bd x0 x1 x2 y0 y1 y2 c0 c1 c2 d0 d1 d2 : Nat}
theorem All4.after (h : All4 w W bx bY bc bd x0 x1 x2 y0 y1 y2 c0 c1 c2 d0 d1 d2) (k : Below W.heap.size W W') : All4 w W' bx bY bc bd x0 x1 x2 y0 y1 y2 c0 c1 c2 d0 d1 d2 :=
  ⟨h.x.after k, h.y.after k, h.c.after k, h.d.after k, bthen h.b k⟩
theorem All4.alloc (h : All4 w W bx bY bc bd x0 x1 x2 y0 y1 y2 c0 c1 c2 d0 d1 d2) (o : Obj) : All4 w (W.alloc o) bx bY bc bd x0 x1 x2 y0 y1 y2 c0 c1 c2 d0 d1 d2 := h.after (below1 W o)
theorem All4.drew (h : All4 w W bx bY bc bd x0 x1 x2 y0 y1 y2 c0 c1 c2 d0 d1 d2) : All4 w W.drew bx bY bc bd x0 x1 x2 y0 y1 y2 c0 c1 c2 d0 d1 d2 := h.after (Below.refl _ _).drew
theorem All4.set {W0 : World} (h0 : All4 w W0 bx bY bc bd x0 x1 x2 y0 y1 y2 c0 c1 c2 d0 d1 d2) (h : All4 w W bx bY bc bd x0 x1 x2 y0 y1 y2 c0 c1 c2 d0 d1 d2) {a : Addr} (ha : W0.heap.size ≤ a.block) (v : Value) : All4 w (W.setCell a v) bx bY bc bd x0 x1 x2 y0 y1 y2 c0 c1 c2 d0 d1 d2 :=
  have e : ∀ k, k < W0.heap.size → k ≠ a.block := fun k hk => by omega
  ⟨h.x.set (e _ h0.x.lt) v, h.y.set (e _ h0.y.lt) v, h.c.set (e _ h0.c.lt) v, h.d.set (e _ h0.d.lt) v, bset h.b (Nat.le_trans h0.b.size ha) v⟩
theorem S4.mk (h : All4 w W bx bY bc bd x0 x1 x2 y0 y1 y2 c0 c1 c2 d0 d1 d2) : (W.cell? ⟨bx, 0, none⟩ = some (.float .f32 x0) ∧ W.cell? ⟨bx, 1, none⟩ = some (.float .f32 x1) ∧ W.cell? ⟨bx, 2, none⟩ = some (.float .f32 x2)) ∧ (W.cell? ⟨bY, 0, none⟩ = some (.float .f32 y0) ∧ W.cell? ⟨bY, 1, none⟩ = some (.float .f32 y1) ∧ W.cell? ⟨bY, 2, none⟩ = some (.float .f32 y2)) ∧ Hid (All4 w W bx bY bc bd x0 x1 x2 y0 y1 y2 c0 c1 c2 d0 d1 d2) :=
  ⟨h.x.facts, h.y.facts, Lib.hid h⟩
theorem S4.all {p q : Prop} (h : p ∧ q ∧ Hid (All4 w W bx bY bc bd x0 x1 x2 y0 y1 y2 c0 c1 c2 d0 d1 d2)) : All4 w W bx bY bc bd x0 x1 x2 y0 y1 y2 c0 c1 c2 d0 d1 d2 := h.2.2.out
end

set_option maxRecDepth 100000 in
set_option maxHeartbeats 8000000 in
theorem fnVectors_c {w : World} {n cp m cp' : Nat} {A A' : Option Addr} (hc : Code w w.heap.size A n) (hc' : Code w w.heap.size A' m) (hm : MaxLen w) :
    Calls Tryd.prog 3 #[.slice A n cp, .slice A' m cp'] w fun e w' => e = .returned (.bool true) ∧ Below w.heap.size w w' := by
  by_cases hlong : 1048576 < n ∨ 1048576 < m
  · go_enter Tryd.func3, Tryd.ntmps3
    go_wp2_with (go_at_call 7; refine (long_true hlong _).mono ?_; rintro e w1 ⟨rfl, rfl⟩)
    go_ret
    exact ⟨rfl, Below.refl _ _⟩
  · have hn : n ≤ 1048576 := by omega
    have hmm : m ≤ 1048576 := by omega
    have HC := Lib.hid hc
    have HC' := Lib.hid hc'
    have HM := Lib.hid hm
    clear hc hc' hm hlong
    go_enter Tryd.func3, Tryd.ntmps3
    go_wp2_with fail
    refine (long_c hn hmm _).mono ?_
    rintro e w1 ⟨rfl, rfl⟩
    go_wp2_with fail
    refine (whole_c (by omega) HC.out).mono ?_
    rintro e w1 ⟨v, rfl, ⟨x0, x1, x2, a, b, c, rfl, ⟨hx0, la0, la1⟩, ⟨hx1, lb0, lb1⟩, ⟨hx2, lc0, lc1⟩⟩, hw⟩
    have IX := Lib.hid (show IV x0 x1 x2 a b c 50 from ⟨⟨hx0, by omega⟩, ⟨hx1, by omega⟩, ⟨hx2, by omega⟩⟩)
    clear hx0 hx1 hx2 la0 la1 lb0 lb1 lc0 lc1
    have HB := Lib.hid (show Below w.heap.size w w1 from hw)
    clear hw
    go_wp2_with fail
    refine (whole_c (by omega) (HC'.out.into (balloc HB.out (.cells #[.float .f32 x0, .float .f32 x1, .float .f32 x2] 26)))).mono ?_
    rintro e w2 ⟨v, rfl, ⟨y0, y1, y2, a', b', c', rfl, ⟨hx0, la0, la1⟩, ⟨hx1, lb0, lb1⟩, ⟨hx2, lc0, lc1⟩⟩, hw⟩
    obtain ⟨c0, c1, c2, d0, d1, d2, l0, l1, l2, b0, b1, b2, t0, t1, t2, e0, e1, e2, s0, s1, s2, m0, m1, m2, n0, n1, n2, i, j, q, r, hR⟩ := vecRun IX.out (show IV y0 y1 y2 a' b' c' 50 from ⟨⟨hx0, by omega⟩, ⟨hx1, by omega⟩, ⟨hx2, by omega⟩⟩)
    have R := Lib.hid hR
    clear hx0 hx1 hx2 la0 la1 lb0 lb1 lc0 lc1 hR IX HC' 
    have Vx_1 := Lib.hid ((VAt.new w1 x0 x1 x2).after hw)
    have HB_1 := Lib.hid (bthen (balloc HB.out (.cells #[.float .f32 x0, .float .f32 x1, .float .f32 x2] 26)) hw)
    clear HB hw
    obtain ⟨kx0, kx1, kx2⟩ := Vx_1.out.facts
    have gx := Vx_1.out.lt
    go_wp2_with fail
    refine (R.out.cross _).mono ?_
    rintro e w3 ⟨rfl, hw⟩
    have Vx_2 := Lib.hid ((Vx_1.out.alloc (.cells #[.float .f32 y0, .float .f32 y1, .float .f32 y2] 26)).after hw)
    have Vy_2 := Lib.hid ((VAt.new w2 y0 y1 y2).after hw)
    have HB_2 := Lib.hid (bthen (balloc HB_1.out (.cells #[.float .f32 y0, .float .f32 y1, .float .f32 y2] 26)) hw)
    clear HB_1 Vx_1 hw
    clear kx0 kx1 kx2 gx
    obtain ⟨kx0, kx1, kx2⟩ := Vx_2.out.facts
    have gx := Vx_2.out.lt
    obtain ⟨ky0, ky1, ky2⟩ := Vy_2.out.facts
    have gy := Vy_2.out.lt
    go_wp2_with fail
    refine (R.out.cross2 _).mono ?_
    rintro e w4 ⟨rfl, hw⟩
    have Vx_3 := Lib.hid ((Vx_2.out.alloc (.cells #[.float .f32 c0, .float .f32 c1, .float .f32 c2] 26)).after hw)
    have Vy_3 := Lib.hid ((Vy_2.out.alloc (.cells #[.float .f32 c0, .float .f32 c1, .float .f32 c2] 26)).after hw)
    have Vc_3 := Lib.hid ((VAt.new w3 c0 c1 c2).after hw)
    have HB_3 := Lib.hid (bthen (balloc HB_2.out (.cells #[.float .f32 c0, .float .f32 c1, .float .f32 c2] 26)) hw)
    clear HB_2 Vx_2 Vy_2 hw
    clear kx0 kx1 kx2 gx ky0 ky1 ky2 gy
    -- region 7
    obtain ⟨kx0, kx1, kx2⟩ := Vx_3.out.facts
    have gx := Vx_3.out.lt
    obtain ⟨ky0, ky1, ky2⟩ := Vy_3.out.facts
    have gy := Vy_3.out.lt
    go_wp2_with fail
    clear kx0 kx1 kx2 gx ky0 ky1 ky2 gy
    have Vx_4 := Lib.hid ((Vx_3.out.alloc (.cells #[.float .f32 d0, .float .f32 d1, .float .f32 d2] 26)))
    have Vy_4 := Lib.hid ((Vy_3.out.alloc (.cells #[.float .f32 d0, .float .f32 d1, .float .f32 d2] 26)))
    have Vc_4 := Lib.hid ((Vc_3.out.alloc (.cells #[.float .f32 d0, .float .f32 d1, .float .f32 d2] 26)))
    have Vd_4 := Lib.hid ((VAt.new w4 d0 d1 d2))
    have HB_4 := Lib.hid (balloc HB_3.out (.cells #[.float .f32 d0, .float .f32 d1, .float .f32 d2] 26))
    clear HB_3 Vx_3 Vy_3 Vc_3
    generalize w4.alloc (.cells #[.float .f32 d0, .float .f32 d1, .float .f32 d2] 26) = W at *
    obtain ⟨kx0, kx1, kx2⟩ := Vx_4.out.facts
    have gx := Vx_4.out.lt
    obtain ⟨ky0, ky1, ky2⟩ := Vy_4.out.facts
    have gy := Vy_4.out.lt
    have HA := Lib.hid (show All4 w W w1.heap.size w2.heap.size w3.heap.size w4.heap.size x0 x1 x2 y0 y1 y2 c0 c1 c2 d0 d1 d2 from ⟨Vx_4.out, Vy_4.out, Vc_4.out, Vd_4.out, HB_4.out⟩)
    clear kx0 kx1 kx2 gx ky0 ky1 ky2 gy
    clear HB_4 Vx_4 Vy_4 Vc_4 Vd_4
    generalize w1.heap.size = bx at *
    generalize w2.heap.size = bY at *
    generalize w3.heap.size = bc at *
    generalize w4.heap.size = bd at *
    go_cut [9] from 15 (fun s9 wx => ∃ g, s9 = .pointer (some ⟨g, 0, none⟩) ∧ Hid (VAt wx g b0 b1 b2) ∧ Hid (All4 w wx bx bY bc bd x0 x1 x2 y0 y1 y2 c0 c1 c2 d0 d1 d2))
    case first =>
      have S0 := S4.mk (All4.drew HA.out)
      go_region_held3 (fun w' => (w'.cell? ⟨bx, 0, none⟩ = some (.float .f32 x0) ∧ w'.cell? ⟨bx, 1, none⟩ = some (.float .f32 x1) ∧ w'.cell? ⟨bx, 2, none⟩ = some (.float .f32 x2)) ∧ (w'.cell? ⟨bY, 0, none⟩ = some (.float .f32 y0) ∧ w'.cell? ⟨bY, 1, none⟩ = some (.float .f32 y1) ∧ w'.cell? ⟨bY, 2, none⟩ = some (.float .f32 y2)) ∧ Hid (All4 w w' bx bY bc bd x0 x1 x2 y0 y1 y2 c0 c1 c2 d0 d1 d2))
        (first | exact S0 | assumption | exact S4.mk (by repeat (first | exact HA.out | with_reducible apply All4.drew | with_reducible apply All4.alloc | (refine All4.set HA.out ?_ ?_ _; rotate_left; first | omega | (simp <;> omega)) | refine All4.after ?_ (by assumption))))
        (first
          | (go_at_call 11; refine (R.out.less (World.alloc W.drew (.cells #[.float .f32 0, .float .f32 0, .float .f32 0] 26))).mono ?_; rintro e u1 ⟨rfl, hwl⟩; have zl : W.heap.size < u1.heap.size := (by have h := hwl.size; rw [World.size_alloc] at h; exact h); have Z1 := Lib.hid (show u1.heap[W.heap.size]? = some (.cells #[.float .f32 0, .float .f32 0, .float .f32 0] 26 (0, 0)) from (hwl.block W.heap.size (by rw [World.size_alloc]; exact Nat.lt_succ_self W.heap.size)).trans (heap_alloc_new W.drew _)))
          | (go_at_call 11; refine (R.out.less _).mono ?_; rintro e u1 ⟨rfl, hwl⟩; have zl : W.heap.size ≤ u1.heap.size := hwl.size)
          | (go_at_call 10; refine (R.out.back (World.alloc _ _)).mono ?_; rintro e u2 ⟨rfl, hwb⟩; have zb : u1.heap.size < u2.heap.size := (by have h := hwb.size; rw [World.size_alloc] at h; exact h); have Z2 := Lib.hid ((hwb.block _ (by simp)).trans (heap_alloc_new _ _)); obtain ⟨⟨kz0, kz1, kz2⟩, ⟨fz0, fz1, fz2⟩, _⟩ := three_facts Z2.out)
          | (go_at_call 10; refine (R.out.back _).mono ?_; rintro e u2 ⟨rfl, hwb⟩; have zb := hwb.size; have Z2 := Lib.hid ((hwb.block _ (Array.getElem?_eq_some_iff.1 Z1.out).1).trans Z1.out); obtain ⟨⟨kz0, kz1, kz2⟩, ⟨fz0, fz1, fz2⟩, _⟩ := three_facts Z2.out)
          | (go_at_call 10; refine (R.out.back _).mono ?_; rintro e u2 ⟨rfl, hwb⟩; have zb := hwb.size))
      all_goals have SF := S4.all (by assumption)
      all_goals have SH := Lib.hid SF
      all_goals (go_wp2_with fail; go_meet)
      all_goals exact ⟨_, rfl, Lib.hid (by first | exact VAt.new _ _ _ _ | exact set_heap (set_heap (set_heap Z2.out 0 _) 1 _) 2 _), SH⟩
    case rest =>
      obtain ⟨bb, rfl, VB, HA⟩ := hcut
      obtain ⟨kx0, kx1, kx2⟩ := HA.out.x.facts
      go_wp2_with fail
      refine (R.out.twice _).mono ?_
      rintro e w8 ⟨rfl, hw⟩
      clear kx0 kx1 kx2
      have HA8 := Lib.hid (HA.out.after hw)
      have VB8 := Lib.hid (VB.out.after hw)
      clear hw HA VB
      go_wp2_with fail
      have HA9 := Lib.hid (HA8.out.alloc (.cells #[.float .f32 t0, .float .f32 t1, .float .f32 t2] 26))
      have VB9 := Lib.hid (VB8.out.alloc (.cells #[.float .f32 t0, .float .f32 t1, .float .f32 t2] 26))
      have VT9 := Lib.hid (VAt.new w8 t0 t1 t2)
      generalize w8.heap.size = bt at *
      generalize w8.alloc (.cells #[.float .f32 t0, .float .f32 t1, .float .f32 t2] 26) = W9 at *
      clear HA8 VB8
      obtain ⟨kx0, kx1, kx2⟩ := (HA9.out.x).facts
      have gx := (HA9.out.x).lt
      obtain ⟨ky0, ky1, ky2⟩ := (HA9.out.y).facts
      have gy := (HA9.out.y).lt
      obtain ⟨kc0, kc1, kc2⟩ := (HA9.out.c).facts
      have gc := (HA9.out.c).lt
      obtain ⟨kd0, kd1, kd2⟩ := (HA9.out.d).facts
      have gd := (HA9.out.d).lt
      obtain ⟨kb0, kb1, kb2⟩ := (VB9.out).facts
      have gb := (VB9.out).lt
      obtain ⟨kt0, kt1, kt2⟩ := (VT9.out).facts
      have gt := (VT9.out).lt
      have nq1 : (FloatKind.f32.format.order i 0 != some Ordering.eq) = false := by have h := R.out.z1; unfold Eq32 at h; rw [h]; rfl
      have nq2 : (FloatKind.f32.format.order j 0 != some Ordering.eq) = false := by have h := R.out.z2; unfold Eq32 at h; rw [h]; rfl
      have nq3 : (FloatKind.f32.format.order q q != some Ordering.eq) = false := by have h := R.out.z3; unfold Eq32 at h; rw [h]; rfl
      refine wp_region_reads (by kernel_rfl) (by kernel_rfl) ?_
      repeat (refine tame_step rfl ?_; apply Exists.intro; refine ⟨fun w' hw => ?_, ?_⟩; (have hc := hw.cell; go_simp; first | (with_reducible rfl) | (go_at_call 13; first | with_reducible exact hw.makes (R.out.eq1 _) | with_reducible exact hw.makes (R.out.eq2 _) | with_reducible exact hw.makes (R.out.eq3 _)) | (go_at_call 14; first | with_reducible exact hw.makes (R.out.inner1 _) | with_reducible exact hw.makes (R.out.inner2 _) | with_reducible exact hw.makes (R.out.inner3 _)) | (go_at_call 12; first | with_reducible exact hw.makes (R.out.opp _)) | (go_at_call 10; first | with_reducible exact hw.makes (R.out.add2 _)) | (go_at_call 15; first | with_reducible exact hw.makes (R.out.square _)) | (go_at_call 17; first | with_reducible exact hw.makes (R.out.size _)) | (go_at_call 18; first | with_reducible exact hw.same (R.out.root _)) | (go_at_call 16; first | with_reducible exact hw.same (R.out.same _))); (try simp only [Act.put, List.setIfInBounds_toArray, List.set_cons_zero, List.set_cons_succ, nq1, nq2, nq3]))
      refine wpQuiet_nil ?_
      intro w10 hw
      have HA10 := Lib.hid (HA9.out.after hw)
      clear hw HA9 VB9 VT9 nq1 nq2 nq3 kx0 kx1 kx2 gx ky0 ky1 ky2 gy kc0 kc1 kc2 gc kd0 kd1 kd2 gd kb0 kb1 kb2 gb kt0 kt1 kt2 gt
      obtain ⟨kx0, kx1, kx2⟩ := HA10.out.x.facts
      obtain ⟨ky0, ky1, ky2⟩ := HA10.out.y.facts
      have gx := HA10.out.x.lt
      have gy := HA10.out.y.lt
      go_wp2_with fail
      refine wp_region_reads (by kernel_rfl) (by kernel_rfl) ?_
      repeat (refine tame_step rfl ?_; apply Exists.intro; refine ⟨fun w' hw => ?_, ?_⟩; (have hc := hw.cell; go_simp; first | (with_reducible rfl) | (go_at_call 19; first | with_reducible exact hw.makes (R.out.betw0 _) | with_reducible exact hw.makes (R.out.betw1 _)) | (go_at_call 13; first | with_reducible exact hw.makes (R.out.eq4 _) | with_reducible exact hw.makes (R.out.eq5 _))); (try simp only [Act.put, List.setIfInBounds_toArray, List.set_cons_zero, List.set_cons_succ]))
      refine wpQuiet_nil ?_
      intro w11 hw
      have HB11 := Lib.hid (bthen HA10.out.b hw)
      clear hw HA10 kx0 kx1 kx2 ky0 ky1 ky2 gx gy
      go_wp2_with fail
      refine (anyvec_c (by omega) (HC.out.into HB11.out)).mono ?_
      rintro e w12 ⟨v, rfl, ⟨o0, o1, o2, rfl, ho0, ho1, ho2⟩, hw⟩
      have HB12 := Lib.hid (bthen HB11.out hw)
      have HO := Lib.hid (show W32 o0 ∧ W32 o1 ∧ W32 o2 from ⟨ho0, ho1, ho2⟩)
      clear hw HB11 ho0 ho1 ho2 HC R
      go_wp2_with fail
      refine (vectorText_c HO.out.1 HO.out.2.1 HO.out.2.2 _).mono ?_
      rintro e w13 ⟨rfl, hw⟩
      have HB13 := Lib.hid (bthen (balloc HB12.out (.cells #[.float .f32 o0, .float .f32 o1, .float .f32 o2] 26)) hw)
      have VO13 := Lib.hid ((VAt.new w12 o0 o1 o2).after hw)
      have hsz := numText3 o0 o1 o2
      generalize hT : numText [o0, o1, o2] = T at hsz
      have HT := Lib.hid hT
      have HS := Lib.hid hsz
      clear hw HB12 hT hsz
      generalize w12.heap.size = bo at *
      go_wp2_with fail
      rw [← HT.out]
      refine (readVector_c HO.out.1 HO.out.2.1 HO.out.2.2 (HM.out.into HB13.out)).mono ?_
      rw [HT.out]
      rintro e w14 ⟨rfl, hw⟩
      have HB14 := Lib.hid (bthen HB13.out hw)
      have VO14 := Lib.hid (VO13.out.after hw)
      clear hw HB13 VO13
      obtain ⟨ko0, ko1, ko2⟩ := VO14.out.facts
      have go := VO14.out.lt
      have hsz : (T.size : Int) = 26 := by have := HS.out; omega
      go_wp2_with (go_at_call 23; refine (sameVector_c _ _ _ _ _ _ _).mono ?_; rintro e w15 ⟨rfl, hw15⟩; have HB15 := Lib.hid (bthen (balloc HB14.out _) hw15); rw [sameNs_bits o0 o1 o2])
      go_ret
      exact ⟨rfl, HB15.out⟩
end Go.Proofs.YtglnfccglgladaaDoor
