/-
  The eight hexadecimal digits of a number.
-/
import Derived.Test.YtglnfccglgladaaDoorScal
import Derived.Test.YtglnfccglgladaaDoorOwnL
import Derived.Laws.BytesArg
namespace Go.Proofs.YtglnfccglgladaaDoor
open Go.RowKit
set_option linter.unusedVariables false

theorem info_u8 : (Tryd.prog.info? 5).map (fun i => (i.zero, i.size, i.bytes)) = some (some (.int .u8 0), 1, 1) := by kernel_rfl

theorem and15 (b : Nat) (hb : b < 18446744073709551616) : bits .and .i64 (b : Int) 15 = ((b % 16 : Nat) : Int) := by
  have h1 : (BitVec.ofInt 64 (b : Int)).toNat = b := by
    rw [BitVec.ofInt_natCast, BitVec.toNat_ofNat]; exact Nat.mod_eq_of_lt (by omega)
  show IntKind.i64.wrap ((BitVec.ofInt 64 (b : Int) &&& BitVec.ofInt 64 (15 : Int)).toNat : Int) = _
  have h2 : (BitVec.ofInt 64 (15 : Int)).toNat = 15 := by decide
  rw [BitVec.toNat_and, h1, h2, show b &&& 15 = b % 16 from Nat.and_two_pow_sub_one_eq_mod b 4]
  exact IntWalk.i64_in _ (by omega)

/-- The digit at a place below 16. -/
def hdig (n : Nat) : UInt8 := if n < 10 then UInt8.ofNat (48 + n) else UInt8.ofNat (87 + n)
def hex8 (b : Nat) : List UInt8 := [hdig (b / 268435456 % 16), hdig (b / 16777216 % 16), hdig (b / 1048576 % 16), hdig (b / 65536 % 16), hdig (b / 4096 % 16), hdig (b / 256 % 16), hdig (b / 16 % 16), hdig (b % 16)]
theorem hdig_at (n : Nat) (h : n < 16) : ({ data := #[48, 49, 50, 51, 52, 53, 54, 55, 56, 57, 97, 98, 99, 100, 101, 102] } : ByteArray)[n]! = hdig n := by
  have : ∀ m : Fin 16, ({ data := #[48, 49, 50, 51, 52, 53, 54, 55, 56, 57, 97, 98, 99, 100, 101, 102] } : ByteArray)[m.val]! = hdig m.val := by decide
  exact this ⟨n, h⟩

theorem hdig_at' (n : Nat) (h : n < 16) : ({ data := #[48, 49, 50, 51, 52, 53, 54, 55, 56, 57, 97, 98, 99, 100, 101, 102] } : ByteArray)[n]'(by simpa [ByteArray.size] using h) = hdig n := by
  rw [← hdig_at n h, getElem!_pos]

/-- A list of bytes that the call has built, turned into a string. -/
theorem Own.str {P : Program} {w0 W : World} {e : TypeId} {v : Value} {bs : List UInt8} (h : Own w0 W e v (bs.map fun b => .int .u8 (b.toNat : Int))) (src dst : TypeId) (hs : P.underlying src = some (.slice e))
    (he : P.underlying e = some (.int .u8)) (hd : P.underlying dst = some .string) : (convert src dst v).run P W = .ok (.string ⟨bs.toArray⟩) W := by
  by_cases h0 : bs.length = 0
  · have : bs = [] := List.length_eq_zero_iff.1 h0
    subst this
    rcases h.row.2 with ⟨rfl, _⟩ | ⟨g, cap, cur, rfl, _⟩
    · rw [run_convert_bytes_nil W src e hs he 0 0 dst hd]; rfl
    · have := run_convert_bytes_arg (P := P) W src e hs he g 0 0 cap [] rfl (by intro i hi; omega) dst hd
      simpa [strOfNums] using this
  · obtain ⟨g, c, rfl, h1, h2, h3, h4⟩ := h.at_ (by simpa using Nat.pos_of_ne_zero h0)
    have := run_convert_bytes_arg (P := P) W src e hs he g 0 (bs.map fun b => Value.int .u8 (b.toNat : Int)).length c (bs.map fun b => (b.toNat : Int)) (by simp) (by
      intro i hi
      rw [Nat.zero_add, h4 i hi]
      simp at hi
      simp [hi]) dst hd
    rw [this]
    simp [strOfNums, Function.comp_def]

set_option maxRecDepth 100000 in
set_option maxHeartbeats 4000000 in
theorem hexText_c {x : Nat} (hx : W32 x) (w : World) : Calls Tryd.prog 80 #[.float .f32 x] w fun e w' => e = .returned (.string ⟨(hex8 (bitsOf x)).toArray⟩) ∧ Below w.heap.size w w' := by
  obtain ⟨b, hb⟩ : ∃ b, Hid (bitsOf x = b) := ⟨_, Lib.hid rfl⟩
  have hlt : (b : Int) ≤ 4294967295 := by have := bitsOf_lt hx; rw [hb.out] at this; omega
  have h0 : (0 : Int) ≤ (b : Int) := by omega
  have key : ∀ k : Nat, bits .and .i64 ((b : Int) / (k : Int)) 15 = ((b / k % 16 : Nat) : Int) := by
    intro k
    rw [← and15 (b / k) (Nat.lt_of_le_of_lt (Nat.div_le_self _ _) (by omega)), Int.natCast_ediv]
  have key1 : bits .and .i64 (b : Int) 15 = ((b % 16 : Nat) : Int) := and15 b (by omega)
  have k7 := key 268435456
  have k6 := key 16777216
  have k5 := key 1048576
  have k4 := key 65536
  have k3 := key 4096
  have k2 := key 256
  have k1 := key 16
  clear key
  simp only [Int.cast_ofNat_Int] at k7 k6 k5 k4 k3 k2 k1
  generalize hc7 : b / 268435456 % 16 = c7 at k7
  generalize hc6 : b / 16777216 % 16 = c6 at k6
  generalize hc5 : b / 1048576 % 16 = c5 at k5
  generalize hc4 : b / 65536 % 16 = c4 at k4
  generalize hc3 : b / 4096 % 16 = c3 at k3
  generalize hc2 : b / 256 % 16 = c2 at k2
  generalize hc1 : b / 16 % 16 = c1 at k1
  generalize hc0 : b % 16 = c0 at key1
  have l7 : (c7 : Int) ≤ 15 := by omega
  have l6 : (c6 : Int) ≤ 15 := by omega
  have l5 : (c5 : Int) ≤ 15 := by omega
  have l4 : (c4 : Int) ≤ 15 := by omega
  have l3 : (c3 : Int) ≤ 15 := by omega
  have l2 : (c2 : Int) ≤ 15 := by omega
  have l1 : (c1 : Int) ≤ 15 := by omega
  have l0 : (c0 : Int) ≤ 15 := by omega
  have hex : Hid (hex8 (bitsOf x) = [hdig c7, hdig c6, hdig c5, hdig c4, hdig c3, hdig c2, hdig c1, hdig c0]) := Lib.hid (by rw [hb.out]; simp only [hex8, hc7, hc6, hc5, hc4, hc3, hc2, hc1, hc0])
  clear hc7 hc6 hc5 hc4 hc3 hc2 hc1 hc0
  go_enter Tryd.func80, Tryd.ntmps80
  go_wp2
  have H0 := Own.lit (e := 5) (Below.refl w.heap.size w) #[] 0 (by omega) rfl
  refine wp_loop_rounds 9 ?_
  iterate 8 (
    rw [rounds_succ]
    go_wp2_with (first | (go_at_call 42; refine (bitsOf_c _ hx _).mono ?_; rintro e w1 ⟨rfl, rfl⟩; rw [hb.out]) | (at_builtin; (refine app_one rfl (.tmp 10) (.tmp 17) 22 5 (.int .u8 0) 1 rfl Tryd.underlying22 info_u8 rfl rfl rfl (by simp) rfl (by assumption) (by simp) (by omega) ?_; clear H0; intro v1 w1 H0 hg))))
  have H1 := Own.str (P := Tryd.prog) (bs := hex8 (bitsOf x)) (v := v1) (by rw [hex.out]; simpa [hdig_at' c7 (by omega), hdig_at' c6 (by omega), hdig_at' c5 (by omega), hdig_at' c4 (by omega), hdig_at' c3 (by omega), hdig_at' c2 (by omega), hdig_at' c1 (by omega), hdig_at' c0 (by omega)] using H0) 22 9 Tryd.underlying22 Tryd.underlying5 Tryd.underlying9
  rw [rounds_succ]
  have hbel := H0.bel
  clear H0
  go_wp2
  go_ret
  exact ⟨rfl, hbel⟩
end Go.Proofs.YtglnfccglgladaaDoor
