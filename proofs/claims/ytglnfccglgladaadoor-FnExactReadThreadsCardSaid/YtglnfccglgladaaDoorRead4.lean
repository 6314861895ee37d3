/-
  A list of numbers read from a text.
-/
import Derived.Test.YtglnfccglgladaaDoorRead3
import Derived.Test.YtglnfccglgladaaDoorSplit
import Derived.Laws.Strings
namespace Go.Proofs.YtglnfccglgladaaDoor
open Go.RowKit
set_option linter.unusedVariables false

def noneB : ByteArray := ⟨#[110, 111, 110, 101]⟩
/-- The parts of a text. -/
def partsOf (s : ByteArray) : List ByteArray := if s = noneB then [] else Lib.splitB ⟨#[44]⟩ 0 (Lib.countB s ⟨#[44]⟩) s
/-- The cell of the library's variable that strings.Index reads. -/
def MaxLen (w : World) : Prop := ∃ m, w.cell? ⟨1, 0, none⟩ = some (.int .i64 m)
theorem MaxLen.after {w w' : World} (h : MaxLen w) (k : Below w.heap.size w w') : MaxLen w' := by
  obtain ⟨m, hm⟩ := h
  exact ⟨m, by rw [k.cell (World.block_lt_of_cell? w _ hm), hm]⟩

theorem splitK_len : ∀ (n : Nat) (s : List UInt8), s.length ≤ n → (Lib.splitK [44] 0 (Lib.count s [44]) s).length = Lib.count s [44] + 1
  | 0, s, h => by
    have : s = [] := List.length_eq_zero_iff.1 (by omega)
    subst this
    rfl
  | n + 1, s, h => by
    by_cases hi : Lib.index s [44] = -1
    · rw [Lib.count_miss hi]; rfl
    · obtain ⟨i, e⟩ : ∃ i : Nat, Lib.index s [44] = i := ⟨(Lib.index s [44]).toNat, by have := Lib.index_ge s [44]; omega⟩
      have hd := Lib.drop_shorter (s := s) (sub := [44]) (by simp) (by simpa using hi)
      rw [e, Int.toNat_natCast] at hd
      have ih := splitK_len n (s.drop (i + [(44 : UInt8)].length)) (by omega)
      rw [Lib.count_hit (by simp) e, Nat.add_comm 1, Lib.splitK, e]
      have hne : ¬ (((i : Int)) == -1) = true := by simp
      rw [if_neg hne, Int.toNat_natCast, List.length_cons, ih]
theorem splitB_len (s : ByteArray) : (Lib.splitB ⟨#[44]⟩ 0 (Lib.countB s ⟨#[44]⟩) s).length = Lib.countB s ⟨#[44]⟩ + 1 := by
  have d := congrArg List.length (Lib.splitB_data ⟨#[44]⟩ 0 (Lib.countB s ⟨#[44]⟩) s)
  rw [List.length_map] at d
  rw [d]
  exact splitK_len _ _ (Nat.le_refl _)

theorem parted_none (w : World) : Calls Tryd.prog 82 #[.string noneB] w fun e w' => e = .returned (.slice none 0 0) ∧ w = w' := by
  unfold noneB
  go_enter Tryd.func82, Tryd.ntmps82
  go_wp2
  go_ret
  exact ⟨rfl, rfl⟩
theorem parted_some {s : ByteArray} (h : s ≠ noneB) (hs : s.size < 4294967281) {w : World} (hm : MaxLen w) : Calls Tryd.prog 82 #[.string s] w fun e w' =>
    e = .returned (.slice (some ⟨w.heap.size, 0, none⟩) (Lib.countB s ⟨#[44]⟩ + 1) (Lib.countB s ⟨#[44]⟩ + 1)) ∧ w' = w.alloc (.cells ((Lib.splitB ⟨#[44]⟩ 0 (Lib.countB s ⟨#[44]⟩) s).map Value.string).toArray 9) := by
  have hb : (s.toList == [110, 111, 110, 101]) = false := by
    cases e : (s.toList == [110, 111, 110, 101]) with
    | false => rfl
    | true => exact absurd (bytes_eq (by rw [← ByteArray.toList_eq, beq_iff_eq.1 e]; rfl)) h
  clear h
  obtain ⟨m, hm⟩ := hm
  have J := Lib.hid (Tryd.strings_Split s ⟨#[44]⟩ m w hs hm (by decide))
  clear hm hs
  go_enter Tryd.func82, Tryd.ntmps82
  go_wp2_with (go_at_call 70; refine J.out.mono ?_; rintro e w1 ⟨rfl, rfl⟩)
  go_ret
  exact ⟨rfl, rfl⟩

/-- The numbers of the parts; nothing, if a part is none or there are too many. -/
def readNs (ps : List ByteArray) : Option (List Nat) := if ps.all (fun p => (readN p.data.toList).2) = true ∧ ps.length ≤ 256 then some (ps.map fun p => (readN p.data.toList).1) else none

theorem info_f32 : (Tryd.prog.info? 24).map (fun i => (i.zero, i.size, i.bytes)) = some (some (.float .f32 0), 1, 4) := by kernel_rfl

theorem readNumbers_none (w : World) : Calls Tryd.prog 53 #[.string noneB] w fun e w' => (∃ c g, e = .returned (.tuple #[.slice (some ⟨g, 0, none⟩) 0 c, .bool true])) ∧ Below w.heap.size w w' := by
  go_enter Tryd.func53, Tryd.ntmps53
  go_wp2_with (go_at_call 82; refine (parted_none _).mono ?_; rintro e w1 ⟨rfl, rfl⟩)
  refine wp_loop_rounds 1 ?_
  rw [rounds_succ]
  go_wp2
  exact bodyPost_ret (v := .tuple #[.slice (some ⟨w.heap.size, 0, none⟩) 0 0, .bool true]) (by simp [results, Tryd.results53, go_sem]) rfl ⟨⟨_, _, rfl⟩, below1 _ _⟩
end Go.Proofs.YtglnfccglgladaaDoor
