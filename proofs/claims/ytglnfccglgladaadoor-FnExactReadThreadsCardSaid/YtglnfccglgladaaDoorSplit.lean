/-
  Texts joined by commas and cut at the commas. (No program in sight.)
-/
import Derived.Lib.Split
import Derived.Lib.Join
namespace Go.Proofs.YtglnfccglgladaaDoor
open Go
set_option linter.unusedVariables false

theorem index_no {s : List UInt8} (h : (44 : UInt8) ∉ s) : Lib.index s [44] = -1 := by
  apply Lib.index_none
  intro j hj
  cases e : Lib.occAt s [44] j with
  | false => rfl
  | true => exact absurd (List.mem_of_getElem? (Lib.occAt_head rfl e)) h
theorem index_at {x r : List UInt8} (h : (44 : UInt8) ∉ x) : Lib.index (x ++ 44 :: r) [44] = x.length := by
  refine Lib.index_first (by simp) (by simp [Lib.occAt]) ?_
  intro j hj
  cases e : Lib.occAt (x ++ 44 :: r) [44] j with
  | false => rfl
  | true =>
    have := Lib.occAt_head rfl e
    rw [List.getElem?_append_left hj] at this
    exact absurd (List.mem_of_getElem? this) h
theorem join_cons2 (x y : List UInt8) (r : List (List UInt8)) : Lib.join (x :: y :: r) [44] = x ++ 44 :: Lib.join (y :: r) [44] := by
  simp [Lib.join_cons, Lib.joinTail]

theorem split_join : ∀ (xs : List (List UInt8)), xs ≠ [] → (∀ x ∈ xs, (44 : UInt8) ∉ x) →
    Lib.count (Lib.join xs [44]) [44] + 1 = xs.length ∧ Lib.splitK [44] 0 (Lib.count (Lib.join xs [44]) [44]) (Lib.join xs [44]) = xs
  | [], h, _ => absurd rfl h
  | [x], _, h => by
    rw [Lib.join_one, Lib.count_miss (index_no (h x (by simp)))]
    exact ⟨rfl, rfl⟩
  | x :: y :: r, _, h => by
    have ih := split_join (y :: r) (by simp) (fun z hz => h z (by simp at hz ⊢; exact Or.inr hz))
    have hi : Lib.index (x ++ 44 :: Lib.join (y :: r) [44]) [44] = x.length := index_at (h x (by simp))
    have hd : (x ++ 44 :: Lib.join (y :: r) [44]).drop (x.length + [(44 : UInt8)].length) = Lib.join (y :: r) [44] := by
      rw [List.drop_append]
      simp
    rw [join_cons2, Lib.count_hit (by simp) hi, hd, Nat.add_comm 1]
    refine ⟨by rw [ih.1]; rfl, ?_⟩
    rw [Lib.splitK]
    rw [hi]
    have hne : ¬ (((x.length : Int)) == -1) = true := by simp
    rw [if_neg hne, Int.toNat_natCast, hd, ih.2]
    simp
theorem bytes_eq {s t : ByteArray} (h : s.data.toList = t.data.toList) : s = t := by
  cases s; cases t
  simp only [ByteArray.mk.injEq]
  exact Array.toList_inj.1 h
/-- What strings.Split makes of joined texts. -/
theorem splitB_join (ts : List ByteArray) (h0 : ts ≠ []) (h : ∀ t ∈ ts, (44 : UInt8) ∉ t.data.toList) (s : ByteArray) (hs : s.data.toList = Lib.join (ts.map (·.data.toList)) [44]) :
    Lib.countB s ⟨#[44]⟩ + 1 = ts.length ∧ Lib.splitB ⟨#[44]⟩ 0 (Lib.countB s ⟨#[44]⟩) s = ts := by
  have k := split_join (ts.map (·.data.toList)) (by simpa using h0) (by intro x hx; obtain ⟨t, ht, rfl⟩ := List.mem_map.1 hx; exact h t ht)
  have e : Lib.countB s ⟨#[44]⟩ = Lib.count (Lib.join (ts.map (·.data.toList)) [44]) [44] := by show Lib.count _ _ = _; rw [hs]
  refine ⟨by rw [e, k.1]; simp, ?_⟩
  have d := Lib.splitB_data ⟨#[44]⟩ 0 (Lib.countB s ⟨#[44]⟩) s
  rw [hs, e, k.2] at d
  rw [e]
  have : ∀ (a b : List ByteArray), a.map (·.data.toList) = b.map (·.data.toList) → a = b := by
    intro a
    induction a with
    | nil => intro b hb; cases b with
      | nil => rfl
      | cons => simp at hb
    | cons x a ih => intro b hb; cases b with
      | nil => simp at hb
      | cons y b => simp only [List.map_cons, List.cons.injEq] at hb; rw [bytes_eq hb.1, ih b hb.2]
  exact this _ _ d
end Go.Proofs.YtglnfccglgladaaDoor
