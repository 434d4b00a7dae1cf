/- Backslashes ahead of backslashes and quotes, in plain Lean. -/
import Derived.Lib.ReplaceLaws
namespace Go.Proofs.YtogcepiofpmabaaGreatDoor
open Go.Lib

theorem index_cons_ne {b c : UInt8} (hbc : b ≠ c) (t : List UInt8) : index (b :: t) [c] = if index t [c] == -1 then -1 else index t [c] + 1 := by
  have hp : ([c].isPrefixOf (b :: t)) = false := by simpa [List.isPrefixOf] using fun h => hbc h.symm
  rw [index, hp]
  rfl
theorem index_cons_eq (c : UInt8) (t : List UInt8) : index (c :: t) [c] = (0 : Nat) := by
  have hp : ([c].isPrefixOf (c :: t)) = true := by simp [List.isPrefixOf]
  rw [index, hp]
  rfl
theorem index_cons_hit {b c : UInt8} (hbc : b ≠ c) {t : List UInt8} {i : Nat} (h : index t [c] = i) : index (b :: t) [c] = ((i + 1 : Nat) : Int) := by
  rw [index_cons_ne hbc, h, if_neg (by intro e; have := beq_iff_eq.1 e; omega)]
  omega
theorem index_cons_miss {b c : UInt8} (hbc : b ≠ c) {t : List UInt8} (h : index t [c] = -1) : index (b :: t) [c] = -1 := by
  rw [index_cons_ne hbc, h]
  rfl
theorem index_split (t : List UInt8) (c : UInt8) : index t [c] = -1 ∨ ∃ i : Nat, index t [c] = i := by
  have hge := index_ge t [c]
  by_cases h : index t [c] = -1
  · exact Or.inl h
  · exact Or.inr ⟨(index t [c]).toNat, by omega⟩

theorem count_cons_ne {b c : UInt8} (hbc : b ≠ c) (t : List UInt8) : count (b :: t) [c] = count t [c] := by
  rcases index_split t c with h | ⟨i, h⟩
  · rw [count_miss h, count_miss (index_cons_miss hbc h)]
  · rw [count_hit (by simp) h, count_hit (by simp) (index_cons_hit hbc h)]
    rfl

theorem replaceK_cons_ne {b c : UInt8} (hbc : b ≠ c) (new t : List UInt8) : ∀ k, replaceK [c] new k (b :: t) = b :: replaceK [c] new k t
  | 0 => rfl
  | k + 1 => by
    rcases index_split t c with h | ⟨i, h⟩
    · rw [replaceK, replaceK, h, index_cons_miss hbc h]
      rfl
    · rw [replaceK_hit _ _ _ _ _ h, replaceK_hit _ _ _ _ _ (index_cons_hit hbc h)]
      rfl

/-- A byte's instances are replaced. -/
def swap (c : UInt8) (new : List UInt8) (l : List UInt8) : List UInt8 := l.flatMap fun x => if x == c then new else [x]

theorem replaceK_swap (c : UInt8) (new : List UInt8) : ∀ l, replaceK [c] new (count l [c]) l = swap c new l
  | [] => rfl
  | b :: t => by
    by_cases hbc : b = c
    · subst hbc
      rw [count_hit (by simp) (index_cons_eq b t), Nat.add_comm, replaceK_hit _ _ _ _ _ (index_cons_eq b t)]
      show [] ++ new ++ replaceK [b] new (count t [b]) t = _
      rw [replaceK_swap b new t]
      simp [swap]
    · rw [count_cons_ne hbc, replaceK_cons_ne hbc, replaceK_swap c new t]
      simp [swap, hbc]

theorem replaceAll_swap (c d : UInt8) (l : List UInt8) : replaceAll l [c] [d, c] = swap c [d, c] l := by
  have e : ([c] == [d, c]) = false := by simp
  unfold replaceAll replace
  rw [e]
  have e2 : replaceNum l [c] (-1) = count l [c] := by unfold replaceNum; rw [if_pos (Or.inl (by decide))]
  rw [e2]
  exact replaceK_swap c [d, c] l

theorem swap_length (c d : UInt8) : ∀ l, (swap c [d, c] l).length ≤ 2 * l.length
  | [] => Nat.le_refl _
  | b :: t => by
    have ih := swap_length c d t
    have e : swap c [d, c] (b :: t) = (if b == c then [d, c] else [b]) ++ swap c [d, c] t := rfl
    rw [e, List.length_append, List.length_cons]
    split
    · simp only [List.length_cons, List.length_nil]; omega
    · simp only [List.length_cons, List.length_nil]; omega

/-- A backslash ahead of each backslash and each quote. -/
def escL (l : List UInt8) : List UInt8 := l.flatMap fun x => if x == 34 || x == 92 then [92, x] else [x]
theorem swap_swap : ∀ l, swap 34 [92, 34] (swap 92 [92, 92] l) = escL l
  | [] => rfl
  | b :: t => by
    have e : swap 92 [92, 92] (b :: t) = (if b == 92 then [92, 92] else [b]) ++ swap 92 [92, 92] t := rfl
    have e2 : escL (b :: t) = (if b == 34 || b == 92 then [92, b] else [b]) ++ escL t := rfl
    have e3 : ∀ a c : List UInt8, swap 34 [92, 34] (a ++ c) = swap 34 [92, 34] a ++ swap 34 [92, 34] c := fun a c => List.flatMap_append
    rw [e, e2, e3, swap_swap t]
    congr 1
    by_cases h : b = 92
    · subst h; rfl
    · by_cases h3 : b = 34
      · subst h3; rfl
      · simp [h, h3, swap]

/-- The value of a tag, as tag.Print writes it. -/
def escB (v : ByteArray) : ByteArray := ⟨(escL v.data.toList).toArray⟩
/-- The first half of it. -/
def escA (v : ByteArray) : ByteArray := ⟨(replaceAll v.data.toList (ByteArray.mk #[92]).data.toList (ByteArray.mk #[92, 92]).data.toList).toArray⟩
theorem escA_size (v : ByteArray) : (escA v).size ≤ 2 * v.size := by
  show (replaceAll v.data.toList [92] [92, 92]).toArray.size ≤ 2 * v.data.size
  have := swap_length 92 92 v.data.toList
  rw [replaceAll_swap]
  simpa using this
theorem escL_length : ∀ l, (escL l).length ≤ 2 * l.length
  | [] => Nat.le_refl _
  | b :: t => by
    have ih := escL_length t
    have e2 : escL (b :: t) = (if b == 34 || b == 92 then [92, b] else [b]) ++ escL t := rfl
    rw [e2, List.length_append, List.length_cons]
    split
    · simp only [List.length_cons, List.length_nil]; omega
    · simp only [List.length_cons, List.length_nil]; omega
theorem escB_size (v : ByteArray) : (escB v).size ≤ 2 * v.size := by
  show (escL v.data.toList).toArray.size ≤ 2 * v.data.size
  have := escL_length v.data.toList
  simpa using this
theorem escB_eq (v : ByteArray) : (⟨(replaceAll (escA v).data.toList (ByteArray.mk #[34]).data.toList (ByteArray.mk #[92, 34]).data.toList).toArray⟩ : ByteArray) = escB v := by
  have e : (escA v).data.toList = swap 92 [92, 92] v.data.toList := by
    show (replaceAll v.data.toList [92] [92, 92]).toArray.toList = _
    rw [replaceAll_swap, List.toList_toArray]
  show (⟨(replaceAll (escA v).data.toList [34] [92, 34]).toArray⟩ : ByteArray) = _
  rw [replaceAll_swap, e, swap_swap]
  rfl
end Go.Proofs.YtogcepiofpmabaaGreatDoor
