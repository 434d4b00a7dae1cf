/- Plain facts for the laws TagRefuses and TagNormal: lists of valid tags with the roster added, and tags that are spoilt. -/
import Derived.Test.YtogcepiofpmabaaGreatDoorUnique
import Derived.Test.YtogcepiofpmabaaGreatDoorBad
namespace Go.Proofs.YtogcepiofpmabaaGreatDoor
open Go.RowKit Go.Lib

theorem hasN_append (l m : List Tag) (n : ByteArray) : hasN (l ++ m) n = (hasN l n || hasN m n) := by unfold hasN; rw [List.any_append]
theorem hasN_no {l : List Tag} {n : ByteArray} (h : ∀ t ∈ l, t.1 ≠ n) : hasN l n = false := by
  rw [← Bool.not_eq_true, hasN_iff]
  intro hm
  obtain ⟨t, ht, e⟩ := List.mem_map.1 hm
  exact h t ht e
theorem byt_left (a b : ByteArray) (j : Nat) (h : j < a.size) : byt (a ++ b) j = byt a j := by
  unfold byt
  rw [ByteArray.toList_data_append, List.getD_eq_getElem?_getD, List.getElem?_append_left (by simpa using h), ← List.getD_eq_getElem?_getD]
theorem byt_right (a b : ByteArray) (j : Nat) : byt (a ++ b) (a.size + j) = byt b j := by
  unfold byt
  rw [ByteArray.toList_data_append, List.getD_eq_getElem?_getD, List.getElem?_append_right (by simp), List.getD_eq_getElem?_getD]
  simp
/-- The roster's tags, the first k. -/
def rosL (word : ByteArray) (k : Nat) : List Tag := (List.range k).map fun i => (rn i, orS (rv i) word)
theorem rosL_succ (word : ByteArray) (k : Nat) : rosL word (k + 1) = rosL word k ++ [(rn k, orS (rv k) word)] := by
  unfold rosL
  rw [List.range_succ, List.map_append]
  rfl
theorem rosL_length (word : ByteArray) (k : Nat) : (rosL word k).length = k := by unfold rosL; simp
theorem rn_inj : ((List.range 7).all fun i => (List.range 7).all fun j => decide (i = j) || !decide (rn i = rn j)) = true := by kernel_rfl
theorem rn_ne {i j : Nat} (hi : i < 7) (hj : j < 7) (h : i ≠ j) : rn i ≠ rn j := by
  have h1 := List.all_eq_true.1 (List.all_eq_true.1 rn_inj i (List.mem_range.2 hi)) j (List.mem_range.2 hj)
  rw [Bool.or_eq_true, decide_eq_true_iff, Bool.not_eq_true', decide_eq_false_iff_not] at h1
  rcases h1 with h1 | h1
  · exact absurd h1 h
  · exact h1
theorem rosL_has (word : ByteArray) (k : Nat) (hk : k < 7) : hasN (rosL word k) (rn k) = false := hasN_no fun t ht => by
  unfold rosL at ht
  obtain ⟨i, hi, rfl⟩ := List.mem_map.1 ht
  have := List.mem_range.1 hi
  exact rn_ne (by omega) hk (by omega)
/-- None of the roster is given: it is added whole. -/
theorem addTo_new (word : ByteArray) (l : List Tag) (h : ∀ k, k < 7 → hasN l (rn k) = false) : ∀ k, k ≤ 7 → addTo word l k = l ++ rosL word k
  | 0, _ => by unfold addTo rosL; simp
  | k + 1, hk => by
    unfold addTo
    rw [addTo_new word l h k (by omega)]
    unfold addIf
    rw [hasN_append, h k (by omega), Bool.false_or, rosL_has word k (by omega), if_neg Bool.false_ne_true, List.append_assoc, ← rosL_succ]

/-- The names that no tag by numbers has. -/
theorem first_ne {a b : ByteArray} (h : byt a 0 ≠ byt b 0) : a ≠ b := fun e => h (by rw [e])
theorem rn_first : ((List.range 7).all fun i => !decide (byt (rn i) 0 = 88) && !decide (byt (rn i) 0 = 89)) = true := by kernel_rfl
theorem rn_first_ne {i : Nat} (hi : i < 7) : byt (rn i) 0 ≠ 88 ∧ byt (rn i) 0 ≠ 89 := by
  have h := List.all_eq_true.1 rn_first i (List.mem_range.2 hi)
  rw [Bool.and_eq_true, Bool.not_eq_true', Bool.not_eq_true', decide_eq_false_iff_not, decide_eq_false_iff_not] at h
  exact h
/-- All names begin with X or Y. -/
def XY (l : List Tag) : Prop := ∀ t ∈ l, byt t.1 0 = 88 ∨ byt t.1 0 = 89
theorem XY.no {l : List Tag} (h : XY l) {n : ByteArray} (h8 : byt n 0 ≠ 88) (h9 : byt n 0 ≠ 89) : hasN l n = false := hasN_no fun t ht e => by
  subst e
  rcases h t ht with h | h
  · exact h8 h
  · exact h9 h
theorem XY.ros {l : List Tag} (h : XY l) (k : Nat) (hk : k < 7) : hasN l (rn k) = false := h.no (rn_first_ne hk).1 (rn_first_ne hk).2
theorem fst_fen : byt nFen 0 = 70 := by kernel_rfl
theorem fst_set : byt nSet 0 = 83 := by kernel_rfl
theorem XY.fen {l : List Tag} (h : XY l) : hasN l nFen = false := h.no (by rw [fst_fen]; decide) (by rw [fst_fen]; decide)
theorem XY.set {l : List Tag} (h : XY l) : hasN l nSet = false := h.no (by rw [fst_set]; decide) (by rw [fst_set]; decide)
theorem Ok.xy {l : List Tag} (h : Ok l) : XY l := fun t ht => by
  obtain ⟨x, rfl⟩ := h.wd t ht
  exact Or.inl (nmB_first x.l1)

theorem XY.full {l : List Tag} (h : XY l) (word : ByteArray) : full l word = l ++ rosL word 7 := by
  unfold Go.Proofs.YtogcepiofpmabaaGreatDoor.full
  rw [h.fen, if_neg Bool.false_ne_true, addTo_new word l h.ros 7 (Nat.le_refl _)]
theorem valOf_append_no {l m : List Tag} {n : ByteArray} (h : hasN l n = false) : valOf (l ++ m) n = valOf m n := by
  unfold valOf
  have e : l.find? (fun t : Tag => t.1.toList == n.toList) = none := by
    rw [List.find?_eq_none]
    intro x hx
    unfold hasN at h
    rw [List.any_eq_false] at h
    exact h x hx
  rw [List.find?_append, e, Option.none_or]
theorem orS_empty (word : ByteArray) : orS ⟨#[]⟩ word = word := by
  unfold orS
  rw [empty_toList _ rfl, if_pos rfl]
  split
  · rename_i h
    rw [toList_data, List.isEmpty_iff] at h
    exact (ByteArray.ext (Array.toList_inj.mp h)).symm
  · rfl
theorem rosL_res (word : ByteArray) : valOf (rosL word 7) nRes = word := by
  have e : rosL word 7 = rosL word 6 ++ [(rn 6, orS (rv 6) word)] := rosL_succ word 6
  rw [e, valOf_append_no (n := nRes) (rosL_has word 6 (by decide))]
  exact (valOf_mem [(rn 6, orS (rv 6) word)] (by simp) _ (List.mem_singleton.2 rfl)).trans (orS_empty word)
theorem XY.state {l : List Tag} (h : XY l) (word : ByteArray) : stateB l word = false := by
  unfold stateB
  rw [h.full, valOf_append_no (n := nRes) (h.ros 6 (by decide)), rosL_res, h.set]
  simp
theorem XY.norm_many {l : List Tag} (h : XY l) (word : ByteArray) (hl : 17 < l.length) : normS l word = .err 10 := by
  unfold normS
  rw [h.full, if_pos (by rw [List.length_append, rosL_length]; omega)]
theorem XY.norm_ok {l : List Tag} (h : XY l) (word : ByteArray) (hl : l.length ≤ 17) : normS l word = .ok (sortTags (l ++ rosL word 7)) := by
  unfold normS
  rw [h.full, if_neg (by rw [List.length_append, rosL_length]; omega), h.state, if_neg Bool.false_ne_true, h.fen, if_neg Bool.false_ne_true]

/-- The names that are added. -/
def yN (i : Nat) : ByteArray := ⟨#[89]⟩ ++ strOfNums [97 + (i : Int)]
def yT (i : Nat) : Tag := (yN i, ⟨#[]⟩)
def manyK (l : List Tag) (k : Nat) : List Tag := l ++ (List.range k).map yT
theorem manyK_zero (l : List Tag) : manyK l 0 = l := by unfold manyK; simp
theorem manyK_succ (l : List Tag) (k : Nat) : manyK l (k + 1) = manyK l k ++ [yT k] := by
  unfold manyK
  rw [List.range_succ, List.map_append, List.append_assoc]
  rfl
theorem manyK_length (l : List Tag) (k : Nat) : (manyK l k).length = l.length + k := by unfold manyK; simp
theorem y_ok : ((List.range 18).all fun i => (checkE (yN i) ⟨#[]⟩ == 0) && (byt (yN i) 0 == 89) && decide ((yN i).size = 2)) = true := by kernel_rfl
theorem y_dif : difB ((List.range 18).map yT) = true := by kernel_rfl
theorem yT_ok {i : Nat} (hi : i < 18) : checkE (yN i) ⟨#[]⟩ = 0 ∧ byt (yN i) 0 = 89 ∧ (yN i).size = 2 := by
  have h := List.all_eq_true.1 y_ok i (List.mem_range.2 hi)
  rw [Bool.and_eq_true, Bool.and_eq_true, decide_eq_true_iff, beq_iff_eq, beq_iff_eq] at h
  exact ⟨h.1.1, h.1.2, h.2⟩
theorem mem_manyK {l : List Tag} {k : Nat} (hk : k ≤ 18) {t : Tag} (ht : t ∈ manyK l k) : t ∈ l ∨ ∃ i, i < 18 ∧ t = yT i := by
  unfold manyK at ht
  rcases List.mem_append.1 ht with h | h
  · exact Or.inl h
  · obtain ⟨i, hi, rfl⟩ := List.mem_map.1 h
    have := List.mem_range.1 hi
    exact Or.inr ⟨i, by omega, rfl⟩
theorem many_xy {l : List Tag} (h : Ok l) {k : Nat} (hk : k ≤ 18) : XY (manyK l k) := fun t ht => by
  rcases mem_manyK hk ht with h1 | ⟨i, hi, rfl⟩
  · exact h.xy t h1
  · exact Or.inr (yT_ok hi).2.1
theorem many_good {l : List Tag} (h : Ok l) {k : Nat} (hk : k ≤ 18) : Good (manyK l k) := fun t ht => by
  rcases mem_manyK hk ht with h1 | ⟨i, hi, rfl⟩
  · exact h.good t h1
  · exact (yT_ok hi).1
theorem many_sized {l : List Tag} (h : Ok l) {k : Nat} (hk : k ≤ 18) : Sized (manyK l k) := fun t ht => by
  rcases mem_manyK hk ht with h1 | ⟨i, hi, rfl⟩
  · exact h.sized t h1
  · have := (yT_ok hi).2.2
    refine ⟨?_, ?_⟩
    · show (yN i).size ≤ maxLen
      unfold maxLen
      omega
    · show (0 : Nat) ≤ maxLen
      omega
theorem many_dif {l : List Tag} (h : Ok l) {k : Nat} (hk : k ≤ 18) : ((manyK l k).map (·.1)).Nodup := by
  unfold manyK
  rw [List.map_append, List.nodup_append]
  refine ⟨h.dif, ?_, fun a ha b hb e => ?_⟩
  · have h1 := dif_of_b y_dif
    have h2 : (List.range k).Sublist (List.range 18) := by
      rw [show 18 = k + (18 - k) by omega, List.range_add]
      exact List.sublist_append_left _ _
    exact List.Nodup.sublist ((h2.map _).map _) h1
  · subst e
    obtain ⟨t, ht, rfl⟩ := List.mem_map.1 ha
    obtain ⟨s, hs, e⟩ := List.mem_map.1 hb
    obtain ⟨i, hi, rfl⟩ := List.mem_map.1 hs
    obtain ⟨x, rfl⟩ := h.wd t ht
    have h1 := List.mem_range.1 hi
    have h2 := (yT_ok (show i < 18 by omega)).2.1
    have h3 := nmB_first x.l1
    have e' : yN i = nmB x.l1 := e
    rw [e', h3] at h2
    exact absurd h2 (by decide)

theorem manyK_take (l : List Tag) (j k : Nat) (hk : k ≤ j) : (manyK l j).take (l.length + k) = manyK l k := by
  unfold manyK
  rw [List.take_append, List.take_of_length_le (by omega), show l.length + k - l.length = k by omega, ← List.map_take, List.take_range, Nat.min_eq_left hk]
/-- A name is there twice. -/
def twiceL (l : List Tag) (n : ByteArray) : List Tag := l ++ [(n, ⟨#[]⟩)]
theorem vlB_nil : vlB [] = ⟨#[]⟩ := by kernel_rfl
theorem twice_good {l : List Tag} (h : Ok l) (x : Wd) : Good (twiceL l (nmB x.l1)) := fun t ht => by
  rcases List.mem_append.1 ht with h1 | h1
  · exact h.good t h1
  · rw [List.mem_singleton.1 h1, ← vlB_nil]
    exact wtag_ok x.l1 []
theorem twice_sized {l : List Tag} (h : Ok l) (x : Wd) : Sized (twiceL l (nmB x.l1)) := fun t ht => by
  rcases List.mem_append.1 ht with h1 | h1
  · exact h.sized t h1
  · rw [List.mem_singleton.1 h1]
    have := nmB_size x.l1
    refine ⟨?_, ?_⟩
    · show (nmB x.l1).size ≤ maxLen
      unfold maxLen
      omega
    · show (0 : Nat) ≤ maxLen
      omega
theorem twice_dup {l : List Tag} {t : Tag} (h : t ∈ l) : ¬ ((twiceL l t.1).map (·.1)).Nodup := by
  unfold twiceL
  rw [List.map_append, List.nodup_append]
  intro hn
  exact hn.2.2 t.1 (List.mem_map.2 ⟨t, h, rfl⟩) t.1 (by simp) rfl

/-- Spoilt tags. -/
theorem bad0 (v : ByteArray) : checkE ⟨#[]⟩ v = 2 := checkE_name (nameB_none _ rfl)
theorem bad1 (n v : ByteArray) : checkE (⟨#[49]⟩ ++ n) v = 2 := by
  have hs : (ByteArray.mk #[49] ++ n).size = 1 + n.size := by rw [ByteArray.size_append]; rfl
  refine checkE_name (nameB_first _ (by omega) ?_)
  rw [byt_left _ _ _ (by decide)]
  decide
theorem bad2 (n v : ByteArray) : checkE (n ++ ⟨#[45]⟩) v = 2 := by
  have hs : (n ++ ByteArray.mk #[45]).size = n.size + 1 := by rw [ByteArray.size_append]; rfl
  refine checkE_name (nameB_later _ n.size (by omega) ?_)
  have := byt_right n ⟨#[45]⟩ 0
  rw [Nat.add_zero] at this
  rw [this]
  decide
theorem vlB_okP (l : List Int) : ∀ j, j < (vlB l).size → okP (byt (vlB l) j) = true := by
  intro j hj
  have hs : (vlB l).size = (vlL l).length := strOfNums_size _
  rw [hs] at hj
  unfold vlB
  rw [byt_nums _ (fun z hz => (vlL_ok l z hz).2) j hj]
  exact (vlL_ok l _ (List.getElem_mem hj)).1
theorem bad3 (n : ByteArray) (l : List Int) : checkE n (vlB l ++ ⟨#[10]⟩) = 2 := by
  have hs : (vlB l ++ ByteArray.mk #[10]).size = (vlB l).size + 1 := by rw [ByteArray.size_append]; rfl
  refine checkE_val (printB_bad _ (vlB l).size (by omega) ?_ (fun j hj => ?_))
  · have := byt_right (vlB l) ⟨#[10]⟩ 0
    rw [Nat.add_zero] at this
    rw [this]
    decide
  · rw [byt_left _ _ _ hj]
    exact vlB_okP l j hj
theorem bad4 (n : ByteArray) : checkE n ⟨#[195, 169]⟩ = 2 := checkE_val (by kernel_rfl)
abbrev nLong : ByteArray := ⟨#[78, 50, 51, 52, 53, 54, 55, 56, 57, 48, 49, 50, 51, 52, 53, 54, 55, 56, 57, 48, 49, 50, 51, 52, 53, 54, 55, 56, 57, 48, 49, 50, 51]⟩
theorem bad5 (l : List Int) : checkE nLong (vlB l) = 9 := checkE_long (by kernel_rfl) (vlB_print l) (Or.inl (by decide))
/-- So many letters v. -/
def vK : Nat → ByteArray
  | 0 => ⟨#[]⟩
  | k + 1 => vK k ++ ⟨#[118]⟩
theorem vK_size : ∀ k, (vK k).size = k
  | 0 => rfl
  | k + 1 => by
    unfold vK
    rw [ByteArray.size_append, vK_size k]
    rfl
theorem vK_byt : ∀ k j, j < k → byt (vK k) j = 118
  | k + 1, j, h => by
    unfold vK
    by_cases hj : j < k
    · rw [byt_left _ _ _ (by rw [vK_size]; exact hj)]
      exact vK_byt k j hj
    · have e : j = (vK k).size + 0 := by rw [vK_size]; omega
      rw [e, byt_right]
      decide
theorem bad7 (l : List Int) (k : Nat) (hk : 120 < k) : checkE (nmB l) (vK k) = 9 :=
  checkE_long (nmB_name l) (printB_good _ (fun j hj => by rw [vK_size] at hj; rw [vK_byt k j hj]; decide)) (Or.inr (by rw [vK_size]; exact hk))

/-- What spoils a tag, and the error. -/
theorem good_ahead {l : List Tag} (h : Ok l) (n : ByteArray) (k : Nat) (hk : k ≤ l.length) (t : Tag) (j : Nat) (hj : j < k) (x : Tag) (hx : ((twiceL l n).set k t)[j]? = some x) : checkE x.1 x.2 = 0 := by
  rw [List.getElem?_set_ne (by omega)] at hx
  unfold twiceL at hx
  rw [List.getElem?_append_left (by omega)] at hx
  exact h.good x (List.mem_of_getElem? hx)
end Go.Proofs.YtogcepiofpmabaaGreatDoor
