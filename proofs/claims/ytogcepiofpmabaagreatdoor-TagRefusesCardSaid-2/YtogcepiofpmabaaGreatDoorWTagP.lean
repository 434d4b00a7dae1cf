/- A valid tag by numbers: what it is, and that it is valid. -/
import Derived.Test.YtogcepiofpmabaaGreatDoorRCheck
import Derived.Test.YtogcepiofpmabaaGreatDoorSpec
import Derived.Laws.BytesArg
namespace Go.Proofs.YtogcepiofpmabaaGreatDoor
open Go.RowKit Go.Lib

/-- The letters of a name. -/
abbrev lets : ByteArray := ⟨#[97, 98, 99, 100, 101, 102, 103, 104, 105, 106, 107, 108, 109, 110, 111, 112, 113, 114, 115, 116, 117, 118, 119, 120, 121, 122, 65, 66, 67, 68, 69, 70, 71, 72, 73, 74, 75, 76, 77, 78, 79, 80, 81, 82, 83, 84, 85, 86, 87, 88, 89, 90, 48, 49, 50, 51, 52, 53, 54, 55, 56, 57, 95]⟩
/-- The letter by a number. -/
def ltrN (m : Nat) : Int := ((lets.data.toList.getD m 0).toNat : Int)
def ltrI (z : Int) : Int := ltrN (z % 63).toNat
/-- The letters of the name, and of the value, of a tag by numbers. -/
def nmL (l : List Int) : List Int := 88 :: (l.take 20).map ltrI
def vlL (l : List Int) : List Int := (l.take 100).map fun z => 32 + z % 95
def nmB (l : List Int) : ByteArray := strOfNums (nmL l)
def vlB (l : List Int) : ByteArray := strOfNums (vlL l)

theorem let_ok : ((List.range 63).all fun m => okR (ltrN m) && decide (0 ≤ ltrN m) && decide (ltrN m < 128)) = true := by kernel_rfl
theorem ltrI_ok (z : Int) : okR (ltrI z) = true ∧ 0 ≤ ltrI z ∧ ltrI z < 128 := by
  have h := List.all_eq_true.1 let_ok (z % 63).toNat (List.mem_range.2 (by omega))
  rw [Bool.and_eq_true, Bool.and_eq_true, decide_eq_true_iff, decide_eq_true_iff] at h
  exact ⟨h.1.1, h.1.2, h.2⟩
theorem nmL_ok (l : List Int) : ∀ z ∈ nmL l, okR z = true ∧ 0 ≤ z ∧ z < 128 := by
  intro z hz
  unfold nmL at hz
  rcases List.mem_cons.1 hz with rfl | hz
  · decide
  · obtain ⟨y, _, rfl⟩ := List.mem_map.1 hz
    exact ltrI_ok y
theorem vlL_ok (l : List Int) : ∀ z ∈ vlL l, okP z = true ∧ 0 ≤ z ∧ z < 128 := by
  intro z hz
  unfold vlL at hz
  obtain ⟨y, _, rfl⟩ := List.mem_map.1 hz
  rw [okP_iff]
  omega
theorem byt_nums (l : List Int) (hb : ∀ z ∈ l, 0 ≤ z ∧ z < 128) (j : Nat) (h : j < l.length) : byt (strOfNums l) j = l[j] := by
  unfold byt
  rw [strOfNums_data, List.getD_eq_getElem?_getD, List.getElem?_map, List.getElem?_eq_getElem h]
  have := hb _ (List.getElem_mem h)
  simp only [Option.map_some, Option.getD_some, UInt8.toNat_ofNat']
  omega
theorem nmL_length (l : List Int) : (nmL l).length ≤ 21 ∧ 0 < (nmL l).length := by
  unfold nmL
  simp
  omega
theorem vlL_length (l : List Int) : (vlL l).length ≤ 100 := by
  unfold vlL
  simp
  omega
theorem nmB_size (l : List Int) : (nmB l).size ≤ 21 := by unfold nmB; rw [strOfNums_size]; exact (nmL_length l).1
theorem vlB_size (l : List Int) : (vlB l).size ≤ 100 := by unfold vlB; rw [strOfNums_size]; exact vlL_length l
theorem nmB_first (l : List Int) : byt (nmB l) 0 = 88 := by
  unfold nmB
  rw [byt_nums _ (fun z hz => (nmL_ok l z hz).2) 0 (nmL_length l).2]
  rfl
theorem nmB_name (l : List Int) : nameB (nmB l) = true := by
  have hs : (nmB l).size = (nmL l).length := strOfNums_size _
  refine nameB_all _ (by rw [hs]; exact (nmL_length l).2) (by rw [nmB_first]; decide) (fun j hj => ?_)
  rw [hs] at hj
  unfold nmB
  rw [byt_nums _ (fun z hz => (nmL_ok l z hz).2) j hj]
  exact (nmL_ok l _ (List.getElem_mem hj)).1
theorem vlB_print (l : List Int) : printB (vlB l) = true := by
  have hs : (vlB l).size = (vlL l).length := strOfNums_size _
  refine printB_good _ (fun j hj => ?_)
  rw [hs] at hj
  unfold vlB
  rw [byt_nums _ (fun z hz => (vlL_ok l z hz).2) j hj]
  exact (vlL_ok l _ (List.getElem_mem hj)).1
/-- A tag by numbers is valid. -/
theorem wtag_ok (l m : List Int) : checkE (nmB l) (vlB m) = 0 :=
  checkE_ok (nmB_name l) (vlB_print m) (by have := nmB_size l; have := vlB_size m; omega)
theorem nmL_snoc (l : List Int) (k : Nat) (hk : k < l.length) : (88 :: (l.take (k + 1)).map ltrI) = (88 :: (l.take k).map ltrI) ++ [ltrI l[k]] := by
  rw [List.take_add_one, List.getElem?_eq_getElem hk, List.map_append]
  rfl
theorem vlL_snoc (l : List Int) (k : Nat) (hk : k < l.length) : ((l.take (k + 1)).map fun z => 32 + z % 95) = ((l.take k).map fun z => 32 + z % 95) ++ [32 + l[k] % 95] := by
  rw [List.take_add_one, List.getElem?_eq_getElem hk, List.map_append]
  rfl
theorem take_end (l : List Int) (k n : Nat) (hk : k ≤ l.length) (hn : k ≤ n) (h : ¬ (k < l.length ∧ k < n)) : l.take k = l.take n := by
  by_cases h1 : k < n
  · rw [List.take_of_length_le (show l.length ≤ k by omega), List.take_of_length_le (show l.length ≤ n by omega)]
  · rw [show k = n by omega]
end Go.Proofs.YtogcepiofpmabaaGreatDoor
