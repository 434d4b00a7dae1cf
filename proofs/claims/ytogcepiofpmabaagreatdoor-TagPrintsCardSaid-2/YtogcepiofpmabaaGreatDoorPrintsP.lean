/- Plain facts on the string of a tag: its parts, that it tells tags apart, and what stands where in an escaped value. -/
import Derived.Test.YtogcepiofpmabaaGreatDoorWTagP
import Derived.Test.YtogcepiofpmabaaGreatDoorRPrint
namespace Go.Proofs.YtogcepiofpmabaaGreatDoor
open Go.RowKit Go.Lib

theorem ext_list (s : ByteArray) (a b : Nat) : (s.extract a b).data.toList = (s.data.toList.drop a).take (b - a) := by
  rw [ByteArray.data_extract]
  simp [List.extract_eq_take_drop]
theorem tagS_list (n v : ByteArray) : (tagS n v).data.toList = 91 :: (n.data.toList ++ (32 :: 34 :: (escL v.data.toList ++ [34, 93]))) := by
  unfold tagS escB
  simp only [ByteArray.toList_data_append, List.append_assoc]
  rfl
theorem tagS_size (n v : ByteArray) : (tagS n v).size = n.size + (escB v).size + 5 := by
  unfold tagS
  simp only [ByteArray.size_append]
  have e1 : (ByteArray.mk #[91]).size = 1 := rfl
  have e2 : (ByteArray.mk #[32, 34]).size = 2 := rfl
  have e3 : (ByteArray.mk #[34, 93]).size = 2 := rfl
  omega
theorem escB_list (v : ByteArray) : (escB v).data.toList = escL v.data.toList := rfl
theorem len_list (s : ByteArray) : s.data.toList.length = s.size := by simp
theorem tagS_head (n v : ByteArray) : (tagS n v).extract 0 (n.size + 3) = ⟨#[91]⟩ ++ n ++ ⟨#[32, 34]⟩ := by
  refine bs_ext ?_
  rw [ext_list, tagS_list]
  simp only [ByteArray.toList_data_append, List.drop_zero]
  have e : (91 :: (n.data.toList ++ (32 :: 34 :: (escL v.data.toList ++ [34, 93])))) = ([91] ++ n.data.toList ++ [32, 34]) ++ (escL v.data.toList ++ [34, 93]) := by simp
  rw [e, List.take_append_of_le_length (by simp <;> omega), List.take_of_length_le (by simp <;> omega)]
theorem tagS_tail (n v : ByteArray) : (tagS n v).extract ((tagS n v).size - 2) (tagS n v).size = ⟨#[34, 93]⟩ := by
  refine bs_ext ?_
  have hs := tagS_size n v
  have hl := len_list (escB v)
  rw [escB_list] at hl
  rw [ext_list, tagS_list]
  have e : (91 :: (n.data.toList ++ (32 :: 34 :: (escL v.data.toList ++ [34, 93])))) = ([91] ++ n.data.toList ++ [32, 34] ++ escL v.data.toList) ++ [34, 93] := by simp
  rw [e, List.drop_append_of_le_length (by simp <;> omega), List.drop_of_length_le (by simp <;> omega), List.nil_append, List.take_of_length_le (by simp <;> omega)]
theorem tagS_inner (n v : ByteArray) : (tagS n v).extract (n.size + 3) ((tagS n v).size - 2) = escB v := by
  refine bs_ext ?_
  have hs := tagS_size n v
  have hl := len_list (escB v)
  rw [escB_list] at hl
  rw [ext_list, tagS_list, escB_list]
  have e : (91 :: (n.data.toList ++ (32 :: 34 :: (escL v.data.toList ++ [34, 93])))) = ([91] ++ n.data.toList ++ [32, 34]) ++ (escL v.data.toList ++ [34, 93]) := by simp
  rw [e, List.drop_append_of_le_length (by simp <;> omega), List.drop_of_length_le (by simp <;> omega), List.nil_append, List.take_append_of_le_length (by omega), List.take_of_length_le (by omega)]

theorem escL_cons (b : UInt8) (t : List UInt8) : escL (b :: t) = (if b == 34 || b == 92 then [92, b] else [b]) ++ escL t := rfl
theorem escL_inj : ∀ a b : List UInt8, escL a = escL b → a = b
  | [], [], _ => rfl
  | [], y :: t, h => by
    rw [escL_cons] at h
    split at h <;> simp [escL] at h
  | x :: s, [], h => by
    rw [escL_cons] at h
    split at h <;> simp [escL] at h
  | x :: s, y :: t, h => by
    rw [escL_cons, escL_cons] at h
    by_cases hx : (x == 34 || x == 92) = true
    · by_cases hy : (y == 34 || y == 92) = true
      · rw [if_pos hx, if_pos hy] at h
        simp only [List.cons_append, List.nil_append, List.cons.injEq, true_and] at h
        rw [h.1, escL_inj s t h.2]
      · rw [if_pos hx, if_neg hy] at h
        simp only [List.cons_append, List.nil_append, List.cons.injEq] at h
        rw [← h.1] at hy
        exact absurd rfl hy
    · by_cases hy : (y == 34 || y == 92) = true
      · rw [if_neg hx, if_pos hy] at h
        simp only [List.cons_append, List.nil_append, List.cons.injEq] at h
        rw [h.1] at hx
        exact absurd rfl hx
      · rw [if_neg hx, if_neg hy] at h
        simp only [List.cons_append, List.nil_append, List.cons.injEq] at h
        rw [h.1, escL_inj s t h.2]
theorem upto_space : ∀ (a b r s : List UInt8), (∀ x ∈ a, x ≠ 32) → (∀ x ∈ b, x ≠ 32) → a ++ 32 :: r = b ++ 32 :: s → a = b ∧ r = s
  | [], [], r, s, _, _, h => by simp at h; exact ⟨rfl, h⟩
  | [], y :: t, r, s, _, hb, h => by
    simp only [List.nil_append, List.cons_append, List.cons.injEq] at h
    exact absurd h.1.symm (hb y (List.mem_cons_self ..))
  | x :: u, [], r, s, ha, _, h => by
    simp only [List.nil_append, List.cons_append, List.cons.injEq] at h
    exact absurd h.1 (ha x (List.mem_cons_self ..))
  | x :: u, y :: t, r, s, ha, hb, h => by
    simp only [List.cons_append, List.cons.injEq] at h
    obtain ⟨h1, h2⟩ := upto_space u t r s (fun z hz => ha z (List.mem_cons_of_mem _ hz)) (fun z hz => hb z (List.mem_cons_of_mem _ hz)) h.2
    exact ⟨by rw [h.1, h1], h2⟩
/-- A name without blanks. -/
def NoBlank (n : ByteArray) : Prop := ∀ x ∈ n.data.toList, x ≠ 32
theorem nmB_blank (l : List Int) : NoBlank (nmB l) := by
  intro x hx
  unfold nmB at hx
  rw [strOfNums_data] at hx
  obtain ⟨z, hz, rfl⟩ := List.mem_map.1 hx
  obtain ⟨h1, h2, h3⟩ := nmL_ok l z hz
  intro e
  have : z = 32 := by
    have := congrArg UInt8.toNat e
    rw [UInt8.toNat_ofNat'] at this
    have e32 : (32 : UInt8).toNat = 32 := rfl
    rw [e32] at this
    omega
  rw [this] at h1
  exact absurd h1 (by decide)
/-- Different tags have different strings. -/
theorem tagS_inj {n v n' v' : ByteArray} (hn : NoBlank n) (hn' : NoBlank n') (h : tagS n v = tagS n' v') : n = n' ∧ v = v' := by
  have h0 := congrArg (fun s : ByteArray => s.data.toList) h
  simp only [tagS_list, List.cons.injEq, true_and] at h0
  obtain ⟨h1, h2⟩ := upto_space _ _ _ _ hn hn' h0
  simp only [List.cons.injEq, true_and] at h2
  have h3 := List.append_cancel_right h2
  exact ⟨bs_ext h1, bs_ext (escL_inj _ _ h3)⟩

/-- Where the value's character number k stands in the escaped value. -/
def posK (v : ByteArray) (k : Nat) : Nat := (escL (v.data.toList.take k)).length
theorem posK_zero (v : ByteArray) : posK v 0 = 0 := by unfold posK; simp [escL]
theorem posK_end (v : ByteArray) : posK v v.size = (escB v).size := by
  unfold posK
  rw [List.take_of_length_le (by simp), ← len_list, escB_list]
theorem esc_split (v : ByteArray) (k : Nat) (h : k < v.size) : escL v.data.toList = escL (v.data.toList.take k) ++ ((if v[k] == 34 || v[k] == 92 then [92, v[k]] else [v[k]]) ++ escL (v.data.toList.drop (k + 1))) := by
  have h' : k < v.data.toList.length := by simpa using h
  have e : v.data.toList = v.data.toList.take k ++ v.data.toList.drop k := (List.take_append_drop k _).symm
  conv => lhs; rw [e, escL_append, List.drop_eq_getElem_cons h', escL_cons]
  rfl
theorem posK_esc (v : ByteArray) (k : Nat) (h : k < v.size) (hc : (v[k] == 34 || v[k] == 92) = true) : posK v (k + 1) = posK v k + 2 := by
  unfold posK
  rw [take_byte v k h, escL_append, List.length_append]
  have e : escL [v[k]] = [92, v[k]] := by unfold escL; simp only [List.flatMap_cons, List.flatMap_nil, hc, if_pos]; rfl
  rw [e]
  rfl
theorem posK_plain (v : ByteArray) (k : Nat) (h : k < v.size) (hc : (v[k] == 34 || v[k] == 92) = false) : posK v (k + 1) = posK v k + 1 := by
  unfold posK
  rw [take_byte v k h, escL_append, List.length_append]
  have e : escL [v[k]] = [v[k]] := by unfold escL; simp only [List.flatMap_cons, List.flatMap_nil, hc, if_neg Bool.false_ne_true]; rfl
  rw [e]
  rfl
theorem byt_esc (v : ByteArray) (k : Nat) (h : k < v.size) (hc : (v[k] == 34 || v[k] == 92) = true) : posK v k + 2 ≤ (escB v).size ∧ byt (escB v) (posK v k) = 92 ∧ byt (escB v) (posK v k + 1) = byt v k := by
  have e := esc_split v k h
  rw [if_pos hc] at e
  have hl := len_list (escB v)
  rw [escB_list, e] at hl
  simp only [List.length_append, List.length_cons, List.length_nil] at hl
  refine ⟨by unfold posK; omega, ?_, ?_⟩
  · unfold byt posK
    rw [escB_list, e, List.getD_eq_getElem?_getD, List.getElem?_append_right (Nat.le_refl _), Nat.sub_self]
    rfl
  · rw [← byt_eq v k h]
    unfold byt posK
    rw [escB_list, e, List.getD_eq_getElem?_getD, List.getElem?_append_right (Nat.le_succ _), Nat.succ_sub (Nat.le_refl _), Nat.sub_self]
    rfl
theorem byt_plain (v : ByteArray) (k : Nat) (h : k < v.size) (hc : (v[k] == 34 || v[k] == 92) = false) : posK v k + 1 ≤ (escB v).size ∧ byt (escB v) (posK v k) = byt v k := by
  have e := esc_split v k h
  rw [hc, if_neg Bool.false_ne_true] at e
  have hl := len_list (escB v)
  rw [escB_list, e] at hl
  simp only [List.length_append, List.length_cons, List.length_nil] at hl
  refine ⟨by unfold posK; omega, ?_⟩
  rw [← byt_eq v k h]
  unfold byt posK
  rw [escB_list, e, List.getD_eq_getElem?_getD, List.getElem?_append_right (Nat.le_refl _), Nat.sub_self]
  rfl
/-- The value's first characters, as numbers. -/
def numsTo (v : ByteArray) (k : Nat) : List Int := (v.data.toList.take k).map fun b => (b.toNat : Int)
theorem numsTo_succ (v : ByteArray) (k : Nat) (h : k < v.size) : numsTo v (k + 1) = numsTo v k ++ [byt v k] := by
  unfold numsTo
  rw [take_byte v k h, List.map_append, ← byt_eq v k h]
  rfl
theorem numsTo_length (v : ByteArray) (k : Nat) (h : k ≤ v.size) : (numsTo v k).length = k := by unfold numsTo; simp; omega
theorem numsTo_end (v : ByteArray) : strOfNums (numsTo v v.size) = v := by
  refine bs_ext ?_
  rw [strOfNums_data]
  unfold numsTo
  rw [List.take_of_length_le (by simp), List.map_map]
  have e : ((fun n : Int => UInt8.ofNat n.toNat) ∘ fun b : UInt8 => (b.toNat : Int)) = id := by
    funext b
    simp
  rw [e, List.map_id]
end Go.Proofs.YtogcepiofpmabaaGreatDoor
