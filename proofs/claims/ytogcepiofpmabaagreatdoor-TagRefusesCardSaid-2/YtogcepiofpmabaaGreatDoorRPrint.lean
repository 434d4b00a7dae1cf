/- Contract of the reference's Print. -/
import Derived.Test.YtogcepiofpmabaaGreatDoorRCheck
import Derived.Test.YtogcepiofpmabaaGreatDoorPrint
import Derived.Outline
namespace Go.Proofs.YtogcepiofpmabaaGreatDoor
open Go.RowKit Go.Lib

/-- What stands after so many characters of the value. -/
def sK (n v : ByteArray) (k : Nat) : ByteArray := ⟨#[91]⟩ ++ n ++ ⟨#[32, 34]⟩ ++ ⟨(escL (v.data.toList.take k)).toArray⟩
theorem bs_ext {a b : ByteArray} (h : a.data.toList = b.data.toList) : a = b := ByteArray.ext (Array.toList_inj.mp h)
theorem escL_append (a b : List UInt8) : escL (a ++ b) = escL a ++ escL b := List.flatMap_append
theorem sK_zero (n v : ByteArray) : ⟨#[91]⟩ ++ n ++ ⟨#[32, 34]⟩ = sK n v 0 := by
  refine bs_ext ?_
  unfold sK
  simp [escL]
theorem take_byte (v : ByteArray) (k : Nat) (h : k < v.size) : v.data.toList.take (k + 1) = v.data.toList.take k ++ [v[k]] := by
  rw [List.take_add_one, List.getElem?_eq_getElem (by simpa using h)]
  rfl
theorem extract_one (v : ByteArray) (k : Nat) (h : k < v.size) : (v.extract k (k + 1)).data.toList = [v[k]] := by
  have h' : k < v.data.toList.length := by simpa using h
  have e : (v.extract k (k + 1)).data.toList = (v.data.toList.drop k).take 1 := by
    rw [ByteArray.data_extract]
    simp [List.extract_eq_take_drop]
  rw [e, List.drop_eq_getElem_cons h']
  rfl
theorem sK_plain (n v : ByteArray) (k : Nat) (h : k < v.size) (hc : (v[k] == 34 || v[k] == 92) = false) : sK n v k ++ v.extract k (k + 1) = sK n v (k + 1) := by
  refine bs_ext ?_
  unfold sK
  rw [ByteArray.toList_data_append, extract_one v k h, ByteArray.toList_data_append, ByteArray.toList_data_append, take_byte v k h, escL_append]
  have e : escL [v[k]] = [v[k]] := by unfold escL; simp only [List.flatMap_cons, List.flatMap_nil, hc, if_neg Bool.false_ne_true]; rfl
  rw [e, List.append_assoc]
  simp
theorem sK_esc (n v : ByteArray) (k : Nat) (h : k < v.size) (hc : (v[k] == 34 || v[k] == 92) = true) : sK n v k ++ ⟨#[92]⟩ ++ v.extract k (k + 1) = sK n v (k + 1) := by
  refine bs_ext ?_
  unfold sK
  rw [ByteArray.toList_data_append, extract_one v k h, ByteArray.toList_data_append, ByteArray.toList_data_append, ByteArray.toList_data_append, take_byte v k h, escL_append]
  have e : escL [v[k]] = [92, v[k]] := by unfold escL; simp only [List.flatMap_cons, List.flatMap_nil, hc, if_pos]; rfl
  rw [e]
  simp
theorem sK_end (n v : ByteArray) : sK n v v.size ++ ⟨#[34, 93]⟩ = tagS n v := by
  unfold sK tagS escB
  rw [List.take_of_length_le (by simp)]
theorem sK_size (n v : ByteArray) (k : Nat) : (sK n v k).size ≤ n.size + 2 * v.size + 3 := by
  have h := escL_length (v.data.toList.take k)
  have e : (⟨(escL (v.data.toList.take k)).toArray⟩ : ByteArray).size = (escL (v.data.toList.take k)).length := rfl
  have h2 : (v.data.toList.take k).length ≤ v.size := by simp; omega
  unfold sK
  simp only [ByteArray.size_append, e]
  have e1 : (ByteArray.mk #[91]).size = 1 := rfl
  have e2 : (ByteArray.mk #[32, 34]).size = 2 := rfl
  omega
theorem ret_se {a b : ByteArray} (h : a = b) : Ending.returned (.tuple #[.string a, .int .i64 0]) = .returned (.tuple #[.string b, .int .i64 0]) := by rw [h]
theorem byte_is (b : UInt8) (c : Nat) (hc : c < 256) (h : (b.toNat : Int) = c) : b = UInt8.ofNat c := by
  apply UInt8.toNat_inj.1
  rw [UInt8.toNat_ofNat']
  omega
theorem special {b : UInt8} (h : (b.toNat : Int) = 34 ∨ (b.toNat : Int) = 92) : (b == 34 || b == 92) = true := by
  rcases h with h | h
  · rw [byte_is b 34 (by decide) h]; rfl
  · rw [byte_is b 92 (by decide) h]; rfl
theorem ordinary {b : UInt8} (h1 : ¬ (b.toNat : Int) = 34) (h2 : ¬ (b.toNat : Int) = 92) : (b == 34 || b == 92) = false := by
  rw [Bool.or_eq_false_iff, beq_eq_false_iff_ne, beq_eq_false_iff_ne]
  exact ⟨fun e => h1 (by rw [e]; rfl), fun e => h2 (by rw [e]; rfl)⟩

set_option maxRecDepth 100000 in
set_option maxHeartbeats 1000000 in
theorem rprint_bad (n v : ByteArray) (w : World) (hn : n.size ≤ maxLen) (hv : v.size ≤ maxLen) (hc : (checkE n v != 0) = true) :
    Calls Tryz.prog 15 #[.agg #[.string n, .string v]] w fun e w' => e = .returned (.tuple #[.string ⟨#[]⟩, .int .i64 (checkE n v)]) ∧ Below w.heap.size w w' := by
  go_enter Tryz.func15, Tryz.ntmps15
  go_wp2_with (go_at_call 20; refine (rcheck_any n v _ hn hv).mono ?_; rintro e w' ⟨rfl, hb⟩)
  go_ret2
  exact ⟨rfl, box_below0 hb⟩

set_option maxRecDepth 100000 in
set_option maxHeartbeats 4000000 in
theorem rprint_ok (n v : ByteArray) (w : World) (hn : n.size ≤ 1000) (hv : v.size ≤ 1000) (hc : checkE n v = 0) :
    Calls Tryz.prog 15 #[.agg #[.string n, .string v]] w fun e w' => e = .returned (.tuple #[.string (tagS n v), .int .i64 0]) ∧ Below w.heap.size w w' := by
  go_enter Tryz.func15, Tryz.ntmps15
  go_wp2_with fail
  refine (rcheck_any n v _ (by unfold maxLen; omega) (by unfold maxLen; omega)).mono ?_
  rw [hc]
  rintro e w1 ⟨rfl, hb⟩
  obtain ⟨c0, c1, hw⟩ := box2 hb
  clear hb hc
  go_wp2_with fail
  go_loop [6, 5] (fun i sv => ∃ k : Nat, k ≤ v.size ∧ i = .int .i64 k ∧ sv = .string (sK n v k)) (fun i _ => v.size - (intOf i).toNat)
  case atStart => exact ⟨0, Nat.zero_le _, rfl, by rw [sK_zero n v]⟩
  case round =>
    obtain ⟨k, hk, rfl, rfl⟩ := hrel
    have hsz := sK_size n v k
    by_cases hlt : k < v.size
    · have hb0 : 0 ≤ (v[k].toNat : Int) := by omega
      by_cases h1 : (v[k].toNat : Int) = 34
      · have HS := Lib.hid (sK_esc n v k hlt (special (Or.inl h1)))
        go_wp2
        exact ⟨⟨k + 1, by omega, by go_num, by rw [HS.out]⟩, by simp [intOf]; omega⟩
      · by_cases h2 : (v[k].toNat : Int) = 92
        · have HS := Lib.hid (sK_esc n v k hlt (special (Or.inr h2)))
          have g1 : ((v[k].toNat : Int) == 34) = false := beq_eq_false_iff_ne.2 h1
          have g2 : ((v[k].toNat : Int) == 92) = true := beq_iff_eq.2 h2
          clear h1 h2
          go_wp2
          exact ⟨⟨k + 1, by omega, by go_num, by rw [HS.out]⟩, by simp [intOf]; omega⟩
        · have HS := Lib.hid (sK_plain n v k hlt (ordinary h1 h2))
          have g1 : ((v[k].toNat : Int) == 34) = false := beq_eq_false_iff_ne.2 h1
          have g2 : ((v[k].toNat : Int) == 92) = false := beq_eq_false_iff_ne.2 h2
          clear h1 h2
          go_wp2
          exact ⟨⟨k + 1, by omega, by go_num, by rw [HS.out]⟩, by simp [intOf]; omega⟩
    · have hkv : k = v.size := by omega
      subst hkv
      have HS := Lib.hid (sK_end n v)
      go_wp2
      go_ret2
      exact ⟨ret_se HS.out, hw⟩
end Go.Proofs.YtogcepiofpmabaaGreatDoor
