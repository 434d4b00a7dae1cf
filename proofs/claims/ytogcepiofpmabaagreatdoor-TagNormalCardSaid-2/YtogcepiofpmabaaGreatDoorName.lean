/- Contract of tag.name. -/
import Derived.Test.YtogcepiofpmabaaGreatDoorSmall
import Derived.Lib.Strings
import Derived.Outline
namespace Go.Proofs.YtogcepiofpmabaaGreatDoor
open Go.RowKit

/-- May this character stand at this place of a name? -/
def okC (i : Nat) (c : Int) : Bool := letB c || (decide (i ≠ 0) && ((decide (48 ≤ c) && decide (c ≤ 57)) || decide (c = 95)))
/-- A string's byte. -/
def byt (s : ByteArray) (i : Nat) : Int := ((s.data.toList.getD i 0).toNat : Int)
/-- Has a string the form of a name? -/
def nameB (s : ByteArray) : Bool := ((List.range s.size).all fun i => okC i (byt s i)) && decide (0 < s.size)

theorem byt_eq (s : ByteArray) (k : Nat) (h : k < s.size) : (s[k].toNat : Int) = byt s k := by
  unfold byt
  have h' : k < s.data.toList.length := by simpa using h
  rw [List.getD_eq_getElem?_getD, List.getElem?_eq_getElem h']
  rfl

theorem nameB_bad (s : ByteArray) (k : Nat) (h : k < s.size) (hc : okC k (byt s k) = false) : nameB s = false := by
  unfold nameB
  rw [Bool.and_eq_false_iff]
  left
  rw [List.all_eq_false]
  exact ⟨k, List.mem_range.2 h, by rw [hc]; decide⟩
theorem nameB_good (s : ByteArray) (h : ∀ j, j < s.size → okC j (byt s j) = true) (h0 : 0 < s.size) : nameB s = true := by
  unfold nameB
  rw [Bool.and_eq_true]
  exact ⟨List.all_eq_true.2 fun j hj => h j (List.mem_range.1 hj), by simpa using h0⟩
theorem nameB_none (s : ByteArray) (h : s.size = 0) : nameB s = false := by
  unfold nameB; simp [h]

theorem empty_toList (s : ByteArray) (h : s.size = 0) : s.toList.isEmpty = true := by
  rw [Lib.toList_data, List.isEmpty_iff]
  apply List.eq_nil_of_length_eq_zero
  rw [← Lib.size_eq]; exact h
theorem nonempty_toList (s : ByteArray) (h : 0 < s.size) : s.toList.isEmpty = false := by
  rw [Lib.toList_data, ← Bool.not_eq_true, List.isEmpty_iff]
  intro e
  rw [Lib.size_eq, e] at h
  exact absurd h (by decide)
/-- All characters ahead of a place are good. -/
def goodTo (s : ByteArray) (k : Nat) : Prop := ∀ j, j < k → okC j (byt s j) = true
theorem goodTo_zero (s : ByteArray) : goodTo s 0 := fun j h => absurd h (Nat.not_lt_zero j)
theorem goodTo_succ {s : ByteArray} {k : Nat} (h : goodTo s k) (hk : okC k (byt s k) = true) : goodTo s (k + 1) := fun j hj => by
  rcases Nat.lt_succ_iff_lt_or_eq.1 hj with h' | rfl
  · exact h j h'
  · exact hk

set_option maxRecDepth 100000 in
set_option maxHeartbeats 2000000 in
theorem name_any (s : ByteArray) (w : World) (hs : s.size ≤ maxLen) :
    Calls Tryz.prog 26 #[.string s] w fun e w' => e = .returned (.bool (nameB s)) ∧ w = w' := by
  unfold maxLen at hs
  go_enter Tryz.func26, Tryz.ntmps26
  go_wp2
  go_loop [7] (fun i => ∃ k : Nat, k ≤ s.size ∧ i = .int .i64 k ∧ goodTo s k) (fun i => s.size - (intOf i).toNat)
  case atStart => exact ⟨0, Nat.zero_le _, rfl, goodTo_zero s⟩
  case round =>
    obtain ⟨k, hk, rfl, hgood⟩ := hrel
    by_cases hlt : k < s.size
    · have HC := Lib.hid (byt_eq s k hlt)
      have hb0 : 0 ≤ (s[k].toNat : Int) := by omega
      have hb1 : (s[k].toNat : Int) < 256 := by have := s[k].toNat_lt; omega
      by_cases hl : letB (s[k].toNat : Int) = true
      · have HG := Lib.hid (goodTo_succ hgood (by rw [← byt_eq s k hlt]; unfold okC; rw [hl]; rfl))
        clear hgood
        go_wp2_with (go_at_call 42; refine (letter_any _ _).mono ?_; rintro e w' ⟨rfl, rfl⟩)
        exact ⟨⟨k + 1, by omega, by go_num, HG.out⟩, by simp [intOf]; omega⟩
      · simp only [Bool.not_eq_true] at hl
        by_cases h0 : k = 0
        · subst h0
          have HB := Lib.hid (nameB_bad s 0 hlt (by rw [← byt_eq s 0 hlt]; unfold okC; rw [hl]; rfl))
          clear hgood
          go_wp2_with (go_at_call 42; refine (letter_any _ _).mono ?_; rintro e w' ⟨rfl, rfl⟩)
          go_ret
          exact ⟨by rw [HB.out]; rfl, rfl⟩
        · have hz : (((k : Nat) : Int) == 0) = false := beq_eq_false_iff_ne.2 (by omega)
          by_cases h1 : (s[k].toNat : Int) < 48
          · have HB := Lib.hid (nameB_bad s k hlt (by rw [← byt_eq s k hlt]; unfold okC; rw [hl]; simp; omega))
            have h2 : ((s[k].toNat : Int) != 95) = true := by rw [bne_iff_ne]; omega
            clear hgood
            go_wp2_with (go_at_call 42; refine (letter_any _ _).mono ?_; rintro e w' ⟨rfl, rfl⟩)
            go_ret
            exact ⟨by rw [HB.out]; rfl, rfl⟩
          · by_cases h2 : 57 < (s[k].toNat : Int)
            · by_cases h3 : (s[k].toNat : Int) = 95
              · have h4 : ((s[k].toNat : Int) != 95) = false := by rw [bne_eq_false_iff_eq]; exact h3
                have HG := Lib.hid (goodTo_succ hgood (by rw [← byt_eq s k hlt]; unfold okC; rw [hl]; simp; omega))
                clear hgood h3
                go_wp2_with (go_at_call 42; refine (letter_any _ _).mono ?_; rintro e w' ⟨rfl, rfl⟩)
                exact ⟨⟨k + 1, by omega, by go_num, HG.out⟩, by simp [intOf]; omega⟩
              · have h4 : ((s[k].toNat : Int) != 95) = true := by rw [bne_iff_ne]; exact h3
                have HB := Lib.hid (nameB_bad s k hlt (by rw [← byt_eq s k hlt]; unfold okC; rw [hl]; simp; omega))
                clear hgood h3
                go_wp2_with (go_at_call 42; refine (letter_any _ _).mono ?_; rintro e w' ⟨rfl, rfl⟩)
                go_ret
                exact ⟨by rw [HB.out]; rfl, rfl⟩
            · have HG := Lib.hid (goodTo_succ hgood (by rw [← byt_eq s k hlt]; unfold okC; rw [hl]; simp; omega))
              clear hgood
              go_wp2_with (go_at_call 42; refine (letter_any _ _).mono ?_; rintro e w' ⟨rfl, rfl⟩)
              exact ⟨⟨k + 1, by omega, by go_num, HG.out⟩, by simp [intOf]; omega⟩
    · by_cases h0 : s.size = 0
      · have HB := Lib.hid (nameB_none s h0)
        have he := empty_toList s h0
        have H0 := Lib.hid h0
        clear hgood h0
        go_wp2
        go_ret
        exact ⟨by rw [HB.out]; rfl, rfl⟩
      · have he := nonempty_toList s (by omega)
        have HB := Lib.hid (nameB_good s (fun j hj => hgood j (by omega)) (by omega))
        clear hgood
        go_wp2
        go_ret
        exact ⟨by rw [HB.out]; rfl, rfl⟩
end Go.Proofs.YtogcepiofpmabaaGreatDoor
