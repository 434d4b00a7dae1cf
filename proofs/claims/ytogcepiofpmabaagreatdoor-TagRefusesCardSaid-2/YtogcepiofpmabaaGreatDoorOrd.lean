/- The order by which tags are sorted: strict, total, on names. -/
import Derived.Test.YtogcepiofpmabaaGreatDoorCmpT
import Derived.Sort.Walk0
import Derived.Lib.SlicesS
import Derived.Shelf.SlSortCmp.NoneTotal
namespace Go.Proofs.YtogcepiofpmabaaGreatDoor
open Go.RowKit Go.Sort Go.Lib

/-- A name's bytes. -/
abbrev bts (a : ByteArray) : List UInt8 := a.data.toList

theorem cmpI_neg (a b : Int) : cmpI a b < 0 ↔ a < b := by
  unfold cmpI; split
  · omega
  · split <;> omega
theorem cmpI_zero (a b : Int) : cmpI a b = 0 ↔ a = b := by
  unfold cmpI; split
  · omega
  · split <;> omega
theorem cmpS_neg (a b : ByteArray) : cmpS a b < 0 ↔ bts a < bts b := by
  unfold cmpS
  rw [Go.Proofs.bytesLess_eq, toList_data, toList_data]
  by_cases h : a.data.toList < b.data.toList
  · simp [h]
  · simp only [h, decide_false, Bool.false_eq_true, if_false]
    split <;> simp

/-- Is a name ahead of another one? -/
def tlt (a b : ByteArray) : Bool := ltOf tcmp a b
theorem tlt_iff (a b : ByteArray) : tlt a b = true ↔ plc a 7 0 < plc b 7 0 ∨ (plc a 7 0 = plc b 7 0 ∧ bts a < bts b) := by
  unfold tlt ltOf tcmp orI
  rw [decide_eq_true_iff]
  by_cases h : cmpI (plc a 7 0) (plc b 7 0) = 0
  · rw [if_pos h, cmpS_neg]
    have h' := (cmpI_zero _ _).1 h
    constructor
    · exact fun h1 => Or.inr ⟨h', h1⟩
    · rintro (h1 | h1)
      · omega
      · exact h1.2
  · rw [if_neg h, cmpI_neg]
    have h' := mt (cmpI_zero _ _).2 h
    constructor
    · exact Or.inl
    · rintro (h1 | h1)
      · exact h1
      · exact absurd h1.1 h'

theorem tlt_false (a b : ByteArray) : tlt a b = false ↔ plc b 7 0 < plc a 7 0 ∨ (plc a 7 0 = plc b 7 0 ∧ ¬ bts a < bts b) := by
  rw [← Bool.not_eq_true, tlt_iff]
  by_cases h : bts a < bts b
  · simp only [h, and_true, not_true_eq_false, and_false, or_false]; omega
  · simp only [h, and_false, or_false, not_false_eq_true, and_true]; omega

theorem tlt_swo : SWO tlt where
  irrefl x := by
    rw [tlt_false]
    exact Or.inr ⟨rfl, List.lt_irrefl _⟩
  trans x y z h1 h2 := by
    rw [tlt_iff] at *
    rcases h1 with h1 | ⟨h1, h1'⟩ <;> rcases h2 with h2 | ⟨h2, h2'⟩
    · left; omega
    · left; omega
    · left; omega
    · right; exact ⟨by omega, List.lt_trans h1' h2'⟩
  ntrans x y z h1 h2 := by
    rw [tlt_false] at *
    rcases h1 with h1 | ⟨h1, h1'⟩ <;> rcases h2 with h2 | ⟨h2, h2'⟩
    · left; omega
    · left; omega
    · left; omega
    · right; exact ⟨by omega, List.not_lt.2 (List.le_trans (List.not_lt.1 h2') (List.not_lt.1 h1'))⟩

theorem tlt_total (a b : ByteArray) (h1 : tlt a b = false) (h2 : tlt b a = false) : a = b := by
  rw [tlt_false] at *
  have h : bts a = bts b := by
    rcases h1 with h1 | ⟨h1, h1'⟩ <;> rcases h2 with h2 | ⟨h2, h2'⟩
    · omega
    · omega
    · omega
    · exact List.le_antisymm (List.not_lt.1 h2') (List.not_lt.1 h1')
  exact ByteArray.ext (Array.toList_inj.mp h)

end Go.Proofs.YtogcepiofpmabaaGreatDoor
