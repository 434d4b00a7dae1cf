/- Contracts of tag.printable and tag.Check. -/
import Derived.Test.YtogcepiofpmabaaGreatDoorName
import Derived.Test.YtogcepiofpmabaaGreatDoorLay
import Derived.Outline
namespace Go.Proofs.YtogcepiofpmabaaGreatDoor
open Go.RowKit Go.Lib Go.Shelf

/-- Is a rune no printable ASCII character? -/
def oddR (r : Nat) : Bool := decide ((r : Int) < 32) || decide (126 < (r : Int))
/-- Has a string printable ASCII characters alone? -/
def printB (s : ByteArray) : Bool := !decide (0 ≤ Lib.idxFunc oddR true s)

theorem odd_pred (w : World) : PredAt Tryz.prog 44 #[] encR oddR w := fun W r _ => by
  unfold FnGives
  exact (print1_any (r : Int) W).mono fun e w' ⟨he, hw⟩ => ⟨he, 0, hw.symm⟩

set_option maxHeartbeats 400000 in
theorem printable_any (s : ByteArray) (w : World) :
    Calls Tryz.prog 27 #[.string s] w fun e w' => e = .returned (.bool (printB s)) ∧ Below w.heap.size w w' := by
  have eg : ∀ args w, (callFunc 44 args).run Tryz.prog w = .ok (.enter 44 args) w := enters_of Tryz.func44 (by kernel_rfl) rfl
  have hcon := Tryz.strings_ContainsFunc 44 #[] eg oddR s w (odd_pred w)
  unfold printB
  generalize decide (0 ≤ Lib.idxFunc oddR true s) = r at hcon ⊢
  go_enter Tryz.func27, Tryz.ntmps27
  go_wp2_with (go_at_call 43; refine hcon.mono ?_; rintro e w' ⟨rfl, hb⟩)
  go_ret
  exact ⟨rfl, hb⟩

/-- The error of a tag. -/
def checkE (n v : ByteArray) : Int := if nameB n && printB v then (if 32 < n.size ∨ 120 < v.size then 9 else 0) else 2

theorem box_below0 {w w1 : World} {o : Obj} (hb : Below (w.alloc o).heap.size (w.alloc o) w1) : Below w.heap.size w w1 :=
  ((Below.refl _ _).alloc (Nat.le_refl _) _).trans (hb.mono (by simp))
theorem box2 {w w1 : World} {T : TypeId} {a b : Value} (hb : Below (w.alloc (.cells #[a, b] T)).heap.size (w.alloc (.cells #[a, b] T)) w1) :
    w1.cell? ⟨w.heap.size, 0, none⟩ = some a ∧ w1.cell? ⟨w.heap.size, 1, none⟩ = some b ∧ Below w.heap.size w w1 := by
  refine ⟨?_, ?_, ((Below.refl _ _).alloc (Nat.le_refl _) _).trans (hb.mono (by simp))⟩
  · rw [hb.cell (p := ⟨w.heap.size, 0, none⟩) (by simp)]; simp
  · rw [hb.cell (p := ⟨w.heap.size, 1, none⟩) (by simp)]; simp

set_option maxRecDepth 100000 in
set_option maxHeartbeats 2000000 in
theorem check_any (n v : ByteArray) (w : World) (hn : n.size ≤ maxLen) (hv : v.size ≤ maxLen) :
    Calls Tryz.prog 11 #[.agg #[.string n, .string v]] w fun e w' => e = .returned (.int .i64 (checkE n v)) ∧ Below w.heap.size w w' := by
  have hn' := hn
  unfold maxLen at hn' hv
  have hend : ∀ w1, Below w.heap.size w w1 → Below w.heap.size w w1 := fun _ h => h
  by_cases h1 : nameB n = true
  · by_cases h2 : printB v = true
    · by_cases h3 : (32 : Int) < (n.size : Int)
      · have HE : Hid (checkE n v = 9) := Lib.hid (by unfold checkE; rw [h1, h2]; simp; omega)
        go_enter Tryz.func11, Tryz.ntmps11
        go_wp2_with (first | (go_at_call 26; refine (name_any _ _ hn).mono ?_; rintro e w' ⟨rfl, rfl⟩) | (go_at_call 27; refine (printable_any _ _).mono ?_; rintro e w' ⟨rfl, hb⟩; obtain ⟨c0, c1, hw⟩ := box2 hb; clear hb))
        go_ret
        exact ⟨by rw [HE.out]; rfl, hw⟩
      · by_cases h4 : (120 : Int) < (v.size : Int)
        · have HE : Hid (checkE n v = 9) := Lib.hid (by unfold checkE; rw [h1, h2]; simp; omega)
          go_enter Tryz.func11, Tryz.ntmps11
          go_wp2_with (first | (go_at_call 26; refine (name_any _ _ hn).mono ?_; rintro e w' ⟨rfl, rfl⟩) | (go_at_call 27; refine (printable_any _ _).mono ?_; rintro e w' ⟨rfl, hb⟩; obtain ⟨c0, c1, hw⟩ := box2 hb; clear hb))
          go_ret
          exact ⟨by rw [HE.out]; rfl, hw⟩
        · have HE : Hid (checkE n v = 0) := Lib.hid (by unfold checkE; rw [h1, h2]; simp; omega)
          go_enter Tryz.func11, Tryz.ntmps11
          go_wp2_with (first | (go_at_call 26; refine (name_any _ _ hn).mono ?_; rintro e w' ⟨rfl, rfl⟩) | (go_at_call 27; refine (printable_any _ _).mono ?_; rintro e w' ⟨rfl, hb⟩; obtain ⟨c0, c1, hw⟩ := box2 hb; clear hb))
          go_ret
          exact ⟨by rw [HE.out]; rfl, hw⟩
    · simp only [Bool.not_eq_true] at h2
      have HE : Hid (checkE n v = 2) := Lib.hid (by unfold checkE; rw [h1, h2]; simp)
      go_enter Tryz.func11, Tryz.ntmps11
      go_wp2_with (first | (go_at_call 26; refine (name_any _ _ hn).mono ?_; rintro e w' ⟨rfl, rfl⟩) | (go_at_call 27; refine (printable_any _ _).mono ?_; rintro e w' ⟨rfl, hb⟩; obtain ⟨c0, c1, hw⟩ := box2 hb; clear hb))
      go_ret
      exact ⟨by rw [HE.out]; rfl, hw⟩
  · simp only [Bool.not_eq_true] at h1
    have HE : Hid (checkE n v = 2) := Lib.hid (by unfold checkE; rw [h1]; simp)
    go_enter Tryz.func11, Tryz.ntmps11
    go_wp2_with (first | (go_at_call 26; refine (name_any _ _ hn).mono ?_; rintro e w' ⟨rfl, rfl⟩) | (go_at_call 27; refine (printable_any _ _).mono ?_; rintro e w' ⟨rfl, hb⟩; obtain ⟨c0, c1, hw⟩ := box2 hb; clear hb))
    go_ret
    exact ⟨by rw [HE.out]; rfl, (Below.refl _ _).alloc (Nat.le_refl _) _⟩
end Go.Proofs.YtogcepiofpmabaaGreatDoor
