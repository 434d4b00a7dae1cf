/- Contracts of the small functions that TagOnes calls. -/
import Derived.Test.YtogcepiofpmabaaGreatDoorRPrint
import Derived.Test.YtogcepiofpmabaaGreatDoorWorks
import Derived.Outline
namespace Go.Proofs.YtogcepiofpmabaaGreatDoor
open Go.RowKit Go.Lib

/-- Are both strings short? -/
def fewB (n v : ByteArray) : Bool := decide (n.size ≤ 300) && decide (v.size ≤ 300)
set_option maxHeartbeats 1000000 in
theorem few_one (n v : ByteArray) (b c : Nat) (w : World) (c1 : w.cell? ⟨b, 0, none⟩ = some (.string n)) (c2 : w.cell? ⟨b, 1, none⟩ = some (.string v)) :
    Calls Tryz.prog 14 #[.slice (some ⟨b, 0, none⟩) 1 c] w fun e w' => e = .returned (.bool (fewB n v)) ∧ w' = w := by
  unfold fewB
  by_cases h1 : (300 : Int) < (n.size : Int)
  · have e1 : decide (n.size ≤ 300) = false := decide_eq_false (by omega)
    rw [e1]
    go_enter Tryz.func14, Tryz.ntmps14
    go_wp2
    refine wp_loop_rounds 2 ?_
    rw [rounds_succ]
    go_wp2
    go_ret
    exact ⟨rfl, rfl⟩
  · have e1 : decide (n.size ≤ 300) = true := decide_eq_true (by omega)
    rw [e1]
    by_cases h2 : (300 : Int) < (v.size : Int)
    · have e2 : decide (v.size ≤ 300) = false := decide_eq_false (by omega)
      rw [e2]
      go_enter Tryz.func14, Tryz.ntmps14
      go_wp2
      refine wp_loop_rounds 2 ?_
      rw [rounds_succ]
      go_wp2
      go_ret
      exact ⟨rfl, rfl⟩
    · have e2 : decide (v.size ≤ 300) = true := decide_eq_true (by omega)
      rw [e2]
      go_enter Tryz.func14, Tryz.ntmps14
      go_wp2
      refine wp_loop_rounds 2 ?_
      rw [rounds_succ]
      go_wp2
      rw [rounds_succ]
      go_wp2
      go_ret
      exact ⟨rfl, rfl⟩

/-- The block of the reference's four strings. -/
abbrev wordsO : Obj := .cells #[.string ⟨#[42]⟩, .string ⟨#[49, 45, 48]⟩, .string ⟨#[48, 45, 49]⟩, .string ⟨#[49, 47, 50, 45, 49, 47, 50]⟩] 9
set_option maxHeartbeats 1000000 in
theorem rwords_any (w : World) :
    Calls Tryz.prog 28 #[] w fun e w' => e = .returned (.slice (some ⟨w.heap.size, 0, none⟩) 4 4) ∧ w' = w.alloc wordsO := by
  go_enter Tryz.func28, Tryz.ntmps28
  go_wp2
  go_ret
  exact ⟨rfl, rfl⟩
set_option maxHeartbeats 1000000 in
theorem rword_bad (n : Int) (w : World) (h : n < 0 ∨ 4 ≤ n) :
    Calls Tryz.prog 16 #[.int .i64 n] w fun e w' => e = .returned (.tuple #[.string ⟨#[]⟩, .int .i64 3]) ∧ w' = w := by
  rcases h with h | h
  · go_enter Tryz.func16, Tryz.ntmps16
    go_wp2
    go_ret2
    exact ⟨rfl, rfl⟩
  · have h1 : ¬ n < 0 := by omega
    have h2 : (3 : Int) < n := by omega
    go_enter Tryz.func16, Tryz.ntmps16
    go_wp2
    go_ret2
    exact ⟨rfl, rfl⟩
set_option maxHeartbeats 1000000 in
theorem rword_ok (n : Nat) (w : World) (h : n < 4) :
    Calls Tryz.prog 16 #[.int .i64 n] w fun e w' => e = .returned (.tuple #[.string (rs n), .int .i64 0]) ∧ Below w.heap.size w w' := by
  have hbw : Below w.heap.size w (w.alloc wordsO) := (Below.refl _ _).alloc (Nat.le_refl _) _
  rcases (show n = 0 ∨ n = 1 ∨ n = 2 ∨ n = 3 by omega) with rfl | rfl | rfl | rfl <;>
  · go_enter Tryz.func16, Tryz.ntmps16
    go_wp2_with (go_at_call 28; refine (rwords_any _).mono ?_; rintro e w' ⟨rfl, rfl⟩)
    go_ret2
    exact ⟨rfl, hbw⟩
end Go.Proofs.YtogcepiofpmabaaGreatDoor
