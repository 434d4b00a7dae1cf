/- Contracts of cmp.Compare on strings, cmp.Or, tag.place. -/
import Derived.Test.YtogcepiofpmabaaGreatDoorSmall
import Derived.Outline
namespace Go.Proofs.YtogcepiofpmabaaGreatDoor
open Go.RowKit

set_option maxHeartbeats 400000 in
theorem cmpS_any (a b : ByteArray) (w : World) :
    Calls Tryz.prog 40 #[.string a, .string b] w fun e w' => e = .returned (.int .i64 (cmpS a b)) ∧ w = w' := by
  unfold cmpS
  by_cases h1 : Op.bytesLess a.toList b.toList = true
  · go_enter Tryz.func40, Tryz.ntmps40
    go_wp2_with (go_at_call 61; refine (nanS_any _ _).mono ?_; rintro e w' ⟨rfl, rfl⟩)
    go_ret
    exact ⟨by simp, rfl⟩
  · by_cases h2 : (a.toList == b.toList) = true
    all_goals
      go_enter Tryz.func40, Tryz.ntmps40
      go_wp2_with (go_at_call 61; refine (nanS_any _ _).mono ?_; rintro e w' ⟨rfl, rfl⟩)
      all_goals (go_ret; exact ⟨by simp_all, rfl⟩)

/-- cmp.Or of two numbers. -/
def orI (a b : Int) : Int := if a = 0 then b else a
/-- cmp.Or of two strings. -/
def orS (a b : ByteArray) : ByteArray := if a.toList.isEmpty then (if b.toList.isEmpty then ⟨#[]⟩ else b) else a

set_option maxHeartbeats 400000 in
theorem orI_any (a b : Int) (w : World) (B o : Nat) (h0 : w.cell? ⟨B, o, none⟩ = some (.int .i64 a)) (h1 : w.cell? ⟨B, o + 1, none⟩ = some (.int .i64 b)) :
    Calls Tryz.prog 37 #[.slice (some ⟨B, o, none⟩) 2 2] w fun e w' => e = .returned (.int .i64 (orI a b)) ∧ w = w' := by
  unfold orI
  by_cases ha : a = 0
  · subst ha
    by_cases hb : b = 0
    · subst hb
      go_enter Tryz.func37, Tryz.ntmps37
      go_wp2
      refine wp_loop_rounds 3 ?_
      rw [rounds_succ]
      go_wp2
      rw [rounds_succ]
      go_wp2
      rw [rounds_succ]
      go_wp2
      go_ret
      exact ⟨by simp, rfl⟩
    · have hb' : (b != 0) = true := by simpa using hb
      go_enter Tryz.func37, Tryz.ntmps37
      go_wp2
      refine wp_loop_rounds 3 ?_
      rw [rounds_succ]
      go_wp2
      rw [rounds_succ]
      go_wp2
      go_ret
      exact ⟨by simp, rfl⟩
  · have ha' : (a != 0) = true := by simpa using ha
    go_enter Tryz.func37, Tryz.ntmps37
    go_wp2
    refine wp_loop_rounds 3 ?_
    rw [rounds_succ]
    go_wp2
    go_ret
    exact ⟨by simp, rfl⟩

set_option maxHeartbeats 400000 in
theorem orS_any (a b : ByteArray) (w : World) (B o : Nat) (h0 : w.cell? ⟨B, o, none⟩ = some (.string a)) (h1 : w.cell? ⟨B, o + 1, none⟩ = some (.string b)) :
    Calls Tryz.prog 33 #[.slice (some ⟨B, o, none⟩) 2 2] w fun e w' => e = .returned (.string (orS a b)) ∧ w = w' := by
  unfold orS
  by_cases ha : a.toList.isEmpty = true
  · by_cases hb : b.toList.isEmpty = true
    · go_enter Tryz.func33, Tryz.ntmps33
      go_wp2
      refine wp_loop_rounds 3 ?_
      rw [rounds_succ]
      go_wp2
      rw [rounds_succ]
      go_wp2
      rw [rounds_succ]
      go_wp2
      all_goals (go_ret; exact ⟨by simp_all, rfl⟩)
    · simp only [Bool.not_eq_true] at hb
      go_enter Tryz.func33, Tryz.ntmps33
      go_wp2
      refine wp_loop_rounds 3 ?_
      rw [rounds_succ]
      go_wp2
      rw [rounds_succ]
      go_wp2
      all_goals (go_ret; exact ⟨by simp_all, rfl⟩)
  · simp only [Bool.not_eq_true] at ha
    go_enter Tryz.func33, Tryz.ntmps33
    go_wp2
    refine wp_loop_rounds 3 ?_
    rw [rounds_succ]
    go_wp2
    all_goals (go_ret; exact ⟨by simp_all, rfl⟩)

end Go.Proofs.YtogcepiofpmabaaGreatDoor
