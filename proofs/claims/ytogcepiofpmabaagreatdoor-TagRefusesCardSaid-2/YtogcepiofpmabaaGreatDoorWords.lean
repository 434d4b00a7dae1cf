/- Contract of the law TagWords. -/
import Derived.Test.YtogcepiofpmabaaGreatDoorWorks
namespace Go.Proofs.YtogcepiofpmabaaGreatDoor
open Go.RowKit Go.Lib

theorem ret_nb {b : Bool} (h : b = false) : Ending.returned (.bool !b) = .returned (.bool true) := by rw [h]; rfl
theorem fr_rs : ∀ k, k < 4 → fr (rs k) 4 0 = ((k : Int), 0)
  | 0, _ => by kernel_rfl
  | 1, _ => by kernel_rfl
  | 2, _ => by kernel_rfl
  | 3, _ => by kernel_rfl
  | k + 4, h => absurd h (by omega)
theorem eq_of_bytes {a b : ByteArray} (h : (a.toList == b.toList) = true) : a = b := by
  have := eq_of_beq h
  rw [toList_data, toList_data] at this
  exact ByteArray.ext (Array.toList_inj.mp this)
theorem fr_cases (s : ByteArray) : (∃ k, k < 4 ∧ s = rs k ∧ fr s 4 0 = ((k : Int), 0)) ∨ ((∀ k, k < 4 → s ≠ rs k) ∧ fr s 4 0 = (0, 8)) := by
  by_cases h : ∃ k, k < 4 ∧ s = rs k
  · obtain ⟨k, hk, rfl⟩ := h
    exact Or.inl ⟨k, hk, rfl, fr_rs k hk⟩
  · refine Or.inr ⟨fun k hk e => h ⟨k, hk, e⟩, ?_⟩
    have key : ∀ k, k < 4 → ((rs k).toList == s.toList) = false := fun k hk => by
      rw [← Bool.not_eq_true]
      exact fun e => h ⟨k, hk, (eq_of_bytes e).symm⟩
    rw [fr_miss _ _ _ (key 0 (by decide)), fr_miss _ _ _ (key 1 (by decide)), fr_miss _ _ _ (key 2 (by decide)), fr_miss _ _ _ (key 3 (by decide))]
    rfl

theorem conv_i64 (n : Int) (h : 0 ≤ n) (h2 : n < 256) (w : World) : (convert 5 3 (.int .u8 n)).run Tryz.prog w = .ok (.int .i64 n) w := by
  have e : Tryz.prog.intKind 3 = .i64 := by kernel_rfl
  have h3 := @run_convert_int Tryz.prog w 5 3 .u8 n (by rw [Tryz.underlying5]; rfl) (by rw [e]; exact Tryz.underlying3)
  rw [e] at h3
  rw [h3]
  have e4 : IntKind.wrap .i64 n = n := by simp [IntKind.wrap, IntKind.bits, IntKind.signed]; omega
  rw [e4]

set_option maxRecDepth 100000 in
set_option maxHeartbeats 1000000 in
theorem words_any (r : Int) (s : ByteArray) (w : World) (hg : Glob w) (hr : 0 ≤ r) (hr2 : r < 256) :
    Calls Tryz.prog 4 #[.int .u8 r, .string s] w fun e w' => e = .returned (.bool true) ∧ Below w.heap.size w w' := by
  by_cases h1 : s.size ≤ 100
  · obtain ⟨m, hm, hk⟩ : ∃ m : Nat, r % 4 = (m : Int) ∧ m < 4 := ⟨(r % 4).toNat, by omega, by omega⟩
    have hcv := conv_i64 (m : Int) (by omega) (by omega) w
    go_enter Tryz.func4, Tryz.ntmps4
    go_wp2_with fail
    refine (word_ok m w hk hg).mono ?_
    rintro e w' ⟨rfl, rfl⟩
    go_wp2_with fail
    refine (result_any (rs m) w hg).mono ?_
    rw [fr_rs _ hk]
    rintro e w' ⟨rfl, rfl⟩
    go_wp2_with fail
    refine (result_any s w hg).mono ?_
    rcases fr_cases s with ⟨y, hy, rfl, e⟩ | ⟨hno, e⟩
    · rw [e]
      rintro e w' ⟨rfl, rfl⟩
      go_wp2_with fail
      refine (word_ok y w hy hg).mono ?_
      rintro e w' ⟨rfl, rfl⟩
      go_wp2_with fail
      refine (works_any w hg).mono ?_
      rintro e w' ⟨rfl, hb⟩
      go_wp2_with fail
      go_ret
      exact ⟨rfl, hb⟩
    · rw [e]
      have hn : ¬ s.toList = (rs m).toList := fun e => hno m hk (eq_of_bytes (beq_iff_eq.2 e))
      rintro e w' ⟨rfl, rfl⟩
      go_wp2_with fail
      refine (works_any w hg).mono ?_
      rintro e w' ⟨rfl, hb⟩
      go_wp2_with fail
      go_ret
      exact ⟨ret_nb (beq_eq_false_iff_ne.2 hn), hb⟩
  · go_enter Tryz.func4, Tryz.ntmps4
    go_wp2_with fail
    refine (works_any w hg).mono ?_
    rintro e w' ⟨rfl, hb⟩
    go_wp2_with fail
    go_ret
    exact ⟨rfl, hb⟩
end Go.Proofs.YtogcepiofpmabaaGreatDoor
