/- Contracts of tag.Result, and of temporef24.Same at equal lists. -/
import Derived.Test.YtogcepiofpmabaaGreatDoorPlace
import Derived.Test.YtogcepiofpmabaaGreatDoorSort
import Derived.Laws.StructEq
import Derived.Deep.QuietTactic
import Derived.BigQuiet
import Derived.Outline
namespace Go.Proofs.YtogcepiofpmabaaGreatDoor
open Go.RowKit

/-- The result whose string this is. -/
def fr (s : ByteArray) : Nat → Nat → Int × Int
  | 0, _ => (0, 8)
  | f + 1, k => if (rs k).toList == s.toList then ((k : Int), 0) else fr s f (k + 1)
theorem fr_hit (s : ByteArray) (f k : Nat) (h : ((rs k).toList == s.toList) = true) : fr s (f + 1) k = ((k : Int), 0) := by
  unfold fr; rw [if_pos h]
theorem fr_miss (s : ByteArray) (f k : Nat) (h : ((rs k).toList == s.toList) = false) : fr s (f + 1) k = fr s f (k + 1) := by
  rw [fr]; rw [if_neg (by rw [h]; decide)]
theorem ret_ii {a b : Int × Int} (h : a = b) : Ending.returned (.tuple #[.int .i64 a.1, .int .i64 a.2]) = .returned (.tuple #[.int .i64 b.1, .int .i64 b.2]) := by rw [h]

abbrev resV : Value := .agg #[.string (rs 0), .string (rs 1), .string (rs 2), .string (rs 3)]
theorem res_index (w : World) : ∀ k : Nat, k < 4 → (Instr.index 56 resV (.int .i64 k)).run Tryz.prog w = .ok (.string (rs k)) w
  | 0, _ => by kernel_rfl
  | 1, _ => by kernel_rfl
  | 2, _ => by kernel_rfl
  | 3, _ => by kernel_rfl
  | k + 4, h => by omega

set_option maxRecDepth 100000 in
set_option maxHeartbeats 1000000 in
theorem result_any (s : ByteArray) (w : World) (hg : Glob w) :
    Calls Tryz.prog 13 #[.string s] w fun e w' => e = .returned (.tuple #[.int .i64 (fr s 4 0).1, .int .i64 (fr s 4 0).2]) ∧ w = w' := by
  have n0 := hg.res 0 (by decide)
  have n1 := hg.res 1 (by decide)
  have n2 := hg.res 2 (by decide)
  have n3 := hg.res 3 (by decide)
  clear hg
  go_enter Tryz.func13, Tryz.ntmps13
  go_wp2
  clear n0 n1 n2 n3
  go_loop [7] (fun i => ∃ k : Nat, k ≤ 4 ∧ i = .int .i64 k ∧ fr s 4 0 = fr s (4 - k) k) (fun i => 4 - (intOf i).toNat)
  case atStart => exact ⟨0, by omega, rfl, rfl⟩
  case round =>
    obtain ⟨k, hk, rfl, hp⟩ := hrel
    have HP := Lib.hid hp
    clear hp
    have hk' : k = 0 ∨ k = 1 ∨ k = 2 ∨ k = 3 ∨ k = 4 := by omega
    clear hk
    rcases hk' with rfl | rfl | rfl | rfl | rfl
    · have hi : ∀ W, (Instr.index 56 resV (.int .i64 0)).run Tryz.prog W = .ok (.string (rs 0)) W := fun W => res_index W 0 (by decide)
      go_wp2
      · go_ret2
        exact ⟨ret_ii ((fr_hit s 3 0 ‹_›)).symm, rfl⟩
      · exact ⟨⟨1, by omega, rfl, (fr_miss s 3 0 ‹_›)⟩, by simp [intOf]⟩
    · have hi : ∀ W, (Instr.index 56 resV (.int .i64 1)).run Tryz.prog W = .ok (.string (rs 1)) W := fun W => res_index W 1 (by decide)
      go_wp2
      · go_ret2
        exact ⟨ret_ii (HP.out.trans (fr_hit s 2 1 ‹_›)).symm, rfl⟩
      · exact ⟨⟨2, by omega, rfl, HP.out.trans (fr_miss s 2 1 ‹_›)⟩, by simp [intOf]⟩
    · have hi : ∀ W, (Instr.index 56 resV (.int .i64 2)).run Tryz.prog W = .ok (.string (rs 2)) W := fun W => res_index W 2 (by decide)
      go_wp2
      · go_ret2
        exact ⟨ret_ii (HP.out.trans (fr_hit s 1 2 ‹_›)).symm, rfl⟩
      · exact ⟨⟨3, by omega, rfl, HP.out.trans (fr_miss s 1 2 ‹_›)⟩, by simp [intOf]⟩
    · have hi : ∀ W, (Instr.index 56 resV (.int .i64 3)).run Tryz.prog W = .ok (.string (rs 3)) W := fun W => res_index W 3 (by decide)
      go_wp2
      · go_ret2
        exact ⟨ret_ii (HP.out.trans (fr_hit s 0 3 ‹_›)).symm, rfl⟩
      · exact ⟨⟨4, by omega, rfl, HP.out.trans (fr_miss s 0 3 ‹_›)⟩, by simp [intOf]⟩
    · go_wp2
      go_ret2
      exact ⟨ret_ii HP.out.symm, rfl⟩

theorem below_drewN' {B : Nat} {a w : World} (h : Below B a w) (q : Nat) : Below B a (w.drewN q) := ⟨h.os, h.tape, h.output, h.size, h.block⟩
/-- The row of tags, for reading. -/
def TagRead (w : World) (b o : Nat) (l : List Tag) : Prop :=
  ∀ i t, l[i]? = some t → w.cell? ⟨b, o + i * 2, none⟩ = some (.string t.1) ∧ w.cell? ⟨b, o + i * 2 + 1, none⟩ = some (.string t.2)

theorem tag_neq_same (w : World) (t : Tag) : (binOp .neq 27 (.agg #[.string t.1, .string t.2]) (.agg #[.string t.1, .string t.2])).run Tryz.prog w = .ok (.bool false) w := by
  have u9 := Tryz.underlying9
  have a9 := Tryz.isAgg9
  have z9 := Tryz.sizeOf9
  have hS : Tryz.prog.underlying 27 = some (.struct (Tryz.prog.fieldsOf 27)) := by kernel_rfl
  have hp : Tryz.prog.stoodInHeld 27 = false := by kernel_rfl
  rw [run_neq_struct, show (10000 : Nat) = 9999 + 1 from rfl, run_equalIn_agg w 9999 27 _ _ hS hp]
  simp only [Program.fieldsOf, Tryz.underlying27]
  go_simp

set_option maxRecDepth 100000 in
set_option maxHeartbeats 1000000 in
theorem same_true (l : List Tag) (b o c b' o' c' : Nat) (w : World) (h1 : TagRead w b o l) (h2 : TagRead w b' o' l) (hl : l.length ≤ maxLen) :
    Calls Tryz.prog 24 #[.slice (some ⟨b, o, none⟩) l.length c, .slice (some ⟨b', o', none⟩) l.length c'] w fun e w' => e = .returned (.bool true) ∧ Below w.heap.size w w' := by
  unfold maxLen at hl
  go_enter Tryz.func24, Tryz.ntmps24
  go_wp2
  go_loopw [5] (fun i wr => ∃ k : Nat, k ≤ l.length ∧ i = .int .i64 k ∧ ∃ q, wr = w.drewN q) (fun i _ => l.length - (intOf i).toNat)
  case atStart => exact ⟨0, by omega, rfl, 0, rfl⟩
  case round =>
    obtain ⟨k, hk, rfl, q, rfl⟩ := hrel
    by_cases hlt : k < l.length
    · obtain ⟨t, ht⟩ : ∃ t, l[k]? = some t := ⟨_, List.getElem?_eq_getElem hlt⟩
      obtain ⟨c1, c2⟩ := h1 k t ht
      obtain ⟨c3, c4⟩ := h2 k t ht
      have hne := fun W => tag_neq_same W t
      have k0 : (0 : Int) ≤ (k : Int) := by omega
      have k1 : (k : Int) < (l.length : Int) := by omega
      go_wp2
      go_quiet (fail)
      go_wp2
      exact ⟨⟨k + 1, by omega, by go_num, _, by first | rfl | exact World.drewN_drewN _ _ _ | (rw [World.drewN_drewN])⟩, by simp [intOf]; omega⟩
    · go_wp2
      go_ret
      exact ⟨rfl, below_drewN' (Below.refl _ _) q⟩

end Go.Proofs.YtogcepiofpmabaaGreatDoor
