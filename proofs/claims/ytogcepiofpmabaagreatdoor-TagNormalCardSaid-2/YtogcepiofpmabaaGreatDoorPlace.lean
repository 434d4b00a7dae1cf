/- Contract of tag.place. -/
import Derived.Test.YtogcepiofpmabaaGreatDoorSmall
import Derived.Outline
namespace Go.Proofs.YtogcepiofpmabaaGreatDoor
open Go.RowKit

/-- The roster's place of a name. -/
def plc (s : ByteArray) : Nat → Nat → Int
  | 0, k => k
  | f + 1, k => if (rn k).toList == s.toList then k else plc s f (k + 1)

theorem plc_hit (s : ByteArray) (f k : Nat) (h : ((rn k).toList == s.toList) = true) : plc s (f + 1) k = k := by
  unfold plc; rw [if_pos h]
theorem plc_miss (s : ByteArray) (f k : Nat) (h : ((rn k).toList == s.toList) = false) : plc s (f + 1) k = plc s f (k + 1) := by
  rw [plc]; rw [if_neg (by rw [h]; decide)]
theorem ret_i {a b : Int} (h : a = b) : Ending.returned (.int .i64 a) = .returned (.int .i64 b) := by rw [h]
/-- The roster as a value. -/
abbrev rosV : Value := .agg #[.string (rn 0), .string (rv 0), .string (rn 1), .string (rv 1), .string (rn 2), .string (rv 2), .string (rn 3), .string (rv 3), .string (rn 4), .string (rv 4), .string (rn 5), .string (rv 5), .string (rn 6), .string (rv 6)]
theorem ros_index (w : World) : ∀ k : Nat, k < 7 → (Instr.index 58 rosV (.int .i64 k)).run Tryz.prog w = .ok (.agg #[.string (rn k), .string (rv k)]) w
  | 0, _ => by kernel_rfl
  | 1, _ => by kernel_rfl
  | 2, _ => by kernel_rfl
  | 3, _ => by kernel_rfl
  | 4, _ => by kernel_rfl
  | 5, _ => by kernel_rfl
  | 6, _ => by kernel_rfl
  | k + 7, h => by omega

set_option maxRecDepth 100000 in
set_option maxHeartbeats 1000000 in
theorem place_any (s : ByteArray) (w : World) (hg : Glob w) :
    Calls Tryz.prog 39 #[.string s] w fun e w' => e = .returned (.int .i64 (plc s 7 0)) ∧ Ext w w' := by
  have n0 := hg.rosN 0 (by decide)
  have n1 := hg.rosN 1 (by decide)
  have n2 := hg.rosN 2 (by decide)
  have n3 := hg.rosN 3 (by decide)
  have n4 := hg.rosN 4 (by decide)
  have n5 := hg.rosN 5 (by decide)
  have n6 := hg.rosN 6 (by decide)
  have v0 := hg.rosV 0 (by decide)
  have v1 := hg.rosV 1 (by decide)
  have v2 := hg.rosV 2 (by decide)
  have v3 := hg.rosV 3 (by decide)
  have v4 := hg.rosV 4 (by decide)
  have v5 := hg.rosV 5 (by decide)
  have v6 := hg.rosV 6 (by decide)
  simp only [Nat.reduceMul, Nat.reduceAdd] at n0 n1 n2 n3 n4 n5 n6 v0 v1 v2 v3 v4 v5 v6
  clear hg
  go_enter Tryz.func39, Tryz.ntmps39
  go_wp2
  clear n0 n1 n2 n3 n4 n5 n6 v0 v1 v2 v3 v4 v5 v6
  go_loopw [6] (fun i wr => ∃ k : Nat, k ≤ 7 ∧ i = .int .i64 k ∧ plc s 7 0 = plc s (7 - k) k ∧ Ext w wr) (fun i _ => 7 - (intOf i).toNat)
  case atStart => exact ⟨0, by omega, rfl, rfl, Ext.refl _⟩
  case round =>
    obtain ⟨k, hk, rfl, hp, hx⟩ := hrel
    have HP := Lib.hid hp
    clear hp
    have hk' : k = 0 ∨ k = 1 ∨ k = 2 ∨ k = 3 ∨ k = 4 ∨ k = 5 ∨ k = 6 ∨ k = 7 := by omega
    clear hk
    rcases hk' with rfl | rfl | rfl | rfl | rfl | rfl | rfl | rfl
    · have hi : ∀ W, (Instr.index 58 rosV (.int .i64 0)).run Tryz.prog W = .ok (.agg #[.string (rn 0), .string (rv 0)]) W := fun W => ros_index W 0 (by decide)
      go_wp2
      · go_ret
        exact ⟨ret_i (plc_hit s 6 0 ‹_›).symm, (hx.alloc _)⟩
      · exact ⟨⟨1, by omega, rfl, plc_miss s 6 0 ‹_›, hx.alloc _⟩, by simp [intOf]⟩
    · have hi : ∀ W, (Instr.index 58 rosV (.int .i64 1)).run Tryz.prog W = .ok (.agg #[.string (rn 1), .string (rv 1)]) W := fun W => ros_index W 1 (by decide)
      go_wp2
      · go_ret
        exact ⟨ret_i (HP.out.trans (plc_hit s 5 1 ‹_›)).symm, (hx.alloc _)⟩
      · exact ⟨⟨2, by omega, rfl, HP.out.trans (plc_miss s 5 1 ‹_›), hx.alloc _⟩, by simp [intOf]⟩
    · have hi : ∀ W, (Instr.index 58 rosV (.int .i64 2)).run Tryz.prog W = .ok (.agg #[.string (rn 2), .string (rv 2)]) W := fun W => ros_index W 2 (by decide)
      go_wp2
      · go_ret
        exact ⟨ret_i (HP.out.trans (plc_hit s 4 2 ‹_›)).symm, (hx.alloc _)⟩
      · exact ⟨⟨3, by omega, rfl, HP.out.trans (plc_miss s 4 2 ‹_›), hx.alloc _⟩, by simp [intOf]⟩
    · have hi : ∀ W, (Instr.index 58 rosV (.int .i64 3)).run Tryz.prog W = .ok (.agg #[.string (rn 3), .string (rv 3)]) W := fun W => ros_index W 3 (by decide)
      go_wp2
      · go_ret
        exact ⟨ret_i (HP.out.trans (plc_hit s 3 3 ‹_›)).symm, (hx.alloc _)⟩
      · exact ⟨⟨4, by omega, rfl, HP.out.trans (plc_miss s 3 3 ‹_›), hx.alloc _⟩, by simp [intOf]⟩
    · have hi : ∀ W, (Instr.index 58 rosV (.int .i64 4)).run Tryz.prog W = .ok (.agg #[.string (rn 4), .string (rv 4)]) W := fun W => ros_index W 4 (by decide)
      go_wp2
      · go_ret
        exact ⟨ret_i (HP.out.trans (plc_hit s 2 4 ‹_›)).symm, (hx.alloc _)⟩
      · exact ⟨⟨5, by omega, rfl, HP.out.trans (plc_miss s 2 4 ‹_›), hx.alloc _⟩, by simp [intOf]⟩
    · have hi : ∀ W, (Instr.index 58 rosV (.int .i64 5)).run Tryz.prog W = .ok (.agg #[.string (rn 5), .string (rv 5)]) W := fun W => ros_index W 5 (by decide)
      go_wp2
      · go_ret
        exact ⟨ret_i (HP.out.trans (plc_hit s 1 5 ‹_›)).symm, (hx.alloc _)⟩
      · exact ⟨⟨6, by omega, rfl, HP.out.trans (plc_miss s 1 5 ‹_›), hx.alloc _⟩, by simp [intOf]⟩
    · have hi : ∀ W, (Instr.index 58 rosV (.int .i64 6)).run Tryz.prog W = .ok (.agg #[.string (rn 6), .string (rv 6)]) W := fun W => ros_index W 6 (by decide)
      go_wp2
      · go_ret
        exact ⟨ret_i (HP.out.trans (plc_hit s 0 6 ‹_›)).symm, (hx.alloc _)⟩
      · exact ⟨⟨7, by omega, rfl, HP.out.trans (plc_miss s 0 6 ‹_›), hx.alloc _⟩, by simp [intOf]⟩
    · go_wp2
      go_ret
      exact ⟨ret_i HP.out.symm, hx⟩

end Go.Proofs.YtogcepiofpmabaaGreatDoor
