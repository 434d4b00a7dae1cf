/- Contract of tag.Print. -/
import Derived.Test.YtogcepiofpmabaaGreatDoorCheck
import Derived.Test.YtogcepiofpmabaaGreatDoorEsc
namespace Go.Proofs.YtogcepiofpmabaaGreatDoor
open Go.RowKit Go.Lib

set_option maxRecDepth 100000 in
set_option maxHeartbeats 1000000 in
theorem print_bad (n v : ByteArray) (w : World) (hn : n.size ≤ maxLen) (hv : v.size ≤ maxLen) (hc : (checkE n v != 0) = true) :
    Calls Tryz.prog 10 #[.agg #[.string n, .string v]] w fun e w' => e = .returned (.tuple #[.string ⟨#[]⟩, .int .i64 (checkE n v)]) ∧ Below w.heap.size w w' := by
  go_enter Tryz.func10, Tryz.ntmps10
  go_wp2_with (go_at_call 11; refine (check_any n v _ hn hv).mono ?_; rintro e w' ⟨rfl, hb⟩)
  go_ret2
  exact ⟨rfl, box_below0 hb⟩

/-- The string of a tag. -/
def tagS (n v : ByteArray) : ByteArray := ⟨#[91]⟩ ++ n ++ ⟨#[32, 34]⟩ ++ escB v ++ ⟨#[34, 93]⟩
theorem repA_any (v : ByteArray) (w : World) (hg : Glob w) (hv : v.size ≤ 1000) :
    Calls Tryz.prog 25 #[.string v, .string ⟨#[92]⟩, .string ⟨#[92, 92]⟩] w fun e w' => e = .returned (.string (escA v)) ∧ Below w.heap.size w w' := by
  obtain ⟨m, hm⟩ := hg.maxl
  have h2 := Lib.countB_le ⟨#[92]⟩ (by decide) v.size v (Nat.le_refl _)
  have e2 : (ByteArray.mk #[92, 92]).size = 2 := rfl
  exact Tryz.strings_ReplaceAll v ⟨#[92]⟩ ⟨#[92, 92]⟩ m w (by omega) hm (by decide) (by rw [e2]; omega)
theorem repB_any (v : ByteArray) (w : World) (hg : Glob w) (hv : v.size ≤ 1000) :
    Calls Tryz.prog 25 #[.string (escA v), .string ⟨#[34]⟩, .string ⟨#[92, 34]⟩] w fun e w' => e = .returned (.string (escB v)) ∧ Below w.heap.size w w' := by
  obtain ⟨m, hm⟩ := hg.maxl
  have h1 := escA_size v
  have h2 := Lib.countB_le ⟨#[34]⟩ (by decide) (escA v).size (escA v) (Nat.le_refl _)
  have e2 : (ByteArray.mk #[92, 34]).size = 2 := rfl
  rw [← escB_eq]
  exact Tryz.strings_ReplaceAll (escA v) ⟨#[34]⟩ ⟨#[92, 34]⟩ m w (by omega) hm (by decide) (by rw [e2]; omega)

set_option maxRecDepth 100000 in
set_option maxHeartbeats 1000000 in
theorem print_ok (n v : ByteArray) (w : World) (hg : Glob w) (hn : n.size ≤ 1000) (hv : v.size ≤ 1000) (hc : checkE n v = 0) :
    Calls Tryz.prog 10 #[.agg #[.string n, .string v]] w fun e w' => e = .returned (.tuple #[.string (tagS n v), .int .i64 0]) ∧ Below w.heap.size w w' := by
  have hB := escB_size v
  go_enter Tryz.func10, Tryz.ntmps10
  go_wp2_with fail
  refine (check_any n v _ (by unfold maxLen; omega) (by unfold maxLen; omega)).mono ?_
  rw [hc]
  rintro e w1 ⟨rfl, hb⟩
  obtain ⟨c0, c1, hw⟩ := box2 hb
  clear hb
  go_wp2_with fail
  refine (repA_any v w1 (hg.below hw) hv).mono ?_
  rintro e w2 ⟨rfl, hb2⟩
  replace c0 := cell_later hb2 c0
  replace c1 := cell_later hb2 c1
  replace hw := hw.trans (hb2.mono hw.size)
  go_wp2_with fail
  refine (repB_any v w2 (hg.below hw) hv).mono ?_
  rintro e w3 ⟨rfl, hb3⟩
  replace c0 := cell_later hb3 c0
  replace c1 := cell_later hb3 c1
  replace hw := hw.trans (hb3.mono hw.size)
  go_wp2_with fail
  go_ret2
  exact ⟨rfl, hw⟩
end Go.Proofs.YtogcepiofpmabaaGreatDoor
