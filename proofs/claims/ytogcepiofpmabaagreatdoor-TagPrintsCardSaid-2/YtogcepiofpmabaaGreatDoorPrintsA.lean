/- Contract of the law TagPrints at whatever lengths. -/
import Derived.Test.YtogcepiofpmabaaGreatDoorPrints
namespace Go.Proofs.YtogcepiofpmabaaGreatDoor
open Go.RowKit Go.Lib

set_option maxRecDepth 100000 in
set_option maxHeartbeats 2000000 in
theorem prints_long (m1 m2 m3 m4 : Nat) (a1 a2 a3 a4 : Option Addr) (c1 c2 c3 c4 : Nat) (w : World) (hg : Glob w) (h : 150 < m1 ∨ 150 < m2 ∨ 150 < m3 ∨ 150 < m4) :
    Calls Tryz.prog 3 #[.agg #[.slice a1 m1 c1, .slice a2 m2 c2], .agg #[.slice a3 m3 c3, .slice a4 m4 c4]] w fun e w' => e = .returned (.bool true) ∧ Below w.heap.size w w' := by
  have hk : Keep w ((w.alloc (.cells #[.slice a1 m1 c1, .slice a2 m2 c2] 24)).alloc (.cells #[.slice a3 m3 c3, .slice a4 m4 c4] 24)) := Keep.alloc' (Keep.alloc' ⟨hg, Below.refl _ _⟩ _) _
  have HK := Lib.hid hk
  clear hk hg
  by_cases h1 : (150 : Int) < (m1 : Int)
  · clear h
    go_enter Tryz.func3, Tryz.ntmps3
    go_wp2_with fail
    refine (works_any _ HK.out.1).mono ?_
    rintro e w1 ⟨rfl, hb⟩
    have hb1 := (HK.out.below hb).2
    clear hb
    go_wp2_with fail
    go_ret
    exact ⟨rfl, hb1⟩
  by_cases h2 : (150 : Int) < (m2 : Int)
  · clear h
    go_enter Tryz.func3, Tryz.ntmps3
    go_wp2_with fail
    refine (works_any _ HK.out.1).mono ?_
    rintro e w1 ⟨rfl, hb⟩
    have hb1 := (HK.out.below hb).2
    clear hb
    go_wp2_with fail
    go_ret
    exact ⟨rfl, hb1⟩
  by_cases h3 : (150 : Int) < (m3 : Int)
  · clear h
    go_enter Tryz.func3, Tryz.ntmps3
    go_wp2_with fail
    refine (works_any _ HK.out.1).mono ?_
    rintro e w1 ⟨rfl, hb⟩
    have hb1 := (HK.out.below hb).2
    clear hb
    go_wp2_with fail
    go_ret
    exact ⟨rfl, hb1⟩
  have h4 : (150 : Int) < (m4 : Int) := by omega
  clear h
  go_enter Tryz.func3, Tryz.ntmps3
  go_wp2_with fail
  refine (works_any _ HK.out.1).mono ?_
  rintro e w1 ⟨rfl, hb⟩
  have hb1 := (HK.out.below hb).2
  clear hb
  go_wp2_with fail
  go_ret
  exact ⟨rfl, hb1⟩

theorem prints_all (l1 l2 l3 l4 : List Int) (a1 a2 a3 a4 : Option Addr) (c1 c2 c3 c4 : Nat) (w : World) (hg : Glob w) (h1 : BRead w a1 l1) (h2 : BRead w a2 l2) (h3 : BRead w a3 l3) (h4 : BRead w a4 l4) :
    Calls Tryz.prog 3 #[.agg #[.slice a1 l1.length c1, .slice a2 l2.length c2], .agg #[.slice a3 l3.length c3, .slice a4 l4.length c4]] w fun e w' => e = .returned (.bool true) ∧ Below w.heap.size w w' := by
  by_cases h : 150 < l1.length ∨ 150 < l2.length ∨ 150 < l3.length ∨ 150 < l4.length
  · exact prints_long _ _ _ _ a1 a2 a3 a4 c1 c2 c3 c4 w hg h
  · exact prints_any l1 l2 l3 l4 a1 a2 a3 a4 c1 c2 c3 c4 w hg h1 h2 h3 h4 (by omega) (by omega) (by omega) (by omega)
end Go.Proofs.YtogcepiofpmabaaGreatDoor
