/- Contract of the law TagNormal at whatever lengths. -/
import Derived.Test.YtogcepiofpmabaaGreatDoorNormW
namespace Go.Proofs.YtogcepiofpmabaaGreatDoor
open Go.RowKit Go.Lib Go.Maps

/-- The first tags are short. -/
theorem short_more {l : List Wd} {k : Nat} {x : Wd} (h : Short (l.take k)) (hx : l[k]? = some x) (h1 : x.l1.length ≤ 150) (h2 : x.l2.length ≤ 150) : Short (l.take (k + 1)) := fun y hy => by
  rw [List.take_add_one, hx] at hy
  rcases List.mem_append.1 hy with hy | hy
  · exact h y hy
  · obtain rfl : y = x := by simpa using hy
    exact ⟨h1, h2⟩

set_option maxRecDepth 100000 in
set_option maxHeartbeats 2000000 in
theorem norml_none (l : List Wd) (a : Option Addr) (c : Nat) (given result turn : Int) (w : World) (hg : Glob w) (h : 20 < l.length) :
    Calls Tryz.prog 7 #[.slice a l.length c, .int .u8 given, .int .u8 result, .int .u8 turn] w fun e w' => e = .returned (.bool true) ∧ Below w.heap.size w w' := by
  have n20 : (20 : Int) < (l.length : Int) := by omega
  go_enter Tryz.func7, Tryz.ntmps7
  go_wp2_with fail
  go_fit (works_any _ hg)
  rintro e w1 ⟨rfl, hb⟩
  go_wp2_with fail
  go_ret
  exact ⟨rfl, hb⟩

set_option maxRecDepth 100000 in
set_option maxHeartbeats 4000000 in
theorem norml_long (l : List Wd) (a : Option Addr) (c : Nat) (given result turn : Int) (w : World) (hg : Glob w) (hr : WRead w a l) (h20 : l.length ≤ 20) (hs : ¬ Short l) :
    Calls Tryz.prog 7 #[.slice a l.length c, .int .u8 given, .int .u8 result, .int .u8 turn] w fun e w' => e = .returned (.bool true) ∧ Below w.heap.size w w' := by
  have n20 : ¬ (20 : Int) < (l.length : Int) := by omega
  go_enter Tryz.func7, Tryz.ntmps7
  go_wp2
  clear n20
  go_loopw [9] (fun i wr => ∃ k : Nat, k ≤ l.length ∧ i = .int .i64 k ∧ w = wr ∧ Short (l.take k)) (fun i _ => l.length - (intOf i).toNat)
  case atStart => exact ⟨0, by omega, rfl, rfl, fun x hx => by simp at hx⟩
  case round =>
    obtain ⟨k, hk, rfl, rfl, hsk⟩ := hrel
    by_cases hk1 : k < l.length
    · obtain ⟨x, hx⟩ : ∃ x, l[k]? = some x := ⟨_, List.getElem?_eq_getElem hk1⟩
      obtain ⟨p, e, hc⟩ := hr.2 (fun e => by rw [e] at hk1; exact absurd hk1 (Nat.not_lt_zero _))
      subst e
      obtain ⟨d1, d2⟩ := hc k x hx
      have d2' : w.cell? ⟨(p.add (k * 2)).block, (p.add (k * 2)).off + 1, none⟩ = some (.slice x.a2 x.l2.length x.c2) := d2
      have k0 : (0 : Int) ≤ (k : Int) := by omega
      have k1 : (k : Int) < (l.length : Int) := by omega
      by_cases s3 : (150 : Int) < (x.l1.length : Int)
      · clear hr hc hx hs hsk
        go_wp2_with fail
        go_fit (works_any _ hg)
        rintro e w1 ⟨rfl, hb⟩
        go_wp2_with fail
        go_ret
        exact ⟨rfl, hb⟩
      · by_cases s4 : (150 : Int) < (x.l2.length : Int)
        · clear hr hc hx hs hsk
          go_wp2_with fail
          go_fit (works_any _ hg)
          rintro e w1 ⟨rfl, hb⟩
          go_wp2_with fail
          go_ret
          exact ⟨rfl, hb⟩
        · have HS := Lib.hid (short_more hsk hx (by omega) (by omega))
          clear hr hc hx hs hsk
          go_wp2
          exact ⟨⟨k + 1, by omega, by go_num, trivial, HS.out⟩, by simp [intOf]; omega⟩
    · rw [List.take_of_length_le (by omega)] at hsk
      exact absurd hsk hs

theorem norml_all (l : List Wd) (a : Option Addr) (c : Nat) (given result turn : Int) (w : World) (hg : Glob w) (hr : WRead w a l) (hgv : 0 ≤ given ∧ given < 256) (hres : 0 ≤ result ∧ result < 256) (htn : 0 ≤ turn ∧ turn < 256) :
    Calls Tryz.prog 7 #[.slice a l.length c, .int .u8 given, .int .u8 result, .int .u8 turn] w fun e w' => e = .returned (.bool true) ∧ Below w.heap.size w w' := by
  by_cases h : 20 < l.length
  · exact norml_none l a c given result turn w hg h
  · by_cases hs : Short l
    · exact normal_law l a c given result turn w hg hr hgv hres htn (by omega) hs
    · exact norml_long l a c given result turn w hg hr (by omega) hs
end Go.Proofs.YtogcepiofpmabaaGreatDoor
