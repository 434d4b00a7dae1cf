/- Contract of the law's function works. -/
import Derived.Test.YtogcepiofpmabaaGreatDoorFacts
import Derived.Test.YtogcepiofpmabaaGreatDoorPrint
import Derived.Test.YtogcepiofpmabaaGreatDoorResult
namespace Go.Proofs.YtogcepiofpmabaaGreatDoor
open Go.RowKit Go.Lib

set_option maxRecDepth 100000 in
set_option maxHeartbeats 1000000 in
theorem normal_dup (l : List Tag) (r : Nat) (hr4 : r < 4) (b o c : Nat) (w : World) (hg : Glob w) (hr : TagRead w b o l) (hlt : b < w.heap.size) (hl : l.length ≤ 1000) (hsz : Sized l) (hgood : Good l) (hnd : ¬ (l.map (·.1)).Nodup) :
    Calls Tryz.prog 22 #[.slice (some ⟨b, o, none⟩) l.length c, .int .i64 r] w (NormPost w (.err 6)) := by
  go_enter Tryz.func22, Tryz.ntmps22
  go_wp2_with fail
  refine (word_ok r w hr4 hg).mono ?_
  rintro e w' ⟨rfl, rfl⟩
  go_wp2_with fail
  refine (first_ok l b o c w hr hlt (by omega) hsz hgood).mono ?_
  rintro e w1 ⟨hb1, ⟨hn, _⟩ | ⟨_, rfl⟩⟩
  case inl => exact absurd hn hnd
  go_wp2_with fail
  go_ret2
  exact ⟨hb1.alloc hb1.size _, rfl⟩

theorem tagCells_at : ∀ (l : List Tag) (i : Nat) (t : Tag), l[i]? = some t → (tagCells l)[i * 2]? = some (.string t.1) ∧ (tagCells l)[i * 2 + 1]? = some (.string t.2)
  | [], i, t, h => by simp at h
  | x :: r, 0, t, h => by
    simp at h
    subst h
    exact ⟨rfl, rfl⟩
  | x :: r, i + 1, t, h => by
    have ih := tagCells_at r i t (by simpa using h)
    have e : (i + 1) * 2 = i * 2 + 1 + 1 := by omega
    rw [e]
    exact ih
theorem read_alloc (w : World) (T : TypeId) (l : List Tag) (cs : Array Value) (h : cs = (tagCells l).toArray) : TagRead (w.alloc (.cells cs T)) w.heap.size 0 l := fun i t ht => by
  obtain ⟨h1, h2⟩ := tagCells_at l i t ht
  subst h
  constructor
  · simpa using h1
  · simpa using h2
theorem read_row {w : World} {b o : Nat} {l : List Tag} (h : TagRow w b o l) : TagRead w b o l := fun i t ht => ⟨(h i t ht).1, (h i t ht).2.1⟩
theorem res1 : fr ⟨#[42]⟩ 4 0 = (0, 0) := by kernel_rfl
theorem res2 : fr ⟨#[49, 45, 49]⟩ 4 0 = (0, 8) := by kernel_rfl
theorem wrd3 : rs 3 = ⟨#[49, 47, 50, 45, 49, 47, 50]⟩ := rfl
theorem and3 {a b c : Bool} (h : (a && b && c) = true) : a = true ∧ b = true ∧ c = true := by
  cases a <;> cases b <;> cases c <;> simp_all
theorem and4 {a b c d : Bool} (h : (a && b && c && !d) = true) : a = true ∧ b = true ∧ c = true ∧ d = false := by
  cases a <;> cases b <;> cases c <;> cases d <;> simp_all
theorem dup5 : ¬ (l5.map (·.1)).Nodup := fun h => (List.nodup_cons.1 h).1 (List.mem_singleton.2 rfl)

theorem ex1 (b : Nat) (w : World) (hg : Glob w) (hr : TagRead w b 0 l1) (hlt : b < w.heap.size) :
    Calls Tryz.prog 22 #[.slice (some ⟨b, 0, none⟩) 3 3, .int .i64 1] w (NormPost w (.ok lw)) := by
  rw [← norm1]
  exact normal_any l1 1 (by decide) b 0 3 w hg hr hlt (by decide) (sized_of_b f2) (good_of_b f1) (dif_of_b f3) (fun h => absurd (f6.symm.trans h) (by decide))
theorem ex2 (b : Nat) (w : World) (hg : Glob w) (hr : TagRead w b 0 l2) (hlt : b < w.heap.size) :
    Calls Tryz.prog 22 #[.slice (some ⟨b, 0, none⟩) 1 1, .int .i64 3] w (NormPost w (.err 7)) := by
  obtain ⟨h1, h2, h3, h4⟩ := and4 g2
  rw [← norm2]
  exact normal_any l2 3 (by decide) b 0 1 w hg hr hlt (by decide) (sized_of_b h2) (good_of_b h1) (dif_of_b h3) (fun h => absurd (h4.symm.trans h) (by decide))
theorem ex3 (b : Nat) (w : World) (hg : Glob w) (hr : TagRead w b 0 l3) (hlt : b < w.heap.size) :
    Calls Tryz.prog 22 #[.slice (some ⟨b, 0, none⟩) 1 1, .int .i64 0] w (NormPost w (.err 7)) := by
  obtain ⟨h1, h2, h3, h4⟩ := and4 g3
  rw [← norm3]
  exact normal_any l3 0 (by decide) b 0 1 w hg hr hlt (by decide) (sized_of_b h2) (good_of_b h1) (dif_of_b h3) (fun h => absurd (h4.symm.trans h) (by decide))
theorem ex4 (b : Nat) (w : World) (hg : Glob w) (hr : TagRead w b 0 l4) (hlt : b < w.heap.size) :
    Calls Tryz.prog 22 #[.slice (some ⟨b, 0, none⟩) 1 1, .int .i64 0] w (NormPost w (.err 15)) := by
  obtain ⟨h1, h2, h3⟩ := and3 g4
  rw [← norm4]
  exact normal_any l4 0 (by decide) b 0 1 w hg hr hlt (by decide) (sized_of_b h2) (good_of_b h1) (dif_of_b h3) (fun _ => ⟨by rw [g4'']; decide, g4'⟩)
theorem ex5 (b : Nat) (w : World) (hg : Glob w) (hr : TagRead w b 0 l5) (hlt : b < w.heap.size) :
    Calls Tryz.prog 22 #[.slice (some ⟨b, 0, none⟩) 2 2, .int .i64 0] w (NormPost w (.err 6)) := by
  have g5' := g5
  rw [Bool.and_eq_true, Bool.and_eq_true] at g5'
  exact normal_dup l5 0 (by decide) b 0 2 w hg hr hlt (by decide) (sized_of_b g5'.1.2) (good_of_b g5'.1.1) dup5
theorem same1 (b g cap : Nat) (w : World) (h1 : TagRead w g 0 lw) (h2 : TagRead w b 0 lw) :
    Calls Tryz.prog 24 #[.slice (some ⟨g, 0, none⟩) 9 cap, .slice (some ⟨b, 0, none⟩) 9 9] w fun e w' => e = .returned (.bool true) ∧ Below w.heap.size w w' :=
  same_true lw g 0 cap b 0 9 w h1 h2 (by decide)
theorem lenw : lw.length = 9 := rfl

set_option maxRecDepth 100000 in
set_option maxHeartbeats 4000000 in
theorem works_any (w : World) (hg : Glob w) :
    Calls Tryz.prog 8 #[] w fun e w' => e = .returned (.bool true) ∧ Below w.heap.size w w' := by
  go_enter Tryz.func8, Tryz.ntmps8
  go_wp2_with fail
  refine (print_ok nWhite ⟨#[97, 32, 34, 98, 34]⟩ w hg (by decide) (by decide) chk2).mono ?_
  rw [prt1]
  rintro e w1 ⟨rfl, hw⟩
  go_wp2_with fail
  replace hw : Below w.heap.size w (w1.alloc (.cells (tagCells l1).toArray 27)) := hw.alloc hw.size _
  refine (ex1 w1.heap.size _ (hg.below hw) (read_alloc w1 _ l1 _ rfl) (by simp)).mono ?_
  rintro e w2 ⟨hb, g, cap, rfl, hg1, hg2, hrow⟩
  replace hw := hw.trans (hb.mono hw.size)
  replace hrow := read_row hrow
  clear hb
  rw [lenw]
  go_wp2_with fail
  replace hw : Below w.heap.size w (w2.alloc (.cells (tagCells l2).toArray 27)) := hw.alloc hw.size _
  refine (ex2 w2.heap.size _ (hg.below hw) (read_alloc w2 _ l2 _ rfl) (by simp)).mono ?_
  rintro e w3 ⟨hb, rfl⟩
  replace hrow := hrow.below ((Below.refl _ w2).trans (((Below.refl _ w2).alloc (Nat.le_refl _) _).trans (hb.mono (by simp)))) hg2
  have hg3 : g < w3.heap.size := Nat.lt_of_lt_of_le hg2 (Nat.le_trans (by simp) hb.size)
  replace hw := hw.trans (hb.mono hw.size)
  clear hb
  go_wp2_with fail
  replace hw : Below w.heap.size w (w3.alloc (.cells (tagCells l3).toArray 27)) := hw.alloc hw.size _
  refine (ex3 w3.heap.size _ (hg.below hw) (read_alloc w3 _ l3 _ rfl) (by simp)).mono ?_
  rintro e w4 ⟨hb, rfl⟩
  replace hrow := hrow.below (((Below.refl _ w3).alloc (Nat.le_refl _) _).trans (hb.mono (by simp))) hg3
  have hg4 : g < w4.heap.size := Nat.lt_of_lt_of_le hg3 (Nat.le_trans (by simp) hb.size)
  replace hw := hw.trans (hb.mono hw.size)
  clear hb
  go_wp2_with fail
  replace hw : Below w.heap.size w (w4.alloc (.cells (tagCells l4).toArray 27)) := hw.alloc hw.size _
  refine (ex4 w4.heap.size _ (hg.below hw) (read_alloc w4 _ l4 _ rfl) (by simp)).mono ?_
  rintro e w5 ⟨hb, rfl⟩
  replace hrow := hrow.below (((Below.refl _ w4).alloc (Nat.le_refl _) _).trans (hb.mono (by simp))) hg4
  have hg5 : g < w5.heap.size := Nat.lt_of_lt_of_le hg4 (Nat.le_trans (by simp) hb.size)
  replace hw := hw.trans (hb.mono hw.size)
  clear hb
  go_wp2_with fail
  replace hw : Below w.heap.size w (w5.alloc (.cells (tagCells l5).toArray 27)) := hw.alloc hw.size _
  refine (ex5 w5.heap.size _ (hg.below hw) (read_alloc w5 _ l5 _ rfl) (by simp)).mono ?_
  rintro e w6 ⟨hb, rfl⟩
  replace hrow := hrow.below (((Below.refl _ w5).alloc (Nat.le_refl _) _).trans (hb.mono (by simp))) hg5
  have hg6 : g < w6.heap.size := Nat.lt_of_lt_of_le hg5 (Nat.le_trans (by simp) hb.size)
  replace hw := hw.trans (hb.mono hw.size)
  clear hb
  have hgw := hg.below hw
  go_wp2_with fail
  refine (word_ok 3 w6 (by decide) hgw).mono ?_
  rw [wrd3]
  rintro e w' ⟨rfl, rfl⟩
  go_wp2_with fail
  refine (word_bad 4 w6 (by decide)).mono ?_
  rintro e w' ⟨rfl, rfl⟩
  go_wp2_with fail
  refine (result_any ⟨#[42]⟩ w6 hgw).mono ?_
  rw [res1]
  rintro e w' ⟨rfl, rfl⟩
  go_wp2_with fail
  refine (result_any ⟨#[49, 45, 49]⟩ w6 hgw).mono ?_
  rw [res2]
  rintro e w' ⟨rfl, rfl⟩
  go_wp2_with fail
  have hq : TagRead (w6.alloc (.cells (tagCells lw).toArray 27)) w6.heap.size 0 lw := read_alloc w6 _ lw _ rfl
  replace hw : Below w.heap.size w (w6.alloc (.cells (tagCells lw).toArray 27)) := hw.alloc hw.size _
  replace hrow := hrow.below ((Below.refl _ w6).alloc (Nat.le_refl _) (.cells (tagCells lw).toArray 27)) hg6
  refine (same1 w6.heap.size g cap _ hrow hq).mono ?_
  rintro e w7 ⟨rfl, hb⟩
  replace hw := hw.trans (hb.mono hw.size)
  clear hb
  go_wp2_with fail
  refine (check_any ⟨#[49, 115, 116]⟩ ⟨#[]⟩ w7 (by decide) (by decide)).mono ?_
  rw [chk1]
  rintro e w8 ⟨rfl, hb⟩
  replace hw := hw.trans (hb.mono hw.size)
  go_wp2_with fail
  go_ret
  exact ⟨rfl, hw⟩
end Go.Proofs.YtogcepiofpmabaaGreatDoor
