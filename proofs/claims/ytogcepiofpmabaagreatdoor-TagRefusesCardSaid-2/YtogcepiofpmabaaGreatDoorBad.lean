/- tag.first and tag.Normal where a tag is not valid; tag.Normal at a number that is no result. -/
import Derived.Test.YtogcepiofpmabaaGreatDoorWorks
namespace Go.Proofs.YtogcepiofpmabaaGreatDoor
open Go.RowKit Go.Lib

set_option maxRecDepth 100000 in
set_option maxHeartbeats 2000000 in
theorem first_bad (l : List Tag) (b o c : Nat) (w : World) (hr : TagRead w b o l) (hlt : b < w.heap.size) (hl : l.length ≤ 1000) (hsz : Sized l) (k : Nat) (hk : k < l.length) (hgood : ∀ j, j < k → ∀ t, l[j]? = some t → checkE t.1 t.2 = 0) (x : Int) (hx : (x != 0) = true) (hbad : ∀ t, l[k]? = some t → checkE t.1 t.2 = x) :
    Calls Tryz.prog 30 #[.slice (some ⟨b, o, none⟩) l.length c] w fun e w' => e = .returned (.tuple #[.map none, .int .i64 x]) ∧ Below w.heap.size w w' := by
  go_enter Tryz.func30, Tryz.ntmps30
  go_wp2
  go_loopw [14] (fun i wr => ∃ j : Nat, j ≤ k ∧ i = .int .i64 j ∧ Below w.heap.size w wr) (fun i _ => k - (intOf i).toNat)
  case atStart => exact ⟨0, by omega, rfl, Below.refl _ _⟩
  case round =>
    obtain ⟨j, hj, rfl, hb⟩ := hrel
    have hjl : j < l.length := by omega
    obtain ⟨⟨n, v⟩, ht⟩ : ∃ t, l[j]? = some t := ⟨_, List.getElem?_eq_getElem hjl⟩
    obtain ⟨c1, c2⟩ := (hr.below hb hlt) j _ ht
    have hm := List.mem_of_getElem? ht
    obtain ⟨s1, s2⟩ := hsz _ hm
    simp only at c1 c2 s1 s2
    by_cases hk1 : j < k
    · have hE := hgood j hk1 _ ht
      simp only at hE
      go_wp2_with (go_at_call 11; refine (check_any n v _ s1 s2).mono ?_; rw [hE]; rintro e w' ⟨rfl, hb1⟩)
      exact ⟨⟨j + 1, by omega, by go_num, hb.trans ((box_below hb1).mono hb.size)⟩, by simp [intOf]; omega⟩
    · obtain rfl : j = k := by omega
      have hE := hbad _ ht
      simp only at hE
      go_wp2_with (go_at_call 11; refine (check_any n v _ s1 s2).mono ?_; rw [hE]; rintro e w' ⟨rfl, hb1⟩)
      go_ret2
      exact ⟨rfl, hb.trans ((box_below hb1).mono hb.size)⟩

set_option maxRecDepth 100000 in
set_option maxHeartbeats 1000000 in
theorem normal_bad (l : List Tag) (r : Nat) (hr4 : r < 4) (b o c : Nat) (w : World) (hg : Glob w) (hr : TagRead w b o l) (hlt : b < w.heap.size) (hl : l.length ≤ 1000) (hsz : Sized l) (k : Nat) (hk : k < l.length) (hgood : ∀ j, j < k → ∀ t, l[j]? = some t → checkE t.1 t.2 = 0) (x : Int) (hx : (x != 0) = true) (hbad : ∀ t, l[k]? = some t → checkE t.1 t.2 = x) :
    Calls Tryz.prog 22 #[.slice (some ⟨b, o, none⟩) l.length c, .int .i64 r] w (NormPost w (.err x)) := by
  go_enter Tryz.func22, Tryz.ntmps22
  go_wp2_with fail
  refine (word_ok r w hr4 hg).mono ?_
  rintro e w' ⟨rfl, rfl⟩
  go_wp2_with fail
  refine (first_bad l b o c w hr hlt hl hsz k hk hgood x hx hbad).mono ?_
  clear hgood hbad
  rintro e w1 ⟨rfl, hb1⟩
  go_wp2_with fail
  go_ret2
  exact ⟨hb1.alloc hb1.size _, rfl⟩

set_option maxRecDepth 100000 in
set_option maxHeartbeats 1000000 in
theorem normal_num (sv : Value) (n : Int) (w : World) (h : n < 0 ∨ 4 ≤ n) :
    Calls Tryz.prog 22 #[sv, .int .i64 n] w (NormPost w (.err 3)) := by
  go_enter Tryz.func22, Tryz.ntmps22
  go_wp2_with fail
  refine (word_bad n w h).mono ?_
  rintro e w' ⟨rfl, rfl⟩
  go_wp2_with fail
  go_ret2
  exact ⟨Below.refl _ _, rfl⟩
end Go.Proofs.YtogcepiofpmabaaGreatDoor
