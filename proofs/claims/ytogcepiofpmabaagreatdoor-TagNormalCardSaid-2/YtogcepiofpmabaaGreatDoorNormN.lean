/- Contract of tag.Normal at no tags at all. -/
import Derived.Test.YtogcepiofpmabaaGreatDoorNormal
namespace Go.Proofs.YtogcepiofpmabaaGreatDoor
open Go.RowKit Go.Lib Go.Maps

set_option maxRecDepth 100000 in
set_option maxHeartbeats 1000000 in
theorem first_nil (w : World) :
    Calls Tryz.prog 30 #[.slice none 0 0] w fun e w' => Below w.heap.size w w' ∧ ∃ bm, e = .returned (.tuple #[.map (some bm), .int .i64 0]) ∧ w.heap.size ≤ bm ∧ MapS w' bm [] := by
  have hmm := @run_makeMap Tryz.prog
  go_enter Tryz.func30, Tryz.ntmps30
  go_wp2
  refine wp_loop_rounds 1 ?_
  rw [rounds_succ]
  go_wp2
  refine wp_loop_rounds 1 ?_
  rw [rounds_succ]
  go_wp2
  go_ret2
  exact ⟨(Below.refl _ _).alloc (Nat.le_refl _) _, w.heap.size, rfl, Nat.le_refl _, MapS.made w⟩

theorem st_start_nil {w1 : World} {bm : Nat} {l : List Tag} (hm : MapS w1 bm l) (hl : l = []) :
    St ((w1.alloc (.cells #[.map (some bm)] 60)).alloc (.cells #[.slice none 0 0] 39)) (w1.heap.size + 1) w1.heap.size (w1.alloc (.cells #[.map (some bm)] 60)).heap.size bm l := by
  have hlt := hm.lt
  subst hl
  refine ⟨?_, (hm.alloc _).alloc _, by omega, by omega, by omega, by simp, by simp, .slice none 0 0, by simp, by simp, World.ownsRow_nil _ _ _ _, by simp [Value.ownBlock]⟩
  rw [World.cell?_alloc_past _ _ _ (by simp)]
  simp

set_option maxRecDepth 100000 in
set_option maxHeartbeats 4000000 in
theorem normal_nil' (l : List Tag) (hl : l = []) (r : Nat) (hr4 : r < 4) (w : World) (hg : Glob w) :
    Calls Tryz.prog 22 #[.slice none 0 0, .int .i64 r] w (NormPost w (normS l (rs r))) := by
  have hmf : ∀ (fn : Fn) (first cap : Array Value) (w : World), (Instr.makeFunc fn first cap).run Tryz.prog w = .ok (.func fn first cap) w := fun _ _ _ _ => rfl
  have hb0 := hg.size
  unfold nG at hb0
  have hset : hasN l nFen = false := by rw [hl]; rfl
  have hl0 : l.length ≤ 1000 := by rw [hl]; decide
  have HL := Lib.hid hl
  clear hl
  go_enter Tryz.func22, Tryz.ntmps22
  go_wp2_with fail
  refine (word_ok r w hr4 hg).mono ?_
  rintro e w' ⟨rfl, rfl⟩
  go_wp2_with fail
  refine (first_nil w).mono ?_
  rintro e w1 ⟨hb1, bm, rfl, hbm, hmap⟩
  rw [← HL.out] at hmap
  have hz1 := hb1.size
  have lk1 := (hmap.alloc (.cells #[.map (some bm)] 60)).look_ok nSet (by decide)
  have lk2 := (hmap.alloc (.cells #[.map (some bm)] 60)).look_ok nFen (by decide)
  have HM := Lib.hid hmap
  clear hmap
  go_wp2_with fail
  refine (AnyE.slices_Clone_nil Tryz.cloneT 0 0 _).mono ?_
  rintro e w2 ⟨rfl, hw2⟩
  subst hw2
  have hst := st_start_nil HM.out HL.out
  have hbw : Below w.heap.size w ((w1.alloc (.cells #[.map (some bm)] 60)).alloc (.cells #[.slice none 0 0] 39)) := (hb1.alloc hb1.size _).alloc (by simp; omega) _
  have hz2 : w1.heap.size + 1 ≤ (w1.alloc (.cells #[.map (some bm)] 60)).heap.size := by simp
  have hg2 : Glob ((w1.alloc (.cells #[.map (some bm)] 60)).alloc (.cells #[.slice none 0 0] 39)) := hg.below hbw
  generalize hw2 : w1.alloc (.cells #[.map (some bm)] 60) = w2 at hst hbw hg2 hz2 ⊢
  clear hw2
  have HG0 := Lib.hid hg
  clear HM lk1 lk2 hg
  have n0 := hg2.rosN 0 (by decide)
  have n1 := hg2.rosN 1 (by decide)
  have n2 := hg2.rosN 2 (by decide)
  have n3 := hg2.rosN 3 (by decide)
  have n4 := hg2.rosN 4 (by decide)
  have n5 := hg2.rosN 5 (by decide)
  have n6 := hg2.rosN 6 (by decide)
  have v0 := hg2.rosV 0 (by decide)
  have v1 := hg2.rosV 1 (by decide)
  have v2 := hg2.rosV 2 (by decide)
  have v3 := hg2.rosV 3 (by decide)
  have v4 := hg2.rosV 4 (by decide)
  have v5 := hg2.rosV 5 (by decide)
  have v6 := hg2.rosV 6 (by decide)
  simp only [Nat.reduceMul, Nat.reduceAdd] at n0 n1 n2 n3 n4 n5 n6 v0 v1 v2 v3 v4 v5 v6
  have HST := Lib.hid hst
  have HBW := Lib.hid hbw
  clear hst hg2 hbw
  go_wp2
  clear n0 n1 n2 n3 n4 n5 n6 v0 v1 v2 v3 v4 v5 v6
  go_loopw [49] (fun i W => ∃ k : Nat, k ≤ 7 ∧ i = .int .i64 k ∧ St W (w1.heap.size + 1) w1.heap.size w2.heap.size bm (addTo (rs r) l k) ∧ Below w.heap.size w W) (fun i _ => 7 - (intOf i).toNat)
  case atStart => exact ⟨0, by omega, rfl, HST.out, HBW.out⟩
  case round =>
    clear HST HBW
    obtain ⟨k, hk, rfl, hst, hbk⟩ := hrel
    by_cases hk7 : k < 7
    · have hi : ∀ W, (Instr.index 58 rosV (.int .i64 k)).run Tryz.prog W = .ok (.agg #[.string (rn k), .string (rv k)]) W := fun W => ros_index W k hk7
      have HA : Hid (∀ Wc, Below wr.heap.size wr Wc → Calls Tryz.prog 32 #[.string (rn k), .string (orS (rv k) (rs r)), .pointer (some ⟨w1.heap.size, 0, none⟩), .pointer (some ⟨w2.heap.size, 0, none⟩)] Wc (AddPost wr Wc (w1.heap.size + 1) w1.heap.size w2.heap.size bm (addTo (rs r) l (k + 1)))) :=
        Lib.hid (fun Wc hx => add_step _ _ wr Wc _ _ _ _ _ hst hx (by have := rn_size k; unfold maxLen; omega) (by have := orS_size (rv k) (rs r) 10 (rv_size k) (by have := rs_size r; omega); unfold maxLen; omega) (by have := addTo_length (rs r) l k; omega))
      have hp1 : Past (wr.heap.size + 1) (wr.alloc (.cells #[.string (rn k), .string (rv k)] 57)) := by unfold Past; simp
      clear hst hk
      have HB := Lib.hid hbk
      clear hbk
      go_wp2
      go_region_held3 (fun W' => W'.cell? ⟨wr.heap.size, 0, none⟩ = some (.string (rn k)) ∧ W'.cell? ⟨wr.heap.size, 1, none⟩ = some (.string (rv k)) ∧ Past (wr.heap.size + 1) W') (go_keep) (first | (go_at_call 33; refine (orS_any (rv k) (rs r) _ _ _ ?_ ?_).mono ?_; (simp); (simp); rintro e w' ⟨rfl, rfl⟩) | (go_at_call 32; refine (HA.out _ ?_).mono ?_; (refine Ext.below ?_; repeat (first | exact Ext.refl _ | refine Ext.drew ?_ | refine Ext.alloc ?_ _)); rintro e w3 ⟨rfl, a1, a2, a3⟩; have k1 : w3.cell? ⟨wr.heap.size, 0, none⟩ = some (.string (rn k)) := by { rw [a3 ⟨wr.heap.size, 0, none⟩ (Nat.le_refl _) (by simp <;> omega)]; simp }; have k2 : w3.cell? ⟨wr.heap.size, 1, none⟩ = some (.string (rv k)) := by { rw [a3 ⟨wr.heap.size, 1, none⟩ (Nat.le_refl _) (by simp <;> omega)]; simp }; have k3 : Past (wr.heap.size + 1) w3 := by { have := (a2 0 (Nat.zero_le _)).size; unfold Past; simp at this; omega }; have A1 := Lib.hid a1; have A2 : Hid (Below w.heap.size w w3) := Lib.hid ((HB.out.trans (Below.mono (Ext.below (by repeat (first | exact Ext.refl _ | refine Ext.drew ?_ | refine Ext.alloc ?_ _))) HB.out.size)).trans (a2 _ hbm)); clear a1 a2 a3))
      go_wp2
      exact ⟨⟨k + 1, by omega, by go_num, A1.out, A2.out⟩, by simp [intOf]; omega⟩
    · obtain rfl : k = 7 := by omega
      clear hk7 hk
      have HB := Lib.hid hbk
      clear hbk
      · have ef : full l (rs r) = addTo (rs r) l 7 := by unfold full; rw [hset]; rfl
        rw [← ef] at hst
        obtain ⟨g4, cap4, hout, hge, hlt4, hne, hrow⟩ := hst.list (full_pos l (rs r))
        have hfl := full_length l (rs r)
        have hseen := hst.seen
        have hlk := hst.map.look nRes (by decide)
        have HS := Lib.hid hst
        have HR := Lib.hid hrow
        clear hst hrow ef
        go_wp2_with fail
        · go_ret2
          exact norm_err (normS_err10 ‹_›) HB.out rfl
        · go_ret2
          exact norm_err (normS_st3 ‹_› ‹_› ‹_› hset) HB.out rfl
        · have HK : Hid (normS l (rs r) = .ok (sortTags (full l (rs r)))) := Lib.hid (normS_ok ‹_› ‹_› ‹_› hset)
          refine (sort_any (full l (rs r)) g4 0 cap4 wr (HG0.out.below HB.out) (by unfold nG; omega) hlt4 HR.out HS.out.map.nodup (by omega)).mono ?_
          rintro e w5 ⟨rfl, hrow5, hg5⟩
          have hout5 := cell_grown hg5 (p := ⟨w2.heap.size, 0, none⟩) HS.out.lth (by simp; omega) hout
          have HB5 : Hid (Below w.heap.size w w5) := Lib.hid (HB.out.grown hg5 HB.out.size (fun j e => by cases e; omega))
          have HL5 : Hid (g4 < w5.heap.size) := Lib.hid (Nat.lt_of_lt_of_le hlt4 hg5.size)
          have HR5 := Lib.hid hrow5
          clear hrow5 hg5 hout
          go_wp2
          go_ret2
          rw [HK.out]
          exact ⟨HB5.out, g4, cap4, by rw [sortTags_length]; rfl, by omega, HL5.out, HR5.out⟩
        · go_ret2
          exact norm_err (normS_st1 ‹_› ‹_›) HB.out rfl

theorem normal_nil (r : Nat) (hr4 : r < 4) (w : World) (hg : Glob w) :
    Calls Tryz.prog 22 #[.slice none 0 0, .int .i64 r] w (NormPost w (normS [] (rs r))) := normal_nil' [] rfl r hr4 w hg
end Go.Proofs.YtogcepiofpmabaaGreatDoor
