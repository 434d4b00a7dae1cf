/- Contract of tag.Normal at valid tags. -/
import Derived.Test.YtogcepiofpmabaaGreatDoorSpec
import Derived.Test.YtogcepiofpmabaaGreatDoorCmpT
import Derived.Deep.RegionHeld3
import Derived.Outline
namespace Go.Proofs.YtogcepiofpmabaaGreatDoor
open Go.RowKit Go.Lib

theorem clone_tags (l : List Tag) (b o c : Nat) (w : World) (hr : TagRead w b o l) (hl : l.length * 32 ≤ 140737488355328) :
    Calls Tryz.prog 31 #[.slice (some ⟨b, o, none⟩) l.length c] w fun e w' => ∃ g cap, e = .returned (.slice (some ⟨g, 0, none⟩) l.length cap) ∧ w'.ownsRow w.heap.size 27 2 (.slice (some ⟨g, 0, none⟩) l.length cap) l.length (tagCells l) ∧ Below w.heap.size w w' := by
  obtain ⟨i0, hi, hz0, hz1, hz2⟩ := info_parts infoTag
  have h := AnyE.slices_Clone Tryz.cloneT i0 (.agg #[.string ⟨#[]⟩, .string ⟨#[]⟩]) 2 32 hi hz0 hz1 hz2 rfl (by decide) Tryz.sizeOf27 b o l.length c (tagCells l) w (tagCells_length l) (by unfold maxLen; omega) hl
    (fun j u hj => by
      have hj' : j < l.length * 2 := by rw [← tagCells_length]; exact (List.getElem?_eq_some_iff.1 hj).1
      obtain ⟨t, ht⟩ : ∃ t, l[j / 2]? = some t := ⟨_, List.getElem?_eq_getElem (by omega)⟩
      obtain ⟨h1, h2⟩ := hr _ t ht
      obtain ⟨h3, h4⟩ := tagCells_get l _ t ht
      rcases Nat.mod_two_eq_zero_or_one j with hm | hm
      · have ej : j / 2 * 2 = j := by omega
        rw [ej] at h1 h3
        rw [hj] at h3
        rw [h1, ← h3]
      · have ej : o + j / 2 * 2 + 1 = o + j := by omega
        have ej2 : j / 2 * 2 + 1 = j := by omega
        rw [ej] at h2
        rw [ej2] at h4
        rw [hj] at h4
        rw [h2, ← h4]) (tagCells_one l)
  refine h.mono ?_
  rintro e w' ⟨v', rfl, hown, hne, hb⟩
  obtain ⟨g, cap, hv⟩ : ∃ g cap, v' = .slice (some ⟨g, 0, none⟩) l.length cap := by
    rcases hown.2 with ⟨e, _⟩ | ⟨g, cap, _, e, _⟩
    · exact absurd e hne
    · exact ⟨g, cap, e⟩
  subst hv
  exact ⟨g, cap, rfl, hown, hb⟩

@[simp] theorem Ext.refl' (w : World) : Ext w w := Ext.refl w
/-- Behind the clone and its box. -/
theorem st_start {w1 w2 : World} {bm g cap : Nat} {l : List Tag} (hm : MapS w1 bm l)
    (hown : w2.ownsRow (w1.heap.size + 1) 27 2 (.slice (some ⟨g, 0, none⟩) l.length cap) l.length (tagCells l))
    (hb : Below (w1.heap.size + 1) (w1.alloc (.cells #[.map (some bm)] 60)) w2) :
    St (w2.alloc (.cells #[.slice (some ⟨g, 0, none⟩) l.length cap] 39)) (w1.heap.size + 1) w1.heap.size w2.heap.size bm l := by
  have hlt := hm.lt
  have hz := hb.size
  simp at hz
  have hgl := hown.lt g rfl
  refine ⟨?_, ?_, by omega, by omega, by omega, by omega, by simp, .slice (some ⟨g, 0, none⟩) l.length cap, by simp, by simp, hown.alloc _, ?_⟩
  · rw [World.cell?_alloc_past _ _ _ (by omega), hb.cell (p := ⟨w1.heap.size, 0, none⟩) (by simp)]
    simp
  · refine MapS.alloc ?_ _
    refine MapS.block (hm.alloc (.cells #[.map (some bm)] 60)) ?_
    exact hb.block bm (by omega)
  · intro e
    simp [Value.ownBlock] at e
    omega

theorem row_of_own {w : World} {base g cap : Nat} {l : List Tag} (h : w.ownsRow base 27 2 (.slice (some ⟨g, 0, none⟩) l.length cap) l.length (tagCells l)) : TagRow w g 0 l := by
  intro i t ht
  have hi : i < l.length := (List.getElem?_eq_some_iff.1 ht).1
  obtain ⟨h1, h2⟩ := tagCells_get l i t ht
  rw [Nat.zero_add]
  exact ⟨by rw [h.cellAt _ (by omega)]; exact h1, by rw [h.cellAt _ (by omega)]; exact h2, h.frozenAt _, h.frozenAt _⟩

/-- The list in its box, laid open. -/
theorem St.list {W : World} {base bs bo bm : Nat} {l : List Tag} (h : St W base bs bo bm l) (h0 : 0 < l.length) :
    ∃ g cap, W.cell? ⟨bo, 0, none⟩ = some (.slice (some ⟨g, 0, none⟩) l.length cap) ∧ base ≤ g ∧ g < W.heap.size ∧ g ≠ bo ∧ TagRow W g 0 l := by
  obtain ⟨hs, hmap, lts, ltm, nsm, lto, lth, sv, ho, hof, hrow, hob⟩ := h
  rcases hrow.2 with ⟨e, e2⟩ | ⟨g, cap, cur, rfl, hg, _⟩
  · omega
  · have hl := hrow.lt g rfl
    refine ⟨g, cap, ho, hg, hl.2, fun e => hob (by rw [e]; rfl), row_of_own hrow⟩

theorem addTo_pos (word : ByteArray) (l : List Tag) : ∀ k, 0 < k → 0 < (addTo word l k).length
  | 0, h => by omega
  | k + 1, _ => by
    unfold addTo addIf
    split
    · rename_i h
      rw [hasN_iff] at h
      obtain ⟨t, ht, _⟩ := List.mem_map.1 h
      exact List.length_pos_of_mem ht
    · simp
theorem full_pos (l : List Tag) (word : ByteArray) : 0 < (full l word).length := by
  have h := addTo_pos word l 7 (by decide)
  unfold full
  split
  · unfold addIf
    split
    · exact h
    · simp
  · exact h
theorem full_length (l : List Tag) (word : ByteArray) : (full l word).length ≤ l.length + 8 := by
  have h := addTo_length word l 7
  unfold full
  split
  · have := addIf_length (addTo word l 7) nSet sOne
    omega
  · omega

theorem sOne_list : sOne.toList = [49] := by rw [toList_data]
theorem normS_err10 {l : List Tag} {word : ByteArray} (h : (24 : Int) < ((full l word).length : Int)) : normS l word = .err 10 := by
  unfold normS; rw [if_pos (by omega)]
theorem normS_st1 {l : List Tag} {word : ByteArray} (h : ((full l word).length : Int) ≤ 24) (h1 : ¬ (valOf (full l word) nRes).toList = word.toList) : normS l word = .err 7 := by
  unfold normS; rw [if_neg (by omega), if_pos]
  unfold stateB
  rw [beq_eq_false_iff_ne.2 h1]; rfl
theorem normS_st2 {l : List Tag} {word : ByteArray} (h : ((full l word).length : Int) ≤ 24) (_ : (valOf (full l word) nRes).toList = word.toList) (h2 : hasN l nSet = true) (h3 : (!(valOf l nSet).toList == [49]) = true) : normS l word = .err 7 := by
  unfold normS; rw [if_neg (by omega), if_pos]
  unfold stateB
  rw [sOne_list, h2, h3]
  simp
theorem normS_st3 {l : List Tag} {word : ByteArray} (h : ((full l word).length : Int) ≤ 24) (_ : (valOf (full l word) nRes).toList = word.toList) (h2 : hasN l nSet = true) (h3 : hasN l nFen = false) : normS l word = .err 7 := by
  unfold normS; rw [if_neg (by omega), if_pos]
  unfold stateB
  rw [h2, h3]
  simp
theorem normS_fen {l : List Tag} {word : ByteArray} (h : ((full l word).length : Int) ≤ 24) (h1 : (valOf (full l word) nRes).toList = word.toList) (h2 : ¬ hasN l nSet = true ∨ (!(valOf l nSet).toList == [49]) = false) (h3 : hasN l nFen = true) : normS l word = .err 15 := by
  unfold normS; rw [if_neg (by omega), if_neg, if_pos h3]
  unfold stateB
  rw [sOne_list, h3, beq_iff_eq.2 h1]
  rcases h2 with h2 | h2
  · simp [h2]
  · rw [h2]; simp
theorem normS_ok {l : List Tag} {word : ByteArray} (h : ((full l word).length : Int) ≤ 24) (h1 : (valOf (full l word) nRes).toList = word.toList) (h2 : ¬ hasN l nSet = true) (h3 : hasN l nFen = false) : normS l word = .ok (sortTags (full l word)) := by
  unfold normS; rw [if_neg (by omega), if_neg, if_neg (by rw [h3]; decide)]
  unfold stateB
  rw [beq_iff_eq.2 h1]
  simp [h2]

theorem holds_new1 (w : World) (zc : Array Value) (T : TypeId) : Go.Sort.Holds id (w.alloc (.cells zc T)) w.heap.size 0 zc := by
  intro j hj
  refine ⟨?_, ?_⟩
  · rw [Nat.zero_add, World.cell?_alloc_at _ _ _ _ rfl, Array.getElem?_eq_getElem hj, getElem!_pos zc j hj]; rfl
  · simp

theorem norm_err {w w' : World} {out : Out} {x : Int} {e : Ending} (h : out = .err x) (hb : Below w.heap.size w w') (he : e = .returned (.tuple #[.slice none 0 0, .int .i64 x])) : NormPost w out e w' := by
  rw [h]; exact ⟨hb, he⟩

set_option maxRecDepth 100000 in
set_option maxHeartbeats 4000000 in
theorem normal_any (l : List Tag) (r : Nat) (hr4 : r < 4) (b o c : Nat) (w : World) (hg : Glob w) (hr : TagRead w b o l) (hlt : b < w.heap.size) (hl : l.length ≤ 1000) (hsz : Sized l) (hgood : Good l) (hnd : (l.map (·.1)).Nodup)
    (hfen : hasN l nFen = true → (valOf l nFen).size < 4294967281 ∧ ((((Lib.countB (valOf l nFen) spc : Nat) : Int) + 1) != 6) = true) :
    Calls Tryz.prog 22 #[.slice (some ⟨b, o, none⟩) l.length c, .int .i64 r] w (NormPost w (normS l (rs r))) := by
  have hmf : ∀ (fn : Fn) (first cap : Array Value) (w : World), (Instr.makeFunc fn first cap).run Tryz.prog w = .ok (.func fn first cap) w := fun _ _ _ _ => rfl
  have hb0 := hg.size
  unfold nG at hb0
  go_enter Tryz.func22, Tryz.ntmps22
  go_wp2_with fail
  refine (word_ok r w hr4 hg).mono ?_
  rintro e w' ⟨rfl, rfl⟩
  go_wp2_with fail
  refine (first_ok l b o c w hr hlt (by omega) hsz hgood).mono ?_
  rintro e w1 ⟨hb1, ⟨_, bm, rfl, hbm, hmap⟩ | ⟨hn, _⟩⟩
  case inr => exact absurd hnd hn
  have hg1 := hg.below hb1
  have hr1 := hr.below hb1 hlt
  have hz1 := hb1.size
  have lk1 := (hmap.alloc (.cells #[.map (some bm)] 60)).look_ok nSet (by decide)
  have lk2 := (hmap.alloc (.cells #[.map (some bm)] 60)).look_ok nFen (by decide)
  have HM := Lib.hid hmap
  clear hmap
  go_wp2_with fail
  refine (clone_tags l b o c _ (hr1.below ((Below.refl _ _).alloc (Nat.le_refl _) _) (by omega)) (by omega)).mono ?_
  rintro e w2 ⟨g, cap, rfl, hown, hbc⟩
  simp only [World.size_alloc] at hown hbc
  have hst := st_start HM.out hown hbc
  have hz2 := hbc.size
  simp only [World.size_alloc] at hz2
  have hbw : Below w.heap.size w (w2.alloc (.cells #[.slice (some ⟨g, 0, none⟩) l.length cap] 39)) := ((hb1.alloc hb1.size _).trans (hbc.mono (by omega))).alloc (by omega) _
  have hg2 : Glob (w2.alloc (.cells #[.slice (some ⟨g, 0, none⟩) l.length cap] 39)) := hg.below hbw
  have HG0 := Lib.hid hg
  clear HM hown hbc lk1 lk2 hr1 hg1 hr hg
  have n0 := hg2.rosN 0 (by decide)
  have n1 := hg2.rosN 1 (by decide)
  have n2 := hg2.rosN 2 (by decide)
  have n3 := hg2.rosN 3 (by decide)
  have n4 := hg2.rosN 4 (by decide)
  have n5 := hg2.rosN 5 (by decide)
  have n6 := hg2.rosN 6 (by decide)
  have v0 := hg2.rosV 0 (by decide)
  have v1 := hg2.rosV 1 (by decide)
  have v2 := hg2.rosV 2 (by decide)
  have v3 := hg2.rosV 3 (by decide)
  have v4 := hg2.rosV 4 (by decide)
  have v5 := hg2.rosV 5 (by decide)
  have v6 := hg2.rosV 6 (by decide)
  simp only [Nat.reduceMul, Nat.reduceAdd] at n0 n1 n2 n3 n4 n5 n6 v0 v1 v2 v3 v4 v5 v6
  have HST := Lib.hid hst
  have HBW := Lib.hid hbw
  clear hst hg2 hbw
  go_wp2
  clear n0 n1 n2 n3 n4 n5 n6 v0 v1 v2 v3 v4 v5 v6
  go_loopw [49] (fun i W => ∃ k : Nat, k ≤ 7 ∧ i = .int .i64 k ∧ St W (w1.heap.size + 1) w1.heap.size w2.heap.size bm (addTo (rs r) l k) ∧ Below w.heap.size w W) (fun i _ => 7 - (intOf i).toNat)
  case atStart => exact ⟨0, by omega, rfl, HST.out, HBW.out⟩
  case round =>
    clear HST HBW
    obtain ⟨k, hk, rfl, hst, hbk⟩ := hrel
    by_cases hk7 : k < 7
    · have hi : ∀ W, (Instr.index 58 rosV (.int .i64 k)).run Tryz.prog W = .ok (.agg #[.string (rn k), .string (rv k)]) W := fun W => ros_index W k hk7
      have HA : Hid (∀ Wc, Below wr.heap.size wr Wc → Calls Tryz.prog 32 #[.string (rn k), .string (orS (rv k) (rs r)), .pointer (some ⟨w1.heap.size, 0, none⟩), .pointer (some ⟨w2.heap.size, 0, none⟩)] Wc (AddPost wr Wc (w1.heap.size + 1) w1.heap.size w2.heap.size bm (addTo (rs r) l (k + 1)))) :=
        Lib.hid (fun Wc hx => add_step _ _ wr Wc _ _ _ _ _ hst hx (by have := rn_size k; unfold maxLen; omega) (by have := orS_size (rv k) (rs r) 10 (rv_size k) (by have := rs_size r; omega); unfold maxLen; omega) (by have := addTo_length (rs r) l k; omega))
      have hp1 : Past (wr.heap.size + 1) (wr.alloc (.cells #[.string (rn k), .string (rv k)] 57)) := by unfold Past; simp
      clear hst hk
      have HB := Lib.hid hbk
      clear hbk
      go_wp2
      go_region_held3 (fun W' => W'.cell? ⟨wr.heap.size, 0, none⟩ = some (.string (rn k)) ∧ W'.cell? ⟨wr.heap.size, 1, none⟩ = some (.string (rv k)) ∧ Past (wr.heap.size + 1) W') (go_keep) (first | (go_at_call 33; refine (orS_any (rv k) (rs r) _ _ _ ?_ ?_).mono ?_; (simp); (simp); rintro e w' ⟨rfl, rfl⟩) | (go_at_call 32; refine (HA.out _ ?_).mono ?_; (refine Ext.below ?_; repeat (first | exact Ext.refl _ | refine Ext.drew ?_ | refine Ext.alloc ?_ _)); rintro e w3 ⟨rfl, a1, a2, a3⟩; have k1 : w3.cell? ⟨wr.heap.size, 0, none⟩ = some (.string (rn k)) := by { rw [a3 ⟨wr.heap.size, 0, none⟩ (Nat.le_refl _) (by simp <;> omega)]; simp }; have k2 : w3.cell? ⟨wr.heap.size, 1, none⟩ = some (.string (rv k)) := by { rw [a3 ⟨wr.heap.size, 1, none⟩ (Nat.le_refl _) (by simp <;> omega)]; simp }; have k3 : Past (wr.heap.size + 1) w3 := by { have := (a2 0 (Nat.zero_le _)).size; unfold Past; simp at this; omega }; have A1 := Lib.hid a1; have A2 : Hid (Below w.heap.size w w3) := Lib.hid ((HB.out.trans (Below.mono (Ext.below (by repeat (first | exact Ext.refl _ | refine Ext.drew ?_ | refine Ext.alloc ?_ _))) HB.out.size)).trans (a2 _ hbm)); clear a1 a2 a3))
      go_wp2
      exact ⟨⟨k + 1, by omega, by go_num, A1.out, A2.out⟩, by simp [intOf]; omega⟩
    · obtain rfl : k = 7 := by omega
      clear hk7 hk
      have HB := Lib.hid hbk
      clear hbk
      by_cases hset : hasN l nFen = true
      · have HA : Hid (Calls Tryz.prog 32 #[.string nSet, .string sOne, .pointer (some ⟨w1.heap.size, 0, none⟩), .pointer (some ⟨w2.heap.size, 0, none⟩)] wr (AddPost wr wr (w1.heap.size + 1) w1.heap.size w2.heap.size bm (full l (rs r)))) :=
          Lib.hid (by unfold full; rw [if_pos hset]; exact add_step _ _ wr wr _ _ _ _ _ hst (Below.refl _ _) (by decide) (by decide) (by have := addTo_length (rs r) l 7; omega))
        clear hst
        rw [hset]
        go_wp2_with fail
        refine HA.out.mono ?_
        rintro e w4 ⟨rfl, a1, a2, a3⟩
        have HB4 : Hid (Below w.heap.size w w4) := Lib.hid (HB.out.trans (a2 _ hbm))
        obtain ⟨g4, cap4, hout, hge, hlt4, hne, hrow⟩ := a1.list (full_pos l (rs r))
        have hfl := full_length l (rs r)
        have hseen := a1.seen
        have hlk := a1.map.look nRes (by decide)
        have HS := Lib.hid a1
        clear a1 a2 a3 hrow
        go_wp2_with fail
        · go_ret2
          exact norm_err (normS_err10 ‹_›) HB4.out rfl
        · go_ret2
          exact norm_err (normS_st2 ‹_› ‹_› ‹_› ‹_›) HB4.out rfl
        · refine (fen_bad _ w4 (HG0.out.below HB4.out) (hfen hset).1 (hfen hset).2).mono ?_
          rintro e w5 ⟨rfl, hb5⟩
          have hst := store_self Tryz.prog (holds_new1 w5 Tryz.zeroCells69 69) zc_one
          have HB5 : Hid (Below w.heap.size w (w5.alloc (.cells Tryz.zeroCells69 69))) := Lib.hid ((HB4.out.trans (hb5.mono HB4.out.size)).alloc (Nat.le_trans HB4.out.size hb5.size) _)
          clear hb5
          go_wp2
          go_ret2
          exact norm_err (normS_fen ‹_› ‹_› (Or.inr ‹_›) hset) HB5.out rfl
        · refine (fen_bad _ w4 (HG0.out.below HB4.out) (hfen hset).1 (hfen hset).2).mono ?_
          rintro e w5 ⟨rfl, hb5⟩
          have hst := store_self Tryz.prog (holds_new1 w5 Tryz.zeroCells69 69) zc_one
          have HB5 : Hid (Below w.heap.size w (w5.alloc (.cells Tryz.zeroCells69 69))) := Lib.hid ((HB4.out.trans (hb5.mono HB4.out.size)).alloc (Nat.le_trans HB4.out.size hb5.size) _)
          clear hb5
          go_wp2
          go_ret2
          exact norm_err (normS_fen ‹_› ‹_› (Or.inl ‹_›) hset) HB5.out rfl
        · go_ret2
          exact norm_err (normS_st1 ‹_› ‹_›) HB4.out rfl
      · simp only [Bool.not_eq_true] at hset
        have ef : full l (rs r) = addTo (rs r) l 7 := by unfold full; rw [hset]; rfl
        rw [← ef] at hst
        obtain ⟨g4, cap4, hout, hge, hlt4, hne, hrow⟩ := hst.list (full_pos l (rs r))
        have hfl := full_length l (rs r)
        have hseen := hst.seen
        have hlk := hst.map.look nRes (by decide)
        have HS := Lib.hid hst
        have HR := Lib.hid hrow
        clear hst hrow ef
        rw [hset]
        go_wp2_with fail
        · go_ret2
          exact norm_err (normS_err10 ‹_›) HB.out rfl
        · go_ret2
          exact norm_err (normS_st3 ‹_› ‹_› ‹_› hset) HB.out rfl
        · have HK : Hid (normS l (rs r) = .ok (sortTags (full l (rs r)))) := Lib.hid (normS_ok ‹_› ‹_› ‹_› hset)
          refine (sort_any (full l (rs r)) g4 0 cap4 wr (HG0.out.below HB.out) (by unfold nG; omega) hlt4 HR.out HS.out.map.nodup (by omega)).mono ?_
          rintro e w5 ⟨rfl, hrow5, hg5⟩
          have hout5 := cell_grown hg5 (p := ⟨w2.heap.size, 0, none⟩) HS.out.lth (by simp; omega) hout
          have HB5 : Hid (Below w.heap.size w w5) := Lib.hid (HB.out.grown hg5 HB.out.size (fun j e => by cases e; omega))
          have HL : Hid (g4 < w5.heap.size) := Lib.hid (Nat.lt_of_lt_of_le hlt4 hg5.size)
          have HR5 := Lib.hid hrow5
          clear hrow5 hg5 hout
          go_wp2
          go_ret2
          rw [HK.out]
          exact ⟨HB5.out, g4, cap4, by rw [sortTags_length]; rfl, by omega, HL.out, HR5.out⟩
        · go_ret2
          exact norm_err (normS_st1 ‹_› ‹_›) HB.out rfl

end Go.Proofs.YtogcepiofpmabaaGreatDoor
