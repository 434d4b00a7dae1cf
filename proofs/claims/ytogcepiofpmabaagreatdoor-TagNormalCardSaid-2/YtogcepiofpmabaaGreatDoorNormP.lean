/- Plain law of TagNormal: what tag.Normal answers at valid tags by numbers together with some of the roster. -/
import Derived.Test.YtogcepiofpmabaaGreatDoorRefP
namespace Go.Proofs.YtogcepiofpmabaaGreatDoor
open Go.RowKit Go.Lib

abbrev sGiven : ByteArray := ⟨#[103, 105, 118, 101, 110]⟩
/-- The value that is given to a name of the roster. -/
def gv (word : ByteArray) (i : Nat) : ByteArray := if i = 6 then word else sGiven
/-- The given tags among the first k of the roster. -/
def givL (b : Nat → Bool) (word : ByteArray) (k : Nat) : List Tag := ((List.range k).filter b).map fun i => (rn i, gv word i)
theorem givL_zero (b : Nat → Bool) (word : ByteArray) : givL b word 0 = [] := rfl
theorem givL_yes {b : Nat → Bool} (word : ByteArray) {k : Nat} (h : b k = true) : givL b word (k + 1) = givL b word k ++ [(rn k, gv word k)] := by
  unfold givL
  rw [List.range_succ, List.filter_append, List.filter_cons_of_pos h, List.map_append]
  rfl
theorem givL_no {b : Nat → Bool} (word : ByteArray) {k : Nat} (h : b k = false) : givL b word (k + 1) = givL b word k := by
  unfold givL
  rw [List.range_succ, List.filter_append, List.filter_cons_of_neg (by rw [h]; decide), List.filter_nil, List.append_nil]
/-- The tags of the roster that are missing among the first k. -/
def missL (b : Nat → Bool) (word : ByteArray) (k : Nat) : List Tag := ((List.range k).filter fun i => !b i).map fun i => (rn i, orS (rv i) word)
theorem missL_zero (b : Nat → Bool) (word : ByteArray) : missL b word 0 = [] := rfl
theorem missL_no {b : Nat → Bool} (word : ByteArray) {k : Nat} (h : b k = false) : missL b word (k + 1) = missL b word k ++ [(rn k, orS (rv k) word)] := by
  unfold missL
  rw [List.range_succ, List.filter_append, List.filter_cons_of_pos (by rw [h]; rfl), List.map_append]
  rfl
theorem missL_yes {b : Nat → Bool} (word : ByteArray) {k : Nat} (h : b k = true) : missL b word (k + 1) = missL b word k := by
  unfold missL
  rw [List.range_succ, List.filter_append, List.filter_cons_of_neg (by rw [h]; decide), List.filter_nil, List.append_nil]
theorem missL_has (b : Nat → Bool) (word : ByteArray) (k : Nat) (hk : k < 7) : hasN (missL b word k) (rn k) = false := hasN_no fun t ht => by
  unfold missL at ht
  obtain ⟨i, hi, rfl⟩ := List.mem_map.1 ht
  have := List.mem_range.1 (List.mem_filter.1 hi).1
  exact rn_ne (by omega) hk (by omega)
theorem addTo_miss (b : Nat → Bool) (word : ByteArray) (l : List Tag) (h : ∀ k, k < 7 → hasN l (rn k) = b k) : ∀ k, k ≤ 7 → addTo word l k = l ++ missL b word k
  | 0, _ => by unfold addTo; rw [missL_zero, List.append_nil]
  | k + 1, hk => by
    unfold addTo
    rw [addTo_miss b word l h k (by omega)]
    unfold addIf
    rw [hasN_append, h k (by omega), missL_has b word k (by omega), Bool.or_false]
    cases hb : b k with
    | true => rw [if_pos rfl, missL_yes word hb]
    | false => rw [if_neg Bool.false_ne_true, missL_no word hb, List.append_assoc]

/-- The roster's values in the normal tags. -/
def wv (b : Nat → Bool) (word : ByteArray) (i : Nat) : ByteArray := if b i then gv word i else orS (rv i) word
def rosV7 (b : Nat → Bool) (word : ByteArray) : List Tag := (List.range 7).map fun i => (rn i, wv b word i)
theorem wv_res (b : Nat → Bool) (word : ByteArray) : wv b word 6 = word := by
  unfold wv
  split
  · rfl
  · exact orS_empty word
theorem giv_miss (b : Nat → Bool) (word : ByteArray) : (givL b word 7 ++ missL b word 7).Perm (rosV7 b word) := by
  have e1 : givL b word 7 = ((List.range 7).filter b).map fun i => (rn i, wv b word i) := by
    unfold givL
    refine List.map_congr_left fun i hi => ?_
    have := (List.mem_filter.1 hi).2
    unfold wv
    rw [if_pos this]
  have e2 : missL b word 7 = ((List.range 7).filter fun i => !b i).map fun i => (rn i, wv b word i) := by
    unfold missL
    refine List.map_congr_left fun i hi => ?_
    have := (List.mem_filter.1 hi).2
    unfold wv
    rw [if_neg (by simpa using this)]
  rw [e1, e2, ← List.map_append]
  unfold rosV7
  exact (List.filter_append_perm b (List.range 7)).map _

/-- The tags that the law gives. -/
def tgs (U : List Tag) (b : Nat → Bool) (word : ByteArray) : List Tag := U ++ givL b word 7
/-- The normal tags. -/
def nrm (U : List Tag) (b : Nat → Bool) (word : ByteArray) : List Tag := rosV7 b word ++ sortTags U
/-- The same, not sorted. -/
def unsorted (U : List Tag) (b : Nat → Bool) (word : ByteArray) : List Tag := tgs U b word ++ missL b word 7

theorem unsorted_perm (U : List Tag) (b : Nat → Bool) (word : ByteArray) : (unsorted U b word).Perm (U ++ rosV7 b word) := by
  unfold unsorted tgs
  rw [List.append_assoc]
  exact (giv_miss b word).append_left U
theorem nrm_perm (U : List Tag) (b : Nat → Bool) (word : ByteArray) : (nrm U b word).Perm (unsorted U b word) := by
  refine List.Perm.trans ?_ (unsorted_perm U b word).symm
  unfold nrm
  exact List.perm_append_comm.trans ((sortTags_perm U).append_right _)
theorem rosV7_length (b : Nat → Bool) (word : ByteArray) : (rosV7 b word).length = 7 := by unfold rosV7; simp
theorem nrm_length (U : List Tag) (b : Nat → Bool) (word : ByteArray) : (nrm U b word).length = U.length + 7 := by
  unfold nrm
  rw [List.length_append, rosV7_length, sortTags_length]
  omega
theorem nrm_count (U : List Tag) (b : Nat → Bool) (word : ByteArray) : (tgs U b word).length + (missL b word 7).length = (nrm U b word).length := by
  rw [(nrm_perm U b word).length_eq]
  unfold unsorted
  rw [List.length_append]
theorem ros_names (b : Nat → Bool) (word : ByteArray) : (rosV7 b word).map (·.1) = (List.range 7).map rn := by
  unfold rosV7
  rw [List.map_map]
  rfl
theorem ros_dif : ((List.range 7).map rn).Nodup := by
  have h : difB ((List.range 7).map fun i => (rn i, (⟨#[]⟩ : ByteArray))) = true := by kernel_rfl
  have := dif_of_b h
  rw [List.map_map] at this
  exact this
theorem both_dif {U : List Tag} (h : Ok U) (b : Nat → Bool) (word : ByteArray) : ((U ++ rosV7 b word).map (·.1)).Nodup := by
  rw [List.map_append, List.nodup_append, ros_names]
  refine ⟨h.dif, ros_dif, fun x hx y hy e => ?_⟩
  subst e
  obtain ⟨i, hi, rfl⟩ := List.mem_map.1 hy
  obtain ⟨t, ht, e⟩ := List.mem_map.1 hx
  have h1 := (rn_first_ne (List.mem_range.1 hi)).1
  obtain ⟨z, rfl⟩ := h.wd t ht
  exact h1 (by rw [← e]; exact nmB_first z.l1)
theorem uns_dif {U : List Tag} (h : Ok U) (b : Nat → Bool) (word : ByteArray) : ((unsorted U b word).map (·.1)).Nodup :=
  (((unsorted_perm U b word).map _).nodup_iff).2 (both_dif h b word)
theorem nrm_dif {U : List Tag} (h : Ok U) (b : Nat → Bool) (word : ByteArray) : ((nrm U b word).map (·.1)).Nodup :=
  (((nrm_perm U b word).map _).nodup_iff).2 (uns_dif h b word)

theorem plc_ros : ((List.range 7).all fun i => plc (rn i) 7 0 == (i : Int)) = true := by kernel_rfl
theorem plc_rn {i : Nat} (hi : i < 7) : plc (rn i) 7 0 = i := eq_of_beq (List.all_eq_true.1 plc_ros i (List.mem_range.2 hi))
theorem plc_none {n : ByteArray} (h : ∀ k, k < 7 → rn k ≠ n) : plc n 7 0 = 7 := by
  have hb : ∀ k, k < 7 → ((rn k).toList == n.toList) = false := fun k hk => (bytes_beq_false_iff _ _).2 (h k hk)
  rw [plc_miss n 6 0 (hb 0 (by decide)), plc_miss n 5 1 (hb 1 (by decide)), plc_miss n 4 2 (hb 2 (by decide)), plc_miss n 3 3 (hb 3 (by decide)), plc_miss n 2 4 (hb 4 (by decide)), plc_miss n 1 5 (hb 5 (by decide)), plc_miss n 0 6 (hb 6 (by decide))]
  rfl
theorem plc_wd {U : List Tag} (h : Ok U) {t : Tag} (ht : t ∈ U) : plc t.1 7 0 = 7 := by
  obtain ⟨x, rfl⟩ := h.wd t ht
  exact plc_none fun k hk e => (rn_first_ne hk).1 (by rw [e]; exact nmB_first x.l1)

theorem sortTags_ord (l : List Tag) : (sortTags l).Pairwise leT := by
  unfold sortTags
  refine List.pairwise_mergeSort ?_ ?_ _
  · intro a b c h1 h2
    simp only [Bool.not_eq_true'] at h1 h2 ⊢
    exact tlt_swo.ntrans _ _ _ h2 h1
  · intro a b
    cases h : tlt b.1 a.1 with
    | false => simp
    | true => simp [tlt_swo.asymmA h]
theorem nrm_ord {U : List Tag} (h : Ok U) (b : Nat → Bool) (word : ByteArray) : (nrm U b word).Pairwise leT := by
  unfold nrm
  rw [List.pairwise_append]
  refine ⟨?_, sortTags_ord U, fun x hx y hy => ?_⟩
  · unfold rosV7
    rw [List.pairwise_map]
    refine List.Pairwise.imp_of_mem (fun {i j} hi hj hij => ?_) (List.pairwise_lt_range (n := 7))
    unfold leT
    rw [Bool.not_eq_true', tlt_false]
    left
    simp only
    rw [plc_rn (List.mem_range.1 hi), plc_rn (List.mem_range.1 hj)]
    omega
  · unfold rosV7 at hx
    obtain ⟨i, hi, rfl⟩ := List.mem_map.1 hx
    have hi' := List.mem_range.1 hi
    unfold leT
    rw [Bool.not_eq_true', tlt_false]
    left
    simp only
    rw [plc_rn hi', plc_wd h ((sortTags_perm U).mem_iff.1 hy)]
    omega
theorem nrm_ros {U : List Tag} (b : Nat → Bool) (word : ByteArray) {i : Nat} (hi : i < 7) : (nrm U b word)[i]? = some (rn i, wv b word i) := by
  unfold nrm
  rw [List.getElem?_append_left (by rw [rosV7_length]; exact hi)]
  unfold rosV7
  rw [List.getElem?_map, List.getElem?_range hi]
  rfl
/-- Behind the roster the names go up. -/
theorem nrm_up {U : List Tag} (h : Ok U) (b : Nat → Bool) (word : ByteArray) {i : Nat} {x y : Tag} (hi : 8 ≤ i) (hx : (nrm U b word)[i - 1]? = some x) (hy : (nrm U b word)[i]? = some y) : bts x.1 < bts y.1 := by
  have hxl := (List.getElem?_eq_some_iff.1 hx).1
  have hyl := (List.getElem?_eq_some_iff.1 hy).1
  have ord := List.pairwise_iff_getElem.1 (nrm_ord h b word) (i - 1) i hxl hyl (by omega)
  rw [(List.getElem?_eq_some_iff.1 hx).2, (List.getElem?_eq_some_iff.1 hy).2] at ord
  unfold leT at ord
  rw [Bool.not_eq_true'] at ord
  have hne : x.1 ≠ y.1 := by
    intro e
    have hn := List.nodup_iff_pairwise_ne.1 (nrm_dif h b word)
    have := List.pairwise_iff_getElem.1 hn (i - 1) i (by simpa using hxl) (by simpa using hyl) (by omega)
    rw [List.getElem_map, List.getElem_map, (List.getElem?_eq_some_iff.1 hx).2, (List.getElem?_eq_some_iff.1 hy).2] at this
    exact this e
  have hmem : ∀ (j : Nat) (t : Tag), 7 ≤ j → (nrm U b word)[j]? = some t → plc t.1 7 0 = 7 := fun j t hj ht => by
    unfold nrm at ht
    rw [List.getElem?_append_right (by rw [rosV7_length]; exact hj)] at ht
    exact plc_wd h ((sortTags_perm U).mem_iff.1 (List.mem_of_getElem? ht))
  have p1 := hmem (i - 1) x (by omega) hx
  have p2 := hmem i y (by omega) hy
  have ht : tlt x.1 y.1 = true := by
    cases ht : tlt x.1 y.1 with
    | true => rfl
    | false => exact absurd (tlt_total _ _ ht ord) hne
  rw [tlt_iff] at ht
  rcases ht with ht | ht
  · omega
  · exact ht.2

theorem perm_has {l m : List Tag} (h : l.Perm m) (n : ByteArray) : hasN l n = hasN m n := by
  rw [Bool.eq_iff_iff, hasN_iff, hasN_iff]
  exact (h.map (·.1)).mem_iff
theorem giv_has (b : Nat → Bool) (word : ByteArray) (k : Nat) (hk : k < 7) : hasN (givL b word 7) (rn k) = b k := by
  cases hb : b k with
  | true =>
    rw [hasN_iff]
    exact List.mem_map.2 ⟨(rn k, gv word k), List.mem_map.2 ⟨k, List.mem_filter.2 ⟨List.mem_range.2 hk, hb⟩, rfl⟩, rfl⟩
  | false =>
    refine hasN_no fun t ht => ?_
    unfold givL at ht
    obtain ⟨i, hi, rfl⟩ := List.mem_map.1 ht
    obtain ⟨h1, h2⟩ := List.mem_filter.1 hi
    refine rn_ne (List.mem_range.1 h1) hk (fun e => ?_)
    rw [e, hb] at h2
    exact Bool.noConfusion h2
theorem ros_other : ((List.range 7).all fun i => !decide (rn i = nFen) && !decide (rn i = nSet)) = true := by kernel_rfl
theorem rn_other {i : Nat} (hi : i < 7) : rn i ≠ nFen ∧ rn i ≠ nSet := by
  have h := List.all_eq_true.1 ros_other i (List.mem_range.2 hi)
  rw [Bool.and_eq_true, Bool.not_eq_true', Bool.not_eq_true', decide_eq_false_iff_not, decide_eq_false_iff_not] at h
  exact h
theorem giv_other (b : Nat → Bool) (word : ByteArray) : hasN (givL b word 7) nFen = false ∧ hasN (givL b word 7) nSet = false := by
  constructor
  · refine hasN_no fun t ht => ?_
    unfold givL at ht
    obtain ⟨i, hi, rfl⟩ := List.mem_map.1 ht
    exact (rn_other (List.mem_range.1 (List.mem_filter.1 hi).1)).1
  · refine hasN_no fun t ht => ?_
    unfold givL at ht
    obtain ⟨i, hi, rfl⟩ := List.mem_map.1 ht
    exact (rn_other (List.mem_range.1 (List.mem_filter.1 hi).1)).2
theorem ros_none (b : Nat → Bool) (word : ByteArray) : hasN (rosV7 b word) nFen = false ∧ hasN (rosV7 b word) nSet = false := by
  constructor
  · refine hasN_no fun t ht => ?_
    unfold rosV7 at ht
    obtain ⟨i, hi, rfl⟩ := List.mem_map.1 ht
    exact (rn_other (List.mem_range.1 hi)).1
  · refine hasN_no fun t ht => ?_
    unfold rosV7 at ht
    obtain ⟨i, hi, rfl⟩ := List.mem_map.1 ht
    exact (rn_other (List.mem_range.1 hi)).2
theorem tgs_has {U : List Tag} (h : Ok U) (b : Nat → Bool) (word : ByteArray) (k : Nat) (hk : k < 7) : hasN (tgs U b word) (rn k) = b k := by
  unfold tgs
  rw [hasN_append, h.xy.ros k hk, Bool.false_or, giv_has b word k hk]
theorem tgs_other {U : List Tag} (h : Ok U) (b : Nat → Bool) (word : ByteArray) : hasN (tgs U b word) nFen = false ∧ hasN (tgs U b word) nSet = false := by
  unfold tgs
  rw [hasN_append, hasN_append, h.xy.fen, h.xy.set, (giv_other b word).1, (giv_other b word).2]
  exact ⟨rfl, rfl⟩
theorem nrm_res (U : List Tag) (b : Nat → Bool) (word : ByteArray) : (nRes, word) ∈ nrm U b word := by
  have := nrm_ros (U := U) b word (i := 6) (by decide)
  rw [wv_res] at this
  exact List.mem_of_getElem? this

theorem norm_of {l m : List Tag} {word : ByteArray} (hf : full l word = m) (hl : m.length ≤ 24) (hn : (m.map (·.1)).Nodup) (hr : (nRes, word) ∈ m) (h1 : hasN l nFen = false) (h2 : hasN l nSet = false) : normS l word = .ok (sortTags m) := by
  unfold normS stateB
  rw [hf, if_neg (by omega), valOf_mem m hn _ hr, h1, h2]
  simp
/-- tag.Normal at the tags in whatever order. -/
theorem norm_tgs {U : List Tag} (h : Ok U) (hU : U.length ≤ 15) (b : Nat → Bool) (word : ByteArray) {L : List Tag} (hL : L.Perm (tgs U b word)) : normS L word = .ok (nrm U b word) := by
  have hfen : hasN L nFen = false := (perm_has hL nFen).trans (tgs_other h b word).1
  have hset : hasN L nSet = false := (perm_has hL nSet).trans (tgs_other h b word).2
  have hf : full L word = L ++ missL b word 7 := by
    unfold full
    rw [hfen, if_neg Bool.false_ne_true]
    exact addTo_miss b word L (fun k hk => (perm_has hL (rn k)).trans (tgs_has h b word k hk)) 7 (Nat.le_refl _)
  have hp : (L ++ missL b word 7).Perm (unsorted U b word) := hL.append_right _
  have hd : ((L ++ missL b word 7).map (·.1)).Nodup := ((hp.map _).nodup_iff).2 (uns_dif h b word)
  rw [norm_of hf ?_ hd ?_ hfen hset]
  · rw [sort_eq _ (nrm U b word) hd ((nrm_perm U b word).trans hp.symm) (nrm_ord h b word)]
  · rw [hp.length_eq, ← (nrm_perm U b word).length_eq, nrm_length]
    omega
  · exact hp.mem_iff.2 ((nrm_perm U b word).mem_iff.1 (nrm_res U b word))
/-- Normal tags are normal again. -/
theorem norm_nrm {U : List Tag} (h : Ok U) (hU : U.length ≤ 15) (b : Nat → Bool) (word : ByteArray) : normS (nrm U b word) word = .ok (nrm U b word) := by
  have hx : ∀ n, hasN (sortTags U) n = hasN U n := perm_has (sortTags_perm U)
  have hfen : hasN (nrm U b word) nFen = false := by
    unfold nrm
    rw [hasN_append, hx, h.xy.fen, (ros_none b word).1]
    rfl
  have hset : hasN (nrm U b word) nSet = false := by
    unfold nrm
    rw [hasN_append, hx, h.xy.set, (ros_none b word).2]
    rfl
  have hf : full (nrm U b word) word = nrm U b word := by
    unfold full
    rw [hfen, if_neg Bool.false_ne_true, addTo_miss (fun _ => true) word (nrm U b word) ?_ 7 (Nat.le_refl _)]
    · show nrm U b word ++ [] = _
      rw [List.append_nil]
    · intro k hk
      rw [hasN_iff]
      exact List.mem_map.2 ⟨_, List.mem_of_getElem? (nrm_ros b word hk), rfl⟩
  rw [norm_of hf (by rw [nrm_length]; omega) (nrm_dif h b word) (nrm_res U b word) hfen hset, sort_eq _ _ (nrm_dif h b word) (List.Perm.refl _) (nrm_ord h b word)]

theorem ros_good : ((List.range 4).all fun r => (List.range 7).all fun i => (checkE (rn i) (gv (rs r) i) == 0) && (checkE (rn i) (orS (rv i) (rs r)) == 0) && decide ((gv (rs r) i).size ≤ 20) && decide ((orS (rv i) (rs r)).size ≤ 20)) = true := by kernel_rfl
theorem ros_ok {r i : Nat} (hr : r < 4) (hi : i < 7) (b : Nat → Bool) : checkE (rn i) (gv (rs r) i) = 0 ∧ (gv (rs r) i).size ≤ 20 ∧ checkE (rn i) (wv b (rs r) i) = 0 ∧ (wv b (rs r) i).size ≤ 20 := by
  have h := List.all_eq_true.1 (List.all_eq_true.1 ros_good r (List.mem_range.2 hr)) i (List.mem_range.2 hi)
  rw [Bool.and_eq_true, Bool.and_eq_true, Bool.and_eq_true, decide_eq_true_iff, decide_eq_true_iff, beq_iff_eq, beq_iff_eq] at h
  refine ⟨h.1.1.1, h.1.2, ?_, ?_⟩
  · unfold wv
    split
    · exact h.1.1.1
    · exact h.1.1.2
  · unfold wv
    split
    · exact h.1.2
    · exact h.2
/-- Valid, and not too long. -/
def Fine (l : List Tag) : Prop := Good l ∧ Sized l
theorem Fine.perm {l m : List Tag} (h : Fine m) (hp : l.Perm m) : Fine l := ⟨fun t ht => h.1 t (hp.mem_iff.1 ht), fun t ht => h.2 t (hp.mem_iff.1 ht)⟩
theorem Fine.append {l m : List Tag} (h : Fine l) (k : Fine m) : Fine (l ++ m) := ⟨fun t ht => (List.mem_append.1 ht).elim (h.1 t) (k.1 t), fun t ht => (List.mem_append.1 ht).elim (h.2 t) (k.2 t)⟩
theorem Ok.fine {U : List Tag} (h : Ok U) : Fine U := ⟨h.good, h.sized⟩
theorem giv_fine {r : Nat} (hr : r < 4) (b : Nat → Bool) : Fine (givL b (rs r) 7) := by
  constructor <;> intro t ht <;> unfold givL at ht <;> obtain ⟨i, hi, rfl⟩ := List.mem_map.1 ht <;> have hi' := List.mem_range.1 (List.mem_filter.1 hi).1 <;> obtain ⟨h1, h2, _⟩ := ros_ok hr hi' b
  · exact h1
  · have := rn_size i
    unfold maxLen
    simp only
    omega
theorem ros_fine {r : Nat} (hr : r < 4) (b : Nat → Bool) : Fine (rosV7 b (rs r)) := by
  constructor <;> intro t ht <;> unfold rosV7 at ht <;> obtain ⟨i, hi, rfl⟩ := List.mem_map.1 ht <;> have hi' := List.mem_range.1 hi <;> obtain ⟨_, _, h1, h2⟩ := ros_ok hr hi' b
  · exact h1
  · have := rn_size i
    unfold maxLen
    simp only
    omega
theorem tgs_fine {U : List Tag} (h : Ok U) {r : Nat} (hr : r < 4) (b : Nat → Bool) : Fine (tgs U b (rs r)) := h.fine.append (giv_fine hr b)
theorem nrm_fine {U : List Tag} (h : Ok U) {r : Nat} (hr : r < 4) (b : Nat → Bool) : Fine (nrm U b (rs r)) := (ros_fine hr b).append (h.fine.perm (sortTags_perm U))
theorem tgs_dif {U : List Tag} (h : Ok U) (b : Nat → Bool) (word : ByteArray) : ((tgs U b word).map (·.1)).Nodup := by
  have := uns_dif h b word
  unfold unsorted at this
  rw [List.map_append, List.nodup_append] at this
  exact this.1
/-- Each tag is found again. -/
theorem nrm_val {U : List Tag} (h : Ok U) (b : Nat → Bool) (word : ByteArray) {t : Tag} (ht : t ∈ tgs U b word) : valOf (nrm U b word) t.1 = t.2 ∧ hasN (nrm U b word) t.1 = true := by
  have hm : t ∈ nrm U b word := (nrm_perm U b word).mem_iff.2 (List.mem_append_left _ ht)
  exact ⟨valOf_mem _ (nrm_dif h b word) t hm, (hasN_iff _ _).2 (List.mem_map.2 ⟨t, hm, rfl⟩)⟩
/-- A value that is added begins with a question mark. -/
theorem rv_mark : ((List.range 6).all fun i => decide (0 < (rv i).size) && (byt (rv i) 0 == 63)) = true := by kernel_rfl
theorem orS_own {a c : ByteArray} (h : 0 < a.size) : orS a c = a := by
  unfold orS
  rw [nonempty_toList a h, if_neg Bool.false_ne_true]
theorem wv_mark {b : Nat → Bool} {i : Nat} (hi : i < 6) (hb : b i = false) (word : ByteArray) : 0 < (wv b word i).size ∧ byt (wv b word i) 0 = 63 := by
  have h := List.all_eq_true.1 rv_mark i (List.mem_range.2 hi)
  rw [Bool.and_eq_true, decide_eq_true_iff, beq_iff_eq] at h
  unfold wv
  rw [hb, if_neg Bool.false_ne_true, orS_own h.1]
  exact h

/-- The tags, turned. -/
def turnK (l : List Tag) (n k : Nat) : List Tag := (List.range k).map fun i => l.getD ((i + n) % l.length) (⟨#[]⟩, ⟨#[]⟩)
theorem turnK_succ (l : List Tag) (n k : Nat) : turnK l n (k + 1) = turnK l n k ++ [l.getD ((k + n) % l.length) (⟨#[]⟩, ⟨#[]⟩)] := by
  unfold turnK
  rw [List.range_succ, List.map_append]
  rfl
theorem turnK_length (l : List Tag) (n k : Nat) : (turnK l n k).length = k := by unfold turnK; simp
theorem turn_eq (l : List Tag) (n : Nat) : turnK l n l.length = l.drop (n % l.length) ++ l.take (n % l.length) := by
  refine List.ext_getElem (by rw [turnK_length]; simp; omega) fun i h0 h2 => ?_
  have h1 := h0
  rw [turnK_length] at h1
  have hn := Nat.mod_lt n (show 0 < l.length by omega)
  have e : (i + n) % l.length = if i + n % l.length < l.length then i + n % l.length else i + n % l.length - l.length := by
    rw [Nat.add_mod, Nat.mod_eq_of_lt h1]
    split
    · rename_i h; exact Nat.mod_eq_of_lt h
    · rw [Nat.mod_eq_sub_mod (by omega), Nat.mod_eq_of_lt (by omega)]
  have e0 : (turnK l n l.length)[i] = l.getD ((i + n) % l.length) (⟨#[]⟩, ⟨#[]⟩) := by
    simp only [turnK, List.getElem_map, List.getElem_range]
  rw [e0, e, List.getElem_append]
  split
  · rename_i h
    rw [dif_pos (by simp; omega), List.getElem_drop, List.getD_eq_getElem?_getD, List.getElem?_eq_getElem h]
    simp only [Option.getD_some]
    congr 1
    omega
  · rename_i h
    rw [dif_neg (by simp; omega), List.getElem_take, List.getD_eq_getElem?_getD, List.getElem?_eq_getElem (by omega)]
    simp only [Option.getD_some, List.length_drop]
    congr 1
    omega
theorem turn_perm (l : List Tag) (n : Nat) : (turnK l n l.length).Perm l := by
  rw [turn_eq]
  exact List.perm_append_comm.trans (by rw [List.take_append_drop])
end Go.Proofs.YtogcepiofpmabaaGreatDoor
