/- Contract of Words.Tag: a valid tag by numbers. -/
import Derived.Test.YtogcepiofpmabaaGreatDoorWTagP
import Derived.Test.YtogcepiofpmabaaGreatDoorOnesB
import Derived.Lib.SmallJoins
import Derived.Test.YtogcepiofpmabaaGreatDoorWords
import Derived.Outline
namespace Go.Proofs.YtogcepiofpmabaaGreatDoor
open Go.RowKit Go.Lib Go.Maps

/-- A slice of bytes, for reading. -/
def BRead (w : World) (a : Option Addr) (l : List Int) : Prop :=
  (∀ z ∈ l, 0 ≤ z ∧ z < 256) ∧ (l ≠ [] → ∃ p, a = some p ∧ ∀ i z, l[i]? = some z → w.cell? (p.add i) = some (.int .u8 z))
theorem BRead.below {w w' : World} {a : Option Addr} {l : List Int} (h : BRead w a l) (hb : Below w.heap.size w w') : BRead w' a l :=
  ⟨h.1, fun hl => by
    obtain ⟨p, e, hc⟩ := h.2 hl
    exact ⟨p, e, fun i z hz => cell_later hb (hc i z hz)⟩⟩

theorem infoU8 : (Tryz.prog.info? 5).map (fun i => (i.zero, i.size, i.bytes)) = some (some (.int .u8 0), 1, 1) := by kernel_rfl
/-- Bytes as cells. -/
def u8s (l : List Int) : List Value := l.map (Value.int .u8)
theorem u8s_snoc (l : List Int) (x : Int) : u8s (l ++ [x]) = u8s l ++ [.int .u8 x] := by unfold u8s; rw [List.map_append]; rfl
/-- What stands after so many rounds. -/
def nmK (l : List Int) (k : Nat) : List Int := 88 :: (l.take k).map ltrI
def vlK (l : List Int) (k : Nat) : List Int := (l.take k).map fun z => 32 + z % 95
theorem nmK_succ (l : List Int) (k : Nat) (hk : k < l.length) : nmK l (k + 1) = nmK l k ++ [ltrI l[k]] := nmL_snoc l k hk
theorem vlK_succ (l : List Int) (k : Nat) (hk : k < l.length) : vlK l (k + 1) = vlK l k ++ [32 + l[k] % 95] := vlL_snoc l k hk
theorem nmK_end (l : List Int) (k : Nat) (hk : k ≤ l.length) (hn : k ≤ 20) (h : ¬ (k < l.length ∧ k < 20)) : nmK l k = nmL l := by
  unfold nmK nmL
  rw [take_end l k 20 hk hn h]
theorem vlK_end (l : List Int) (k : Nat) (hk : k ≤ l.length) (hn : k ≤ 100) (h : ¬ (k < l.length ∧ k < 100)) : vlK l k = vlL l := by
  unfold vlK vlL
  rw [take_end l k 100 hk hn h]
theorem nmK_length (l : List Int) (k : Nat) (hk : k ≤ l.length) : (nmK l k).length = k + 1 := by unfold nmK; simp; omega
theorem vlK_length (l : List Int) (k : Nat) (hk : k ≤ l.length) : (vlK l k).length = k := by unfold vlK; simp; omega
theorem own_one (w : World) (base : Nat) (hb : base ≤ w.heap.size) : (w.alloc (.cells #[.int .u8 88] 5)).ownsRow base 5 1 (.slice (some ⟨w.heap.size, 0, none⟩) 1 1) 1 (u8s [88]) :=
  ⟨rfl, Or.inr ⟨_, _, _, rfl, hb, heap_alloc_new w _, Nat.le_refl _, by unfold maxLen; omega, rfl, rfl⟩⟩
theorem own_none (w : World) (base : Nat) (hb : base ≤ w.heap.size) : (w.alloc (.cells #[] 5)).ownsRow base 5 1 (.slice (some ⟨w.heap.size, 0, none⟩) 0 0) 0 (u8s []) :=
  ⟨rfl, Or.inr ⟨_, _, _, rfl, hb, heap_alloc_new w _, Nat.le_refl _, by unfold maxLen; omega, rfl, rfl⟩⟩
theorem own_string {w : World} {base g cap n : Nat} {l : List Int} (hn : n = l.length) (h : w.ownsRow base 5 1 (.slice (some ⟨g, 0, none⟩) n cap) n (u8s l)) :
    (convert 22 9 (.slice (some ⟨g, 0, none⟩) n cap)).run Tryz.prog w = .ok (.string (strOfNums l)) w := by
  subst hn
  exact run_convert_bytes_arg w 22 5 Tryz.underlying22 Tryz.underlying5 g 0 l.length cap l rfl (fun i hi => by
    rw [Nat.zero_add, h.cellAt i (by omega)]
    simp [u8s, List.getD_eq_getElem?_getD, hi]) 9 Tryz.underlying9
theorem let_index (m : Nat) (hm : m < 63) (w : World) : (Instr.index 9 (.string lets) (.int .i64 m)).run Tryz.prog w = .ok (.int .u8 (ltrN m)) w := by
  have hs : lets.size = 63 := by kernel_rfl
  have hl : (m : Int) < (lets.size : Int) := by omega
  have e := byt_eq lets m (by omega)
  have e2 : ltrN m = byt lets m := rfl
  rw [e2, ← e, run_index_string w _ _ _ _ Tryz.underlying9, dif_pos ⟨by omega, hl⟩]
  rfl

/-- A tag in its box is the result. -/
theorem tag_result {W : World} {b : Nat} {n v : ByteArray} {tmps : Array Value} (k0 : W.cell? ⟨b, 0, none⟩ = some (.string n)) (k1 : W.cell? ⟨b, 1, none⟩ = some (.string v)) (h : tmps.getD 2 undef = .pointer (some ⟨b, 0, none⟩)) :
    Sem.run Tryz.prog (results Tryz.f9 tmps) W = .ok (.agg #[.string n, .string v]) W := by
  have hr : Tryz.f9.results = #[.cell 2 27] := rfl
  have e := run_loadCellsFrom_list Tryz.prog W ⟨b, 0, none⟩ [.string n, .string v] 2 rfl (fun j u hj => by
    match j, hj with
    | 0, hj => simp at hj; subst hj; simpa [Addr.add] using k0
    | 1, hj => simp at hj; subst hj; simpa [Addr.add] using k1
    | j + 2, hj => simp at hj)
  have hl : Sem.run Tryz.prog (loadVar 27 ⟨b, 0, none⟩) W = .ok (.agg #[.string n, .string v]) W := by
    unfold loadVar
    simp only [Sem.run_bind, Tryz.isAgg27, Result.andThen_ok, if_true, Tryz.sizeOf27, loadCells, Sem.run_pure]
    rw [e]
    rfl
  simp only [results, hr]
  have h' : tmps[2]?.getD undef = .pointer (some ⟨b, 0, none⟩) := by simpa using h
  simp [h', asAddr, hl]

/-- The world in which Words.Tag's loops begin. -/
def wtW (w : World) (a1 a2 : Option Addr) (n1 n2 c1 c2 : Nat) : World :=
  (((w.alloc (.cells #[.slice a1 n1 c1, .slice a2 n2 c2] 24)).alloc (.cells #[.string ⟨#[]⟩, .string ⟨#[]⟩] 27)).alloc (.cells #[.int .u8 88] 5)).alloc (.cells #[] 5)
structure WtW (w W : World) (a1 a2 : Option Addr) (n1 n2 c1 c2 : Nat) : Prop where
  b0 : W.cell? ⟨w.heap.size, 0, none⟩ = some (.slice a1 n1 c1)
  b1 : W.cell? ⟨w.heap.size, 1, none⟩ = some (.slice a2 n2 c2)
  r0 : W.cell? ⟨w.heap.size + 1, 0, none⟩ = some (.string ⟨#[]⟩)
  r1 : W.cell? ⟨w.heap.size + 1, 1, none⟩ = some (.string ⟨#[]⟩)
  f0 : W.frozen? ⟨w.heap.size + 1, 0, none⟩ = false
  f1 : W.frozen? ⟨w.heap.size + 1, 1, none⟩ = false
  sz : w.heap.size + 4 ≤ W.heap.size
  bw : Below w.heap.size w W
theorem wtW_ok (w : World) (a1 a2 : Option Addr) (n1 n2 c1 c2 : Nat) : WtW w (wtW w a1 a2 n1 n2 c1 c2) a1 a2 n1 n2 c1 c2 := by
  unfold wtW
  refine ⟨?_, ?_, ?_, ?_, ?_, ?_, ?_, ?_⟩
  · rw [World.cell?_alloc_old _ _ _ (by simp; omega), World.cell?_alloc_old _ _ _ (by simp; omega), World.cell?_alloc_old _ _ _ (by simp)]; simp
  · rw [World.cell?_alloc_old _ _ _ (by simp; omega), World.cell?_alloc_old _ _ _ (by simp; omega), World.cell?_alloc_old _ _ _ (by simp)]; simp
  · rw [World.cell?_alloc_old _ _ _ (by simp), World.cell?_alloc_old _ _ _ (by simp), World.cell?_alloc_at _ _ _ _ (by simp)]; rfl
  · rw [World.cell?_alloc_old _ _ _ (by simp), World.cell?_alloc_old _ _ _ (by simp), World.cell?_alloc_at _ _ _ _ (by simp)]; rfl
  · rw [World.frozen?_alloc_old _ _ _ (by simp), World.frozen?_alloc_old _ _ _ (by simp), World.frozen?_alloc_at _ _ _ _ (by simp)]
  · rw [World.frozen?_alloc_old _ _ _ (by simp), World.frozen?_alloc_old _ _ _ (by simp), World.frozen?_alloc_at _ _ _ _ (by simp)]
  · simp
  · exact (((((Below.refl _ _).alloc (Nat.le_refl _) _).alloc (by simp) _).alloc (by simp; omega) _).alloc (by simp; omega) _)
theorem WtW.below {w W W' : World} {a1 a2 : Option Addr} {n1 n2 c1 c2 : Nat} (h : WtW w W a1 a2 n1 n2 c1 c2) (hb : Below (w.heap.size + 2) W W') : WtW w W' a1 a2 n1 n2 c1 c2 := by
  refine ⟨?_, ?_, ?_, ?_, ?_, ?_, Nat.le_trans h.sz hb.size, h.bw.trans (hb.mono (by omega))⟩
  · rw [hb.cell (p := ⟨w.heap.size, 0, none⟩) (by simp only; omega)]; exact h.b0
  · rw [hb.cell (p := ⟨w.heap.size, 1, none⟩) (by simp only; omega)]; exact h.b1
  · rw [hb.cell (p := ⟨w.heap.size + 1, 0, none⟩) (by simp only; omega)]; exact h.r0
  · rw [hb.cell (p := ⟨w.heap.size + 1, 1, none⟩) (by simp only; omega)]; exact h.r1
  · rw [hb.frozen (p := ⟨w.heap.size + 1, 0, none⟩) (by simp only; omega)]; exact h.f0
  · rw [hb.frozen (p := ⟨w.heap.size + 1, 1, none⟩) (by simp only; omega)]; exact h.f1

set_option maxRecDepth 100000 in
set_option maxHeartbeats 4000000 in
theorem wtag_any (l1 l2 : List Int) (a1 a2 : Option Addr) (c1 c2 : Nat) (w : World) (h1 : BRead w a1 l1) (h2 : BRead w a2 l2) (n1 : l1.length ≤ 1000) (n2 : l2.length ≤ 1000) :
    Calls Tryz.prog 9 #[.agg #[.slice a1 l1.length c1, .slice a2 l2.length c2]] w fun e w' => e = .returned (.agg #[.string (nmB l1), .string (vlB l2)]) ∧ Below w.heap.size w w' := by
  obtain ⟨i0, hi0, hz0, hz1, hz2⟩ := info_parts infoU8
  go_enter Tryz.func9, Tryz.ntmps9
  go_wp2
  have o1 : (wtW w a1 a2 l1.length l2.length c1 c2).ownsRow (w.heap.size + 2) 5 1 (.slice (some ⟨w.heap.size + 2, 0, none⟩) 1 1) 1 (u8s (nmK l1 0)) := by
    have := (own_one ((w.alloc (.cells #[.slice a1 l1.length c1, .slice a2 l2.length c2] 24)).alloc (.cells #[.string ⟨#[]⟩, .string ⟨#[]⟩] 27)) (w.heap.size + 2) (by simp)).alloc (.cells #[] 5)
    have e : nmK l1 0 = [88] := rfl
    rw [e]
    simpa [wtW] using this
  have o2 : (wtW w a1 a2 l1.length l2.length c1 c2).ownsRow (w.heap.size + 2) 5 1 (.slice (some ⟨w.heap.size + 3, 0, none⟩) 0 0) 0 (u8s (vlK l2 0)) := by
    have := own_none (((w.alloc (.cells #[.slice a1 l1.length c1, .slice a2 l2.length c2] 24)).alloc (.cells #[.string ⟨#[]⟩, .string ⟨#[]⟩] 27)).alloc (.cells #[.int .u8 88] 5)) (w.heap.size + 2) (by simp)
    have e : vlK l2 0 = [] := rfl
    rw [e]
    simpa [wtW] using this
  have hW := wtW_ok w a1 a2 l1.length l2.length c1 c2
  change Code.wp _ _ _ _ (wtW w a1 a2 l1.length l2.length c1 c2)
  generalize wtW w a1 a2 l1.length l2.length c1 c2 = W at o1 o2 hW ⊢
  go_loopw [6, 4] (fun i sv wr => ∃ k : Nat, k ≤ l1.length ∧ k ≤ 20 ∧ i = .int .i64 k ∧ WtW w wr a1 a2 l1.length l2.length c1 c2 ∧ wr.ownsRow (w.heap.size + 2) 5 1 sv (k + 1) (u8s (nmK l1 k)) ∧ sv.ownBlock ≠ some (w.heap.size + 3) ∧ wr.ownsRow (w.heap.size + 2) 5 1 (.slice (some ⟨w.heap.size + 3, 0, none⟩) 0 0) 0 (u8s (vlK l2 0))) (fun i _ _ => l1.length - (intOf i).toNat)
  case atStart => exact ⟨0, by omega, by omega, rfl, hW, o1, by simp [Value.ownBlock], o2⟩
  case round =>
    clear o1 o2 hW
    obtain ⟨k, hk1, hk2, rfl, hW, o1, on, o2⟩ := hrel
    have hbz := hW.sz
    have hb0 := hW.b0
    have hrl := o1.lt
    by_cases hlt : k < l1.length ∧ k < 20
    · obtain ⟨hlt1, hlt2⟩ := hlt
      obtain ⟨z, hz⟩ : ∃ z, l1[k]? = some z := ⟨_, List.getElem?_eq_getElem hlt1⟩
      have hz2 : z = l1[k] := by rw [List.getElem?_eq_getElem hlt1] at hz; exact (Option.some.inj hz).symm
      obtain ⟨p, e, hc⟩ := h1.2 (fun e => by rw [e] at hlt1; exact absurd hlt1 (Nat.not_lt_zero _))
      subst e
      have hcz := cell_later hW.bw (hc k z hz)
      obtain ⟨hz0', hz1'⟩ := h1.1 z (List.mem_of_getElem? hz)
      obtain ⟨m, hm, hm63⟩ : ∃ m : Nat, z % 63 = (m : Int) ∧ m < 63 := ⟨(z % 63).toNat, by omega, by omega⟩
      have hmt : z.tmod 63 = (m : Int) := by rw [Int.tmod_eq_emod_of_nonneg hz0']; exact hm
      have HL : Hid (ltrI l1[k] = ltrN m) := Lib.hid (by rw [← hz2]; unfold ltrI; rw [hm]; rfl)
      have hcv := fun W => conv_i64 z hz0' hz1' W
      have hix := fun W => let_index m hm63 W
      have HW := Lib.hid hW
      have HS := Lib.hid (nmK_succ l1 k hlt1)
      clear hW h1 h2 hc hz2 hz
      go_wp2_with (at_builtin; refine wpList_append_own_at _ rfl _ _ 22 rfl (w.heap.size + 2) 5 i0 (.int .u8 0) 1 1 Tryz.underlying22 hi0 hz0 hz1 hz2 rfl (by decide) _ _ _ rfl (o1.alloc _) ⟨wr.heap.size, 0, none⟩ 1 1 [.int .u8 (ltrN m)] rfl rfl ?c1 ?c2 ?c3 ?c4 ?c5 ?c6)
      case c1 =>
        intro j u hj
        match j, hj with
        | 0, hj => simp at hj; subst hj; simp [Addr.add]
        | j + 1, hj => simp at hj
      case c2 => intro u hu; simp at hu; rcases hu with rfl; rfl
      case c3 => unfold maxLen; omega
      case c4 => omega
      case c5 => simp; omega
      case c6 =>
        intro v' w2 hown2 hg2 hnil hloc
        have hb2 : Below (w.heap.size + 2) wr w2 := ((Below.refl _ wr).alloc (by omega) _).grown hg2 (by simp; omega) (fun j e => (hrl j e).1)
        have HW2 := Lib.hid (HW.out.below hb2)
        have HO1 : Hid (w2.ownsRow (w.heap.size + 2) 5 1 v' (k + 1 + 1) (u8s (nmK l1 (k + 1)))) := Lib.hid (by rw [HS.out, HL.out, u8s_snoc]; exact hown2)
        have HN : Hid (v'.ownBlock ≠ some (w.heap.size + 3)) := Lib.hid (by
          rcases hloc with e | e
          · rw [e]; exact on
          · rw [e]; intro e2; simp at e2; omega)
        have HO2 := Lib.hid ((o2.alloc _).kept hg2 (Or.inr (fun e => on e.symm)))
        obtain ⟨g, cap, hvv⟩ := Joins.ownsRow_form hown2 (by omega)
        clear hown2 hg2 hnil hloc hb2 o1 o2 hrl
        subst hvv
        go_wp2
        exact ⟨⟨k + 1, by omega, by omega, by go_num, HW2.out, HO1.out, HN.out, HO2.out⟩, by simp [intOf]; omega⟩
    · have hl1 := nmK_length l1 k hk1
      rw [nmK_end l1 k hk1 hk2 hlt] at o1 hl1
      obtain ⟨g1, cap1, hv1⟩ := Joins.ownsRow_form o1 (by omega)
      subst hv1
      have HO1 := Lib.hid o1
      have HO2 := Lib.hid o2
      have HW := Lib.hid hW
      have HG := Lib.hid (hrl g1 rfl)
      have HN := Lib.hid on
      clear hW o1 o2 hrl h1 on
      rcases (show ((k : Int) < (l1.length : Int) ∧ ¬ (k : Int) < 20) ∨ ¬ (k : Int) < (l1.length : Int) by omega) with ⟨hk3, hk4⟩ | hk3 <;>
      · go_wp2
        go_loopw [7, 5] (fun i sv wr => ∃ j : Nat, j ≤ l2.length ∧ j ≤ 100 ∧ i = .int .i64 j ∧ WtW w wr a1 a2 l1.length l2.length c1 c2 ∧ (∃ g cap, sv = .slice (some ⟨g, 0, none⟩) j cap ∧ g ≠ g1) ∧ wr.ownsRow (w.heap.size + 2) 5 1 sv j (u8s (vlK l2 j)) ∧ wr.ownsRow (w.heap.size + 2) 5 1 (.slice (some ⟨g1, 0, none⟩) (k + 1) cap1) (k + 1) (u8s (nmL l1))) (fun i _ _ => l2.length - (intOf i).toNat)
        case atStart => exact ⟨0, by omega, by omega, rfl, HW.out, ⟨_, _, rfl, fun e => HN.out (by rw [← e]; rfl)⟩, HO2.out, HO1.out⟩
        case round =>
          clear HW HO2 HN HO1
          obtain ⟨j, hj1, hj2, rfl, hW, ⟨g, cap, rfl, hgn⟩, o2, o1⟩ := hrel
          have hbz := hW.sz
          have hb1 := hW.b1
          have hrl := o2.lt
          by_cases hlt2 : j < l2.length ∧ j < 100
          · obtain ⟨hlt1, hlt2⟩ := hlt2
            obtain ⟨z, hz⟩ : ∃ z, l2[j]? = some z := ⟨_, List.getElem?_eq_getElem hlt1⟩
            have hz2 : z = l2[j] := by rw [List.getElem?_eq_getElem hlt1] at hz; exact (Option.some.inj hz).symm
            obtain ⟨p, e, hc⟩ := h2.2 (fun e => by rw [e] at hlt1; exact absurd hlt1 (Nat.not_lt_zero _))
            subst e
            have hcz := cell_later hW.bw (hc j z hz)
            obtain ⟨hz0', hz1'⟩ := h2.1 z (List.mem_of_getElem? hz)
            have HL : Hid (z = l2[j]) := Lib.hid hz2
            have HW := Lib.hid hW
            have HS := Lib.hid (vlK_succ l2 j hlt1)
            clear hW h2 hc hz2 hz
            go_wp2_with (at_builtin; refine wpList_append_own_at _ rfl _ _ 22 rfl (w.heap.size + 2) 5 i0 (.int .u8 0) 1 1 Tryz.underlying22 hi0 hz0 hz1 hz2 rfl (by decide) _ _ _ rfl (o2.alloc _) ⟨wr.heap.size, 0, none⟩ 1 1 [.int .u8 (32 + z % 95)] rfl rfl (cell_one_new _ _ _) (fun u hu => by simp at hu; rcases hu with rfl; rfl) (by unfold maxLen; omega) (by omega) (by simp; omega) ?_)
            intro v' w2 hown2 hg2 hnil hloc
            have hb2 : Below (w.heap.size + 2) wr w2 := ((Below.refl _ wr).alloc (by omega) _).grown hg2 (by simp; omega) (fun j e => (hrl j e).1)
            have HW2 := Lib.hid (HW.out.below hb2)
            have HO2 : Hid (w2.ownsRow (w.heap.size + 2) 5 1 v' (j + 1) (u8s (vlK l2 (j + 1)))) := Lib.hid (by rw [HS.out, ← HL.out, u8s_snoc]; exact hown2)
            have HO1 := Lib.hid ((o1.alloc _).kept hg2 (Or.inr (fun e => hgn (by simp [Value.ownBlock] at e; exact e.symm))))
            obtain ⟨g', cap', hvv⟩ := Joins.ownsRow_form hown2 (by omega)
            have hlt' := (o1.lt g1 rfl).2
            have HN : Hid (g' ≠ g1) := Lib.hid (by
              subst hvv
              rcases hloc with e | e
              · simp [Value.ownBlock] at e; omega
              · simp [Value.ownBlock] at e; omega)
            clear hown2 hg2 hnil hloc hb2 o1 o2 hrl hlt'
            subst hvv
            go_wp2
            exact ⟨⟨j + 1, by omega, by omega, by go_num, HW2.out, ⟨_, _, rfl, HN.out⟩, HO2.out, HO1.out⟩, by simp [intOf]; omega⟩
          · have hl2 := vlK_length l2 j hj1
            rw [vlK_end l2 j hj1 hj2 hlt2] at o2 hl2
            have hcA := own_string (by omega) o1
            have hcB := own_string (by omega) o2
            have r0 := hW.r0
            have r1 := hW.r1
            have f0 := hW.f0
            have f1 := hW.f1
            have HB := Lib.hid hW.bw
            clear o1 o2 hrl hW h2
            rcases (show ((j : Int) < (l2.length : Int) ∧ ¬ (j : Int) < 100) ∨ ¬ (j : Int) < (l2.length : Int) by omega) with ⟨hk5, hk6⟩ | hk5 <;>
            · go_wp2
              have k0 : ((wr.setCell ⟨w.heap.size + 1, 0, none⟩ (.string (nmB l1))).setCell ⟨w.heap.size + 1, 1, none⟩ (.string (vlB l2))).cell? ⟨w.heap.size + 1, 0, none⟩ = some (.string (nmB l1)) := by
                rw [World.cell?_setCell_other _ _ _ _ (by simp)]
                exact World.cell?_setCell_same' _ _ _ (by rw [r0]; rfl)
              have k1 : ((wr.setCell ⟨w.heap.size + 1, 0, none⟩ (.string (nmB l1))).setCell ⟨w.heap.size + 1, 1, none⟩ (.string (vlB l2))).cell? ⟨w.heap.size + 1, 1, none⟩ = some (.string (vlB l2)) :=
                World.cell?_setCell_same' _ _ _ (by rw [World.cell?_setCell_other _ _ _ _ (by simp), r1]; rfl)
              exact bodyPost_ret (v := .agg #[.string (nmB l1), .string (vlB l2)]) (tag_result k0 k1 rfl) rfl ⟨rfl, (HB.out.setCell (by simp) _).setCell (by simp) _⟩
end Go.Proofs.YtogcepiofpmabaaGreatDoor
