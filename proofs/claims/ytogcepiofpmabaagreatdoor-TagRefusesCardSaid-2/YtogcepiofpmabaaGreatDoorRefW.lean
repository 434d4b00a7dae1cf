/- The walk of the law TagRefuses. -/
import Derived.Test.YtogcepiofpmabaaGreatDoorRefP
import Derived.Test.YtogcepiofpmabaaGreatDoorUniqueW
import Derived.Deep.CutRange
import Derived.Deep.CutBlock
import Derived.Deep.RegionHeld3
import Derived.Deep.DrawnRows
import Derived.Deep.DeepFit
import Derived.Deep.AppendLies
import Derived.Outline
namespace Go.Proofs.YtogcepiofpmabaaGreatDoor
open Go.RowKit Go.Lib Go.Maps

attribute [local go_sem ↓] Go.wp_at_zero Go.wp_at_succ

theorem step_append_lies0 {P : Program} (w : World) {ops : Array Oper} {o : Oper} {a : Act} {K : Act → World → Prop} {Q : Exit → Act → World → Prop} {E : Prop} (hgd : o.guard = none) (s x : Operand) (t : TypeId)
    (ho : o.op = .call { callee := .builtin .append, args := #[s, x], argTypes := #[t, t] })
    (base : Nat) (e : TypeId) (i : TypeInfo) (z : Value) (size bytes : Nat) (ht : P.underlying t = some (.slice e)) (hi : P.info? e = some i) (hz : i.zero = some z)
    (hsize : i.size = size) (hby : i.bytes = bytes) (hzs : z.cells.size = size) (hsz : 0 < size)
    (v : Value) (hs : a.eval s = v) (hown : w.ownsRow base e size v 0 [])
    (ad : Addr) (m c : Nat) (news : List Value) (hx : a.eval x = .slice (some ad) m c) (hl : news.length = m * size) (hnews : ∀ j u, news[j]? = some u → w.cell? (ad.add j) = some u) (h1 : ∀ u ∈ news, u.oneCell' = true)
    (hm : 0 < m) (h63 : m ≤ maxLen) (hbytes : m * bytes ≤ 140737488355328) (hbase : base ≤ w.heap.size) (H : Nat) (hH : w.heap.size = H)
    (h : ∀ g cap w', w'.ownsRow base e size (.slice (some ⟨g, 0, none⟩) m cap) m news → w.grownBy w' v.ownBlock → (v.ownBlock = some g ∨ g = H) → g < w'.heap.size → K (a.put o.dst (.slice (some ⟨g, 0, none⟩) m cap)) w') :
    if Region.wanted o (yielded ops a.tmps) = true then Oper.wp P o a w K Q else E := by
  refine step_append_lies w hgd s x t ho base e i z size bytes ht hi hz hsize hby hzs hsz v 0 [] hs hown ad m c news hx hl hnews h1 hm (by omega) (by rw [Nat.zero_add]; exact hbytes) hbase H hH ?_
  intro g cap w' h2 h3 h4 h5
  rw [Nat.zero_add] at h2 ⊢
  exact h g cap w' h2 h3 h4 h5
theorem own_noneT (w : World) (base : Nat) (hb : base ≤ w.heap.size) : (w.alloc (.cells #[] 27)).ownsRow base 27 2 (.slice (some ⟨w.heap.size, 0, none⟩) 0 0) 0 (tagCells []) :=
  ⟨rfl, Or.inr ⟨_, _, _, rfl, hb, heap_alloc_new w _, Nat.le_refl _, by unfold maxLen; omega, rfl, rfl⟩⟩
theorem own_noneT2 (w : World) (o : Obj) (base : Nat) (hb : base ≤ w.heap.size) : ((w.alloc o).alloc (.cells #[] 27)).ownsRow base 27 2 (.slice (some ⟨w.heap.size + 1, 0, none⟩) 0 0) 0 (tagCells []) := by
  have h := own_noneT (w.alloc o) base (by simp; omega)
  rwa [World.size_alloc] at h
theorem read_cells {W : World} {g : Nat} {l : List Tag} (hr : TagRead W g 0 l) : ∀ j u, (tagCells l)[j]? = some u → W.cell? ((⟨g, 0, none⟩ : Addr).add j) = some u := by
  intro j u hj
  have hj' : j < l.length * 2 := by rw [← tagCells_length]; exact (List.getElem?_eq_some_iff.1 hj).1
  obtain ⟨t, ht⟩ : ∃ t, l[j / 2]? = some t := ⟨_, List.getElem?_eq_getElem (by omega)⟩
  obtain ⟨h1, h2⟩ := hr _ t ht
  obtain ⟨h3, h4⟩ := tagCells_get l _ t ht
  have ea : (⟨g, 0, none⟩ : Addr).add j = ⟨g, j, none⟩ := by unfold Addr.add; split <;> simp_all
  rw [ea]
  rw [Nat.zero_add] at h1 h2
  rcases Nat.mod_two_eq_zero_or_one j with hm | hm
  · have ej : j / 2 * 2 = j := by omega
    rw [ej] at h1 h3
    rw [hj] at h3
    rw [h1, ← h3]
  · have ej : j / 2 * 2 + 1 = j := by omega
    rw [ej] at h2 h4
    rw [hj] at h4
    rw [h2, ← h4]

theorem conv_one (W : World) (z : Int) : (convert 22 9 (.slice (some ⟨W.heap.size, 0, none⟩) 1 1)).run Tryz.prog (W.alloc (.cells #[.int .u8 z] 5)) = .ok (.string (strOfNums [z])) (W.alloc (.cells #[.int .u8 z] 5)) :=
  run_convert_bytes_arg _ 22 5 Tryz.underlying22 Tryz.underlying5 W.heap.size 0 1 1 [z] rfl (fun i hi => by
    obtain rfl : i = 0 := by simp at hi; exact hi
    simp) 9 Tryz.underlying9
theorem own_cap {w : World} {base g n cap : Nat} {e : TypeId} {size : Nat} {xs : List Value} (h : w.ownsRow base e size (.slice (some ⟨g, 0, none⟩) n cap) n xs) : n ≤ cap := by
  rcases h.2 with ⟨e, _⟩ | ⟨_, _, _, e, _, _, hc, _⟩
  · cases e
  · cases e
    exact hc
theorem TagRead.take {W : World} {g o : Nat} {l : List Tag} (h : TagRead W g o l) (k : Nat) : TagRead W g o (l.take k) := fun i t ht => by
  refine h i t ?_
  by_cases hi : i < k
  · rwa [List.getElem?_take_of_lt hi] at ht
  · rw [List.getElem?_eq_none (by rw [List.length_take]; omega)] at ht
    cases ht
/-- tag.Normal at the tags with the names that are added. -/
theorem many_call {U : List Tag} (hU : Ok U) {j : Nat} (hj : j ≤ 18) (hU1 : U.length ≤ 15) (g c : Nat) (W : World) (hg : Glob W) (hr : TagRead W g 0 (manyK U j)) (hlt : g < W.heap.size) :
    Calls Tryz.prog 22 #[.slice (some ⟨g, 0, none⟩) (U.length + j) c, .int .i64 0] W (NormPost W (normS (manyK U j) (rs 0))) := by
  have hl := manyK_length U j
  rw [← hl]
  exact normal_any (manyK U j) 0 (by decide) g 0 c W hg hr hlt (by omega) (many_sized hU hj) (many_good hU hj) (many_dif hU hj) (fun h => by rw [(many_xy hU hj).fen] at h; cases h)
theorem read_name {W : World} {g : Nat} {l : List Tag} {m : Nat} {n v n' : ByteArray} (h : TagRead W g 0 l) (hm : l[m]? = some (n, v)) : TagRead (W.setCell ⟨g, m * 2, none⟩ (.string n')) g 0 (l.set m (n', v)) := by
  intro i t ht
  have hml := (List.getElem?_eq_some_iff.1 hm).1
  by_cases hi : m = i
  · subst hi
    rw [List.getElem?_set_self hml] at ht
    cases ht
    obtain ⟨h1, h2⟩ := h m _ hm
    rw [Nat.zero_add] at h1 h2 ⊢
    refine ⟨World.cell?_setCell_same' _ _ _ (by rw [h1]; rfl), ?_⟩
    rw [World.cell?_setCell_other _ _ _ _ (by simp)]
    exact h2
  · rw [List.getElem?_set_ne hi] at ht
    obtain ⟨h1, h2⟩ := h i _ ht
    rw [World.cell?_setCell_other _ _ _ _ (by intro e; simp at e <;> omega), World.cell?_setCell_other _ _ _ _ (by intro e; simp at e <;> omega)]
    exact ⟨h1, h2⟩
theorem read_val {W : World} {g : Nat} {l : List Tag} {m : Nat} {n v v' : ByteArray} (h : TagRead W g 0 l) (hm : l[m]? = some (n, v)) : TagRead (W.setCell ⟨g, m * 2 + 1, none⟩ (.string v')) g 0 (l.set m (n, v')) := by
  intro i t ht
  have hml := (List.getElem?_eq_some_iff.1 hm).1
  by_cases hi : m = i
  · subst hi
    rw [List.getElem?_set_self hml] at ht
    cases ht
    obtain ⟨h1, h2⟩ := h m _ hm
    rw [Nat.zero_add] at h1 h2 ⊢
    refine ⟨?_, World.cell?_setCell_same' _ _ _ (by rw [h2]; rfl)⟩
    rw [World.cell?_setCell_other _ _ _ _ (by simp)]
    exact h1
  · rw [List.getElem?_set_ne hi] at ht
    obtain ⟨h1, h2⟩ := h i _ ht
    rw [World.cell?_setCell_other _ _ _ _ (by intro e; simp at e <;> omega), World.cell?_setCell_other _ _ _ _ (by intro e; simp at e <;> omega)]
    exact ⟨h1, h2⟩
theorem twice_length (U : List Tag) (n : ByteArray) : (twiceL U n).length = U.length + 1 := by unfold twiceL; simp
/-- tag.Normal where a tag is spoilt. -/
theorem spoilt_call {U : List Tag} (hU : Ok U) (hU1 : U.length ≤ 15) (x : Wd) {m : Nat} (hm : m < U.length) {t : Tag} {e : Int} (hc : checkE t.1 t.2 = e) (he : (e != 0) = true) (h1 : t.1.size ≤ 1000) (h2 : t.2.size ≤ 1000) (g c : Nat) (W : World) (hg : Glob W) (hr : TagRead W g 0 ((twiceL U (nmB x.l1)).set m t)) (hlt : g < W.heap.size) :
    Calls Tryz.prog 22 #[.slice (some ⟨g, 0, none⟩) (U.length + 1) c, .int .i64 0] W (NormPost W (.err e)) := by
  have hl : ((twiceL U (nmB x.l1)).set m t).length = U.length + 1 := by rw [List.length_set, twice_length]
  rw [← hl]
  refine normal_bad _ 0 (by decide) g 0 c W hg hr hlt (by omega) ?_ m (by omega) (fun j hj y hy => good_ahead hU _ m (by omega) t j hj y hy) e he (fun y hy => ?_)
  · intro y hy
    rcases List.mem_or_eq_of_mem_set hy with hy | rfl
    · exact twice_sized hU x y hy
    · unfold maxLen
      omega
  · rw [List.getElem?_set_self (by rw [twice_length]; omega)] at hy
    cases hy
    exact hc
/-- tag.Normal where a name is there twice, whatever its value. -/
theorem dup_call {U : List Tag} (hU : Ok U) (hU1 : U.length ≤ 15) (x : Wd) {m : Nat} {v : ByteArray} (hm : U[m]? = some (nmB x.l1, v)) (g c : Nat) (W : World) (hg : Glob W) (hr : TagRead W g 0 ((twiceL U (nmB x.l1)).set m (nmB x.l1, ⟨#[]⟩))) (hlt : g < W.heap.size) :
    Calls Tryz.prog 22 #[.slice (some ⟨g, 0, none⟩) (U.length + 1) c, .int .i64 0] W (NormPost W (.err 6)) := by
  have hml := (List.getElem?_eq_some_iff.1 hm).1
  have hl : ((twiceL U (nmB x.l1)).set m (nmB x.l1, ⟨#[]⟩)).length = U.length + 1 := by rw [List.length_set, twice_length]
  have htm : (nmB x.l1, v) ∈ U := List.mem_of_getElem? hm
  have hg2 : (twiceL U (nmB x.l1))[m]? = some (nmB x.l1, v) := by
    unfold twiceL
    rw [List.getElem?_append_left hml]
    exact hm
  rw [← hl]
  refine normal_dup _ 0 (by decide) g 0 c W hg hr hlt (by omega) ?_ ?_ ?_
  · intro y hy
    rcases List.mem_or_eq_of_mem_set hy with hy | rfl
    · exact twice_sized hU x y hy
    · have := nmB_size x.l1
      unfold maxLen
      refine ⟨?_, ?_⟩
      · simp only
        omega
      · show (0 : Nat) ≤ _
        omega
  · intro y hy
    rcases List.mem_or_eq_of_mem_set hy with hy | rfl
    · exact twice_good hU x y hy
    · rw [← vlB_nil]
      exact wtag_ok x.l1 []
  · have e : ((twiceL U (nmB x.l1)).set m (nmB x.l1, ⟨#[]⟩)).map (·.1) = (twiceL U (nmB x.l1)).map (·.1) := by
      rw [List.map_set]
      refine List.ext_getElem? fun i => ?_
      by_cases hi : m = i
      · subst hi
        rw [List.getElem?_set_self (by rw [List.length_map, twice_length]; omega), List.getElem?_map, hg2]
        rfl
      · rw [List.getElem?_set_ne hi]
    rw [e]
    exact twice_dup htm
theorem twice_at {U : List Tag} {m : Nat} {t : Tag} (n : ByteArray) (h : U[m]? = some t) : (twiceL U n)[m]? = some t := by
  unfold twiceL
  rw [List.getElem?_append_left (List.getElem?_eq_some_iff.1 h).1]
  exact h
theorem make_none (W : World) : (Instr.makeSlice 22 (.int .i64 0) (.int .i64 0)).run Tryz.prog W = .ok (.slice (some ⟨W.heap.size, 0, none⟩) 0 0) (W.alloc (.cells #[] 5)) := by
  obtain ⟨i0, hi0, hz0, hz1, hz2⟩ := info_parts infoU8
  have h := run_make W 22 5 i0 _ Tryz.underlying22 hi0 hz0 .i64 .i64 0 0 (by decide) (by decide) (by simp) (by decide)
  have e : (0 : Int).toNat * i0.size = 0 := by simp
  have e2 : madeCells (Value.int .u8 0).cells 0 = #[] := by simp [madeCells]
  rw [e, e2] at h
  exact h
theorem conv_none (W : World) : (convert 22 9 (.slice (some ⟨W.heap.size, 0, none⟩) 0 0)).run Tryz.prog (W.alloc (.cells #[] 5)) = .ok (.string ⟨#[]⟩) (W.alloc (.cells #[] 5)) :=
  run_convert_bytes_arg _ 22 5 Tryz.underlying22 Tryz.underlying5 W.heap.size 0 0 0 [] rfl (fun i hi => absurd hi (Nat.not_lt_zero i)) 9 Tryz.underlying9
theorem ok_nil : Ok [] := ⟨by simp, fun t h => by simp at h⟩

set_option maxRecDepth 100000 in
set_option maxHeartbeats 4000000 in
theorem refuses_any (l : List Wd) (a : Option Addr) (c : Nat) (at_ how far : Int) (w : World) (hg : Glob w) (hr : WRead w a l) (hat : 0 ≤ at_ ∧ at_ < 256) (hhow : 0 ≤ how ∧ how < 256) (hfar : 0 ≤ far ∧ far < 65536) (h1 : 0 < l.length) (h20 : l.length ≤ 20) (hs : Short l) :
    Calls Tryz.prog 6 #[.slice a l.length c, .int .u8 at_, .int .u8 how, .int .u16 far] w fun e w' => e = .returned (.bool true) ∧ Below w.heap.size w w' := by
  obtain ⟨ha0, ha1⟩ := hat
  obtain ⟨hh0, hh1⟩ := hhow
  obtain ⟨hf0, hf1⟩ := hfar
  have n0 : ((l.length : Int) == 0) = false := beq_eq_false_iff_ne.2 (by omega)
  have n20 : ¬ (20 : Int) < (l.length : Int) := by omega
  go_enter Tryz.func6, Tryz.ntmps6
  go_wp2
  clear n0 n20
  go_loopw [9] (fun i wr => ∃ k : Nat, k ≤ l.length ∧ i = .int .i64 k ∧ wr = w) (fun i _ => l.length - (intOf i).toNat)
  case atStart => exact ⟨0, by omega, rfl, rfl⟩
  case round =>
    obtain ⟨k, hk, rfl, rfl⟩ := hrel
    by_cases hk1 : k < l.length
    · obtain ⟨x, hx⟩ : ∃ x, l[k]? = some x := ⟨_, List.getElem?_eq_getElem hk1⟩
      obtain ⟨p, e, hc⟩ := hr.2 (fun e => by rw [e] at hk1; exact absurd hk1 (Nat.not_lt_zero _))
      subst e
      obtain ⟨d1, d2⟩ := hc k x hx
      have d2' : wr.cell? ⟨(p.add (k * 2)).block, (p.add (k * 2)).off + 1, none⟩ = some (.slice x.a2 x.l2.length x.c2) := d2
      obtain ⟨s1, s2⟩ := hs x (List.mem_of_getElem? hx)
      have k0 : (0 : Int) ≤ (k : Int) := by omega
      have k1 : (k : Int) < (l.length : Int) := by omega
      have s3 : ¬ (150 : Int) < (x.l1.length : Int) := by omega
      have s4 : ¬ (150 : Int) < (x.l2.length : Int) := by omega
      clear hr hc hx hs
      go_wp2
      exact ⟨⟨k + 1, by omega, by go_num, trivial⟩, by simp [intOf]; omega⟩
    · go_wp2_with fail
      refine (unique_any l a c wr hr (by omega) hs).mono ?_
      rintro e w1 ⟨sv, rfl, hown, hb1, hform⟩
      have hU := Ok.uni (most := 15) l [] ok_nil
      have hU0 := uni_pos (most := 15) (by decide) l (by intro e; rw [e] at h1; exact absurd h1 (by decide))
      have hU1 := (uni_length (most := 15) l [] (by decide)).1
      generalize uni 15 l [] = U at *
      clear hr hs hk hk1 h1
      obtain ⟨g, cap, rfl⟩ : ∃ g cap, sv = .slice (some ⟨g, 0, none⟩) U.length cap := by
        rcases hform with ⟨_, e⟩ | h
        · rw [e] at hU0; exact absurd hU0 (by decide)
        · exact h
      have hgl := hown.lt g rfl
      have hread := read_row (row_of_own hown)
      obtain ⟨m, hm, hmU⟩ : ∃ m : Nat, at_.tmod (U.length : Int) = (m : Int) ∧ m < U.length := by
        have q1 := Int.emod_nonneg at_ (b := (U.length : Int)) (by omega)
        have q2 := Int.emod_lt_of_pos at_ (b := (U.length : Int)) (by omega)
        refine ⟨(at_ % (U.length : Int)).toNat, ?_, by omega⟩
        rw [Int.tmod_eq_emod_of_nonneg ha0]
        omega
      have hz : ¬ (U.length : Int) = 0 := by omega
      clear hown hform
      have HR := Lib.hid hread
      have HG := Lib.hid hg
      have HB := Lib.hid hb1
      clear hread hg hb1
      go_wp2_with fail
      refine (normal_num _ (-1 - far) w1 (by omega)).mono ?_
      rintro e w2 ⟨hb2, rfl⟩
      go_wp2_with fail
      refine (normal_num _ (4 + far) w2 (by omega)).mono ?_
      rintro e w3 ⟨hb3, rfl⟩
      have hbx := hb2.trans (hb3.mono hb2.size)
      have hread := HR.out.below hbx hgl.2
      have hb := HB.out.trans (hbx.mono HB.out.size)
      have hgl3 : g < w3.heap.size := Nat.lt_of_lt_of_le hgl.2 hbx.size
      clear hb2 hb3 hbx HR HB
      go_wp2_with fail
      obtain ⟨⟨n, v⟩, ht⟩ : ∃ t, U[m]? = some t := ⟨_, List.getElem?_eq_getElem hmU⟩
      obtain ⟨e1, e2⟩ := hread m _ ht
      rw [Nat.zero_add] at e1 e2
      simp only at e1 e2
      have m0 : (0 : Int) ≤ (m : Int) := by omega
      have m1 : (m : Int) < (U.length : Int) := by omega
      have HR := Lib.hid hread
      have HB := Lib.hid hb
      have HT := Lib.hid ht
      clear hread hb ht
      obtain ⟨i0, hi0, hz0, hz1, hz2⟩ := info_parts infoTag
      go_cut [16] from 85 to 95 (fun s16 wx => ∃ g16 cap16, s16 = .slice (some ⟨g16, 0, none⟩) (U.length + 1) cap16 ∧ wx.ownsRow w3.heap.size 27 2 s16 (U.length + 1) (tagCells (twiceL U n)) ∧ Below w3.heap.size w3 wx)
      case first =>
        have hlt0 : g ≠ w3.heap.size := by omega
        go_region_held3 (fun W => W.cell? ⟨g, m * 2, none⟩ = some (.string n)) (first | (go_keep; done) | (rw [hgrowB.cell_far _ (by have := hgrowA.size; simp at this ⊢ <;> omega) (by simp [Value.ownBlock] <;> omega)]; go_keep) | (rw [hgrowA.cell_far _ (by simp <;> omega) (by simp [Value.ownBlock] <;> omega)]; go_keep)) (first | ((refine step_append_lies0 _ (by rfl) _ _ _ (by rfl) w3.heap.size 27 i0 _ 2 32 Tryz.underlying39 hi0 hz0 hz1 hz2 rfl (by omega) (.slice (some ⟨w3.heap.size, 0, none⟩) 0 0) (by rfl) (own_noneT w3 _ (Nat.le_refl _)).drew ⟨g, 0, none⟩ U.length cap (tagCells U) (by rfl) (tagCells_length U) (read_cells (HR.out.below (by repeat (first | exact Below.refl _ _ | refine Below.drew ?_ | refine Below.alloc ?_ (by simp <;> omega) _)) hgl3)) (tagCells_one U) hU0 (by unfold maxLen; omega) (by omega) (by simp <;> omega) _ rfl ?_; intro gA capA wA hownA hgrowA hatA hltA; have hgA := hownA.lt gA rfl; have hbA : Below w3.heap.size w3 wA := Below.grown (by repeat (first | exact Below.refl _ _ | refine Below.drew ?_ | refine Below.alloc ?_ (by simp <;> omega) _)) hgrowA (by simp <;> omega) (fun j e => by simp [Value.ownBlock] at e; omega))) | ((refine step_append_lies0 _ (by rfl) _ _ _ (by rfl) w3.heap.size 27 i0 _ 2 32 Tryz.underlying39 hi0 hz0 hz1 hz2 rfl (by omega) (.slice (some ⟨w3.heap.size, 0, none⟩) 0 0) (by rfl) ((own_noneT w3 _ (Nat.le_refl _)).drew.alloc _) ⟨g, 0, none⟩ U.length cap (tagCells U) (by rfl) (tagCells_length U) (read_cells (HR.out.below (by repeat (first | exact Below.refl _ _ | refine Below.drew ?_ | refine Below.alloc ?_ (by simp <;> omega) _)) hgl3)) (tagCells_one U) hU0 (by unfold maxLen; omega) (by omega) (by simp <;> omega) _ rfl ?_; intro gA capA wA hownA hgrowA hatA hltA; have hgA := hownA.lt gA rfl; have hbA : Below w3.heap.size w3 wA := Below.grown (by repeat (first | exact Below.refl _ _ | refine Below.drew ?_ | refine Below.alloc ?_ (by simp <;> omega) _)) hgrowA (by simp <;> omega) (fun j e => by simp [Value.ownBlock] at e; omega))) | ((refine step_append_lies0 _ (by rfl) _ _ _ (by rfl) w3.heap.size 27 i0 _ 2 32 Tryz.underlying39 hi0 hz0 hz1 hz2 rfl (by omega) (.slice (some ⟨w3.heap.size + 1, 0, none⟩) 0 0) (by rfl) (own_noneT2 w3 _ w3.heap.size (Nat.le_refl _)).drew ⟨g, 0, none⟩ U.length cap (tagCells U) (by rfl) (tagCells_length U) (read_cells (HR.out.below (by repeat (first | exact Below.refl _ _ | refine Below.drew ?_ | refine Below.alloc ?_ (by simp <;> omega) _)) hgl3)) (tagCells_one U) hU0 (by unfold maxLen; omega) (by omega) (by simp <;> omega) _ rfl ?_; intro gA capA wA hownA hgrowA hatA hltA; have hgA := hownA.lt gA rfl; have hbA : Below w3.heap.size w3 wA := Below.grown (by repeat (first | exact Below.refl _ _ | refine Below.drew ?_ | refine Below.alloc ?_ (by simp <;> omega) _)) hgrowA (by simp <;> omega) (fun j e => by simp [Value.ownBlock] at e; omega))) | ((refine step_append_lies _ (by rfl) _ _ _ (by rfl) w3.heap.size 27 i0 _ 2 32 Tryz.underlying39 hi0 hz0 hz1 hz2 rfl (by omega) (.slice (some ⟨gA, 0, none⟩) U.length capA) U.length (tagCells U) (by rfl) (hownA.alloc _) ⟨wA.heap.size, 0, none⟩ 1 1 [.string n, .string ⟨#[]⟩] (by rfl) (by rfl) (World.news_of_block (cs := #[.string n, .string ⟨#[]⟩]) (t := 27) (fr := (0, 0)) (heap_alloc_new wA _)) (by simp [Value.oneCell']) (by omega) (by unfold maxLen; omega) (by omega) (by have := hgrowA.size; simp at this ⊢ <;> omega) _ rfl ?_; intro gB capB wB hownB hgrowB hatB hltB; have hbB : Below w3.heap.size w3 wB := Below.grown (by first | exact hbA | exact hbA.alloc hbA.size _) hgrowB (by have := hbA.size; simp <;> omega) (fun j e => by simp [Value.ownBlock] at e; omega))) | ((refine step_append_lies _ (by rfl) _ _ _ (by rfl) w3.heap.size 27 i0 _ 2 32 Tryz.underlying39 hi0 hz0 hz1 hz2 rfl (by omega) (.slice (some ⟨gA, 0, none⟩) U.length capA) U.length (tagCells U) (by rfl) hownA ⟨w3.heap.size + 1, 0, none⟩ 1 1 [.string n, .string ⟨#[]⟩] (by rfl) (by rfl) (World.news_of_block (cs := #[.string n, .string ⟨#[]⟩]) (t := 27) (fr := (0, 0)) ((hgrowA.block (w3.heap.size + 1) (by simp) (by simp [Value.ownBlock])).trans (heap_alloc2_new w3 _ _))) (by simp [Value.oneCell']) (by omega) (by unfold maxLen; omega) (by omega) (by have := hgrowA.size; simp at this ⊢ <;> omega) _ rfl ?_; intro gB capB wB hownB hgrowB hatB hltB; have hbB : Below w3.heap.size w3 wB := Below.grown (by first | exact hbA | exact hbA.alloc hbA.size _) hgrowB (by have := hbA.size; simp <;> omega) (fun j e => by simp [Value.ownBlock] at e; omega))) | ((refine step_append_lies _ (by rfl) _ _ _ (by rfl) w3.heap.size 27 i0 _ 2 32 Tryz.underlying39 hi0 hz0 hz1 hz2 rfl (by omega) (.slice (some ⟨gA, 0, none⟩) U.length capA) U.length (tagCells U) (by rfl) hownA ⟨w3.heap.size, 0, none⟩ 1 1 [.string n, .string ⟨#[]⟩] (by rfl) (by rfl) (World.news_of_block (cs := #[.string n, .string ⟨#[]⟩]) (t := 27) (fr := (0, 0)) ((hgrowA.block w3.heap.size (by simp <;> omega) (by simp [Value.ownBlock])).trans (heap_alloc2_old w3 _ _))) (by simp [Value.oneCell']) (by omega) (by unfold maxLen; omega) (by omega) (by have := hgrowA.size; simp at this ⊢ <;> omega) _ rfl ?_; intro gB capB wB hownB hgrowB hatB hltB; have hbB : Below w3.heap.size w3 wB := Below.grown (by first | exact hbA | exact hbA.alloc hbA.size _) hgrowB (by have := hbA.size; simp <;> omega) (fun j e => by simp [Value.ownBlock] at e; omega))))
        all_goals (go_wp2_with fail; go_meet; exact ⟨gB, capB, rfl, by rw [twiceL, tagCells_append]; exact hownB, hbB⟩)
      case rest =>
        obtain ⟨g16, cap16, rfl, hown, hb4⟩ := hcut
        have hgl16 := (hown.lt g16 rfl).2
        have hlen : (twiceL U n).length = U.length + 1 := by unfold twiceL; simp
        rw [← hlen] at hown
        have hread := read_row (row_of_own hown)
        have hz4 := hb4.size
        have hg4 := HG.out.below (HB.out.trans (hb4.mono HB.out.size))
        have HR4 := Lib.hid hread
        have HB4 := Lib.hid hb4
        have htm : (n, v) ∈ U := List.mem_of_getElem? HT.out
        obtain ⟨x, hxt⟩ := hU.wd _ htm
        have HN := Lib.hid (congrArg Prod.fst hxt)
        have HV := Lib.hid (congrArg Prod.snd hxt)
        have hcall : Calls Tryz.prog 22 #[.slice (some ⟨g16, 0, none⟩) (U.length + 1) cap16, .int .i64 0] wc (NormPost wc (.err 6)) := by
          rw [← hlen]
          exact normal_dup (twiceL U n) 0 (by decide) g16 0 cap16 wc hg4 hread hgl16 (by omega) (by rw [show n = nmB x.l1 from HN.out]; exact twice_sized hU x) (by rw [show n = nmB x.l1 from HN.out]; exact twice_good hU x) (twice_dup htm)
        clear hown hread hb4 e1 e2 hxt htm
        go_wp2_with fail
        go_fit hcall
        clear hcall
        rintro e w4 ⟨hb5, rfl⟩
        have hz5 := hb5.size
        have hb35 := HB4.out.trans (hb5.mono HB4.out.size)
        have hread4 := HR.out.below hb35 hgl3
        have hgl4 : g < w4.heap.size := Nat.lt_of_lt_of_le hgl3 hb35.size
        have HT4 := Lib.hid (HR4.out.below hb5 hgl16)
        have hgl16' : g16 < w4.heap.size := Nat.lt_of_lt_of_le hgl16 hz5
        have HB5 := Lib.hid ((HB.out.trans (hb35.mono HB.out.size)))
        clear hb5 hb35 HR4 HB4 hg4 HR HB
        go_wp2_with (at_builtin; refine wpList_append_own_at _ rfl _ _ 39 rfl w4.heap.size 27 i0 (.agg #[.string ⟨#[]⟩, .string ⟨#[]⟩]) 2 32 Tryz.underlying39 hi0 hz0 hz1 hz2 rfl (by decide) _ _ _ rfl (own_noneT w4 w4.heap.size (Nat.le_refl _)) ⟨g, 0, none⟩ U.length cap (tagCells U) rfl (tagCells_length U) (read_cells (hread4.below ((Below.refl _ _).alloc (Nat.le_refl _) _) hgl4)) (tagCells_one U) (by unfold maxLen; omega) (by omega) (by simp) ?_)
        intro v' w5 hown5 hg5 hnil hloc
        have hown5 : w5.ownsRow w4.heap.size 27 2 v' U.length (tagCells U) := hown5
        have hb6 : Below w4.heap.size w4 w5 := ((Below.refl _ w4).alloc (Nat.le_refl _) _).grown hg5 (by simp) (fun j e => by simp [Value.ownBlock] at e; omega)
        obtain ⟨g5, cap5, hvv⟩ := Joins.ownsRow_form hown5 (by omega)
        subst hvv
        clear hg5 hnil hloc
        go_wp2
        go_loopw [19, 20] (fun sv i wr => ∃ j : Nat, U.length + j ≤ 18 ∧ i = .int .i64 j ∧ (∃ g cap, sv = .slice (some ⟨g, 0, none⟩) (U.length + j) cap) ∧ wr.ownsRow w4.heap.size 27 2 sv (U.length + j) (tagCells (manyK U j)) ∧ Below w4.heap.size w4 wr) (fun sv _ _ => match sv with | .slice _ n _ => 18 - n | _ => 0)
        case atStart => exact ⟨0, by omega, rfl, ⟨_, _, rfl⟩, by rw [manyK_zero]; exact hown5, hb6⟩
        case round =>
          clear hown5 hb6
          obtain ⟨j, hj, rfl, ⟨gm, cm, rfl⟩, own, hb⟩ := hrel
          by_cases hj1 : U.length + j < 18
          · have hj2 : (U.length : Int) + (j : Int) < 18 := by omega
            have hcv := conv_one wr (97 + (j : Int))
            have hss : (strOfNums [97 + (j : Int)]).size = 1 := strOfNums_size _
            have hzz := hb.size
            have hrl := own.lt
            have own1 := (own.alloc (.cells #[.int .u8 (97 + (j : Int))] 5)).alloc (.cells #[.string (⟨#[89]⟩ ++ strOfNums [97 + (j : Int)]), .string ⟨#[]⟩] 27)
            go_wp2_with (at_builtin; refine wpList_append_own_at _ rfl _ _ 39 rfl w4.heap.size 27 i0 (.agg #[.string ⟨#[]⟩, .string ⟨#[]⟩]) 2 32 Tryz.underlying39 hi0 hz0 hz1 hz2 rfl (by decide) _ _ _ rfl own1 ⟨wr.heap.size + 1, 0, none⟩ 1 1 [.string (⟨#[89]⟩ ++ strOfNums [97 + (j : Int)]), .string ⟨#[]⟩] rfl rfl (World.news_of_block (cs := #[.string (⟨#[89]⟩ ++ strOfNums [97 + (j : Int)]), .string ⟨#[]⟩]) (t := 27) (fr := (0, 0)) (heap_alloc2_new wr _ _)) (fun u hu => by simp at hu; rcases hu with rfl | rfl <;> rfl) (by unfold maxLen; omega) (by omega) (by simp; omega) ?_)
            intro vv w6 hown6 hg6 hnil hloc
            have HB7 := Lib.hid (((hb.alloc hzz _).alloc (by simp; omega) _).grown hg6 (by simp; omega) (fun k e => (hrl k e).1))
            have HO7 : Hid (w6.ownsRow w4.heap.size 27 2 vv (U.length + (j + 1)) (tagCells (manyK U (j + 1)))) := Lib.hid (by rw [manyK_succ, tagCells_append]; exact hown6)
            obtain ⟨gn, cn, hvv⟩ := Joins.ownsRow_form hown6 (by omega)
            clear hown6 hg6 hnil hloc own own1 hb hrl hcv hss
            subst hvv
            go_wp2
            exact ⟨⟨j + 1, by omega, by go_num, ⟨gn, cn, rfl⟩, HO7.out, HB7.out⟩, by simp; omega⟩
          · have hj2 : ¬ (U.length : Int) + (j : Int) < 18 := by omega
            have hjs : U.length + j = 18 := by omega
            have hcap := own_cap own
            have hglm := (own.lt gm rfl).2
            have hlm := manyK_length U j
            have hrm := read_row (row_of_own (l := manyK U j) (by rw [hlm]; exact own))
            have hgw := HG.out.below (HB5.out.trans (hb.mono HB5.out.size))
            have hc1 := many_call hU (show j ≤ 18 by omega) hU1 gm cm wr hgw hrm hglm
            rw [(many_xy hU (show j ≤ 18 by omega)).norm_many (rs 0) (by omega)] at hc1
            have hcm : (17 : Int) ≤ (cm : Int) := by omega
            have HRM := Lib.hid hrm
            have HB6 := Lib.hid hb
            clear own hb hrm hj hj1 hread4
            go_wp2_with fail
            rw [hjs] at hc1
            go_fit hc1
            clear hc1
            rintro e w6 ⟨hb6, rfl⟩
            have hc2 := many_call hU (show 17 - U.length ≤ 18 by omega) hU1 gm cm w6 (hgw.below hb6) (by rw [← manyK_take U j _ (show 17 - U.length ≤ j by omega)]; exact (HRM.out.below hb6 hglm).take _) (Nat.lt_of_lt_of_le hglm hb6.size)
            rw [show U.length + (17 - U.length) = 17 by omega, (many_xy hU (show 17 - U.length ≤ 18 by omega)).norm_ok (rs 0) (by rw [manyK_length]; omega)] at hc2
            go_wp2_with fail
            go_fit hc2
            clear hc2
            rintro e w7 ⟨hb7, g23, cap23, rfl, _, _, _⟩
            have hl24 : (sortTags (manyK U (17 - U.length) ++ rosL (rs 0) 7)).length = 24 := by
              rw [sortTags_length, List.length_append, rosL_length, manyK_length]
              omega
            rw [hl24]
            have hb47 := HB6.out.trans ((hb6.trans (hb7.mono hb6.size)).mono HB6.out.size)
            have ht7 := HT4.out.below hb47 hgl16'
            have hgl7 : g16 < w7.heap.size := Nat.lt_of_lt_of_le hgl16' hb47.size
            have HB7 := Lib.hid (HB5.out.trans (hb47.mono HB5.out.size))
            obtain ⟨q, hq, hq8⟩ : ∃ q : Nat, how.tmod 8 = (q : Int) ∧ q < 8 := by
              refine ⟨(how % 8).toNat, ?_, by omega⟩
              rw [Int.tmod_eq_emod_of_nonneg hh0]
              omega
            clear hb6 hb7 hb47 hl24 HRM HB6 HT4 HB5 hcm hj2 hlm hjs hcap hglm hgw hown5 hgl hm hz hgl3 hgl16 hz4 hz5 hgl4 hgl16'
            go_wp2_with (at_builtin; refine wpList_append_own_at _ rfl _ _ 39 rfl w7.heap.size 27 i0 (.agg #[.string ⟨#[]⟩, .string ⟨#[]⟩]) 2 32 Tryz.underlying39 hi0 hz0 hz1 hz2 rfl (by decide) _ _ _ rfl (own_noneT w7 w7.heap.size (Nat.le_refl _)) ⟨g16, 0, none⟩ (U.length + 1) cap16 (tagCells (twiceL U n)) rfl (by rw [tagCells_length, hlen]) (read_cells (ht7.below ((Below.refl _ _).alloc (Nat.le_refl _) _) hgl7)) (tagCells_one _) (by unfold maxLen; omega) (by omega) (by simp) ?_)
            intro v' w8 hown8 hg8 hnil hloc
            have hown8 : w8.ownsRow w7.heap.size 27 2 v' (U.length + 1) (tagCells (twiceL U n)) := hown8
            have HB8 := Lib.hid (((Below.refl _ w7).alloc (Nat.le_refl _) _).grown hg8 (by simp) (fun j e => by simp [Value.ownBlock] at e; omega))
            obtain ⟨g8, cap8, hvv⟩ := Joins.ownsRow_form hown8 (by omega)
            subst hvv
            have hgl8 := hown8.lt g8 rfl
            have hrow := row_of_own (l := twiceL U n) (by rw [hlen]; exact hown8)
            clear hg8 hnil hloc hown8 ht7
            have hn21 : n.size ≤ 21 := by rw [HN.out]; exact nmB_size x.l1
            have hv100 : v.size ≤ 100 := by rw [HV.out]; exact vlB_size x.l2
            have HSP : Hid (∀ (t : Tag) (e : Int) (W : World), Below w7.heap.size w7 W → checkE t.1 t.2 = e → (e != 0) = true → t.1.size ≤ 1000 → t.2.size ≤ 1000 → TagRead W g8 0 ((twiceL U n).set m t) → g8 < W.heap.size → Below w7.heap.size w7 W ∧ Calls Tryz.prog 22 #[.slice (some ⟨g8, 0, none⟩) (U.length + 1) cap8, .int .i64 0] W (NormPost W (.err e))) :=
              Lib.hid (fun t e W hb hc he h1 h2 hr hlt => ⟨hb, by
                rw [show n = nmB x.l1 from HN.out] at hr
                exact spoilt_call hU hU1 x hmU hc he h1 h2 g8 cap8 W (HG.out.below (HB7.out.trans (hb.mono HB7.out.size))) hr hlt⟩)
            have HDP : Hid (∀ (W : World), Below w7.heap.size w7 W → TagRead W g8 0 ((twiceL U n).set m (n, ⟨#[]⟩)) → g8 < W.heap.size → Below w7.heap.size w7 W ∧ Calls Tryz.prog 22 #[.slice (some ⟨g8, 0, none⟩) (U.length + 1) cap8, .int .i64 0] W (NormPost W (.err 6))) :=
              Lib.hid (fun W hb hr hlt => ⟨hb, by
                have hnn : n = nmB x.l1 := HN.out
                rw [hnn] at hr
                exact dup_call hU hU1 x (v := v) (by rw [← hnn]; exact HT.out) g8 cap8 W (HG.out.below (HB7.out.trans (hb.mono HB7.out.size))) hr hlt⟩)
            have HRD := Lib.hid (read_row hrow)
            have HAT := Lib.hid (twice_at n HT.out)
            have HBS : Hid (∀ (i : Nat) (u : Value), Below w7.heap.size w7 (w8.setCell ⟨g8, i, none⟩ u)) := Lib.hid (fun i u => HB8.out.setCell (by simp only; omega) u)
            have HLS : Hid (∀ (i : Nat) (u : Value), g8 < (w8.setCell ⟨g8, i, none⟩ u).heap.size) := Lib.hid (fun i u => by simp; omega)
            obtain ⟨c1, c2, c3, c4⟩ := hrow m (n, v) (twice_at n HT.out)
            rw [Nat.zero_add] at c1 c2 c3 c4
            simp only at c1 c2 c3 c4
            have m2 : (m : Int) < (U.length : Int) + 1 := by omega
            clear hrow
            go_upto_block 4 with fail
            go_cut [25] from 158 to 233 (fun s25 wx => ∃ e : Int, s25 = .int .i64 e ∧ Below w7.heap.size w7 wx ∧ Calls Tryz.prog 22 #[.slice (some ⟨g8, 0, none⟩) (U.length + 1) cap8, .int .i64 0] wx (NormPost wx (.err e)))
            case first =>
              have hq' : q = 0 ∨ q = 1 ∨ q = 2 ∨ q = 3 ∨ q = 4 ∨ q = 5 ∨ q = 6 ∨ q = 7 := by omega
              clear hq hq8
              rcases hq' with rfl | rfl | rfl | rfl | rfl | rfl | rfl | rfl
              · go_wp2
                go_meet
                have z1 : checkE (⟨#[]⟩) (v) = 2 := bad0 v
                have z2 := read_name (n' := ⟨#[]⟩) HRD.out HAT.out
                have z3 := HBS.out (m * 2) (.string (⟨#[]⟩))
                have z4 := HLS.out (m * 2) (.string (⟨#[]⟩))
                have z5 : ((⟨#[]⟩, v) : Tag).1.size ≤ 1000 := Nat.zero_le _
                have z6 : ((⟨#[]⟩, v) : Tag).2.size ≤ 1000 := Nat.le_trans hv100 (by decide)
                have z7 := HSP.out (⟨#[]⟩, v) 2 _ z3 z1 (by decide) z5 z6 z2 z4
                exact ⟨2, rfl, z7⟩
              · go_wp2
                go_meet
                have z1 : checkE (⟨#[49]⟩ ++ n) (v) = 2 := bad1 n v
                have z2 := read_name (n' := ⟨#[49]⟩ ++ n) HRD.out HAT.out
                have z3 := HBS.out (m * 2) (.string (⟨#[49]⟩ ++ n))
                have z4 := HLS.out (m * 2) (.string (⟨#[49]⟩ ++ n))
                have z5 : ((⟨#[49]⟩ ++ n, v) : Tag).1.size ≤ 1000 := by simp only [ByteArray.size_append]; have e : (ByteArray.mk #[49]).size = 1 := rfl; omega
                have z6 : ((⟨#[49]⟩ ++ n, v) : Tag).2.size ≤ 1000 := Nat.le_trans hv100 (by decide)
                have z7 := HSP.out (⟨#[49]⟩ ++ n, v) 2 _ z3 z1 (by decide) z5 z6 z2 z4
                exact ⟨2, rfl, z7⟩
              · go_wp2
                go_meet
                have z1 : checkE (n ++ ⟨#[45]⟩) (v) = 2 := bad2 n v
                have z2 := read_name (n' := n ++ ⟨#[45]⟩) HRD.out HAT.out
                have z3 := HBS.out (m * 2) (.string (n ++ ⟨#[45]⟩))
                have z4 := HLS.out (m * 2) (.string (n ++ ⟨#[45]⟩))
                have z5 : ((n ++ ⟨#[45]⟩, v) : Tag).1.size ≤ 1000 := by simp only [ByteArray.size_append]; have e : (ByteArray.mk #[45]).size = 1 := rfl; omega
                have z6 : ((n ++ ⟨#[45]⟩, v) : Tag).2.size ≤ 1000 := Nat.le_trans hv100 (by decide)
                have z7 := HSP.out (n ++ ⟨#[45]⟩, v) 2 _ z3 z1 (by decide) z5 z6 z2 z4
                exact ⟨2, rfl, z7⟩
              · go_wp2
                go_meet
                have z1 : checkE (n) (v ++ ⟨#[10]⟩) = 2 := by rw [show v = vlB x.l2 from HV.out]; exact bad3 n x.l2
                have z2 := read_val (v' := v ++ ⟨#[10]⟩) HRD.out HAT.out
                have z3 := HBS.out (m * 2 + 1) (.string (v ++ ⟨#[10]⟩))
                have z4 := HLS.out (m * 2 + 1) (.string (v ++ ⟨#[10]⟩))
                have z5 : ((n, v ++ ⟨#[10]⟩) : Tag).1.size ≤ 1000 := Nat.le_trans hn21 (by decide)
                have z6 : ((n, v ++ ⟨#[10]⟩) : Tag).2.size ≤ 1000 := by simp only [ByteArray.size_append]; have e : (ByteArray.mk #[10]).size = 1 := rfl; omega
                have z7 := HSP.out (n, v ++ ⟨#[10]⟩) 2 _ z3 z1 (by decide) z5 z6 z2 z4
                exact ⟨2, rfl, z7⟩
              · go_wp2
                go_meet
                have z1 : checkE (n) (⟨#[195, 169]⟩) = 2 := bad4 n
                have z2 := read_val (v' := ⟨#[195, 169]⟩) HRD.out HAT.out
                have z3 := HBS.out (m * 2 + 1) (.string (⟨#[195, 169]⟩))
                have z4 := HLS.out (m * 2 + 1) (.string (⟨#[195, 169]⟩))
                have z5 : ((n, ⟨#[195, 169]⟩) : Tag).1.size ≤ 1000 := Nat.le_trans hn21 (by decide)
                have z6 : ((n, ⟨#[195, 169]⟩) : Tag).2.size ≤ 1000 := show (ByteArray.mk #[195, 169]).size ≤ 1000 by decide
                have z7 := HSP.out (n, ⟨#[195, 169]⟩) 2 _ z3 z1 (by decide) z5 z6 z2 z4
                exact ⟨2, rfl, z7⟩
              · go_wp2
                go_meet
                have z1 : checkE (nLong) (v) = 9 := by rw [show v = vlB x.l2 from HV.out]; exact bad5 x.l2
                have z2 := read_name (n' := nLong) HRD.out HAT.out
                have z3 := HBS.out (m * 2) (.string (nLong))
                have z4 := HLS.out (m * 2) (.string (nLong))
                have z5 : ((nLong, v) : Tag).1.size ≤ 1000 := show nLong.size ≤ 1000 by decide
                have z6 : ((nLong, v) : Tag).2.size ≤ 1000 := Nat.le_trans hv100 (by decide)
                have z7 := HSP.out (nLong, v) 9 _ z3 z1 (by decide) z5 z6 z2 z4
                exact ⟨9, rfl, z7⟩
              · have hmk := make_none w8
                have hcv := conv_none w8
                have hne8 : g8 ≠ w8.heap.size := by omega
                go_wp2
                go_meet
                have z2 := (read_val (v' := ⟨#[]⟩) HRD.out HAT.out).below ((Below.refl _ _).alloc (Nat.le_refl _) (.cells #[] 5)) (HLS.out _ _)
                have z3 := (HBS.out (m * 2 + 1) (.string ⟨#[]⟩)).alloc (HBS.out (m * 2 + 1) (.string ⟨#[]⟩)).size (.cells #[] 5)
                have z4 : g8 < ((w8.setCell ⟨g8, m * 2 + 1, none⟩ (.string ⟨#[]⟩)).alloc (.cells #[] 5)).heap.size := by simp; omega
                have z7 := HDP.out _ z3 z2 z4
                exact ⟨6, rfl, z7⟩
              · obtain ⟨f, hf, hf20⟩ : ∃ f : Nat, far.tmod 20 = (f : Int) ∧ f < 20 := by
                  refine ⟨(far % 20).toNat, ?_, by omega⟩
                  rw [Int.tmod_eq_emod_of_nonneg hf0]
                  omega
                go_wp2
                go_loopw [27] (fun s wx => ∃ k : Nat, k ≤ 121 + f ∧ s = .string (vK k) ∧ w8 = wx) (fun s _ => match s with | .string b => 200 - b.size | _ => 0)
                case atStart => exact ⟨0, by omega, rfl, rfl⟩
                case round =>
                  obtain ⟨k', hk', rfl, rfl⟩ := hrel
                  have hks := vK_size k'
                  by_cases hk1 : k' < 121 + f
                  · go_wp2
                    exact ⟨⟨k' + 1, by omega, rfl, trivial⟩, by have e118 : (ByteArray.mk #[118]).size = 1 := rfl; simp [ByteArray.size_append, vK_size, e118]; omega⟩
                  · obtain rfl : k' = 121 + f := by omega
                    go_wp2
                    go_meet
                    have z1 : checkE n (vK (121 + f)) = 9 := by rw [show n = nmB x.l1 from HN.out]; exact bad7 x.l1 _ (by omega)
                    have z2 := read_val (v' := vK (121 + f)) HRD.out HAT.out
                    have z3 := HBS.out (m * 2 + 1) (.string (vK (121 + f)))
                    have z4 := HLS.out (m * 2 + 1) (.string (vK (121 + f)))
                    have z5 : ((n, vK (121 + f)) : Tag).1.size ≤ 1000 := Nat.le_trans hn21 (by decide)
                    have z6 : ((n, vK (121 + f)) : Tag).2.size ≤ 1000 := by show (vK (121 + f)).size ≤ 1000; omega
                    have z7 := HSP.out (n, vK (121 + f)) 9 _ z3 z1 (by decide) z5 z6 z2 z4
                    exact ⟨9, rfl, z7⟩
            case rest =>
              obtain ⟨e, rfl, hb9, hcall⟩ := hcut
              clear c1 c2 c3 c4 HSP HDP HRD HAT HBS HLS
              go_wp2_with fail
              go_fit hcall
              clear hcall
              rintro e1 w9 ⟨hb10, rfl⟩
              have hgw := HG.out.below (HB7.out.trans ((hb9.trans (hb10.mono hb9.size)).mono HB7.out.size))
              have hfin := HB7.out.trans ((hb9.trans (hb10.mono hb9.size)).mono HB7.out.size)
              go_wp2_with fail
              go_fit (works_any _ hgw)
              rintro e1 w10 ⟨rfl, hb11⟩
              have hf2 := hfin.trans (hb11.mono hfin.size)
              clear hfin hb9 hb10 hb11
              go_wp2_with fail
              go_ret
              exact ⟨rfl, hf2⟩
end Go.Proofs.YtogcepiofpmabaaGreatDoor
