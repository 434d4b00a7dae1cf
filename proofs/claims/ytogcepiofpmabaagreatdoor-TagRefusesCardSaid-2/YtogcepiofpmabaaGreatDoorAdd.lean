/- Contract of the closure by which tag.Normal adds a tag. -/
import Derived.Test.YtogcepiofpmabaaGreatDoorFirst
import Derived.Maps.AppendAt
import Derived.Outline
namespace Go.Proofs.YtogcepiofpmabaaGreatDoor
open Go.RowKit Go.Lib Go.Maps

/-- The cells of a list of tags. -/
def tagCells : List Tag → List Value
  | [] => []
  | t :: r => .string t.1 :: .string t.2 :: tagCells r
theorem tagCells_append : ∀ (l m : List Tag), tagCells (l ++ m) = tagCells l ++ tagCells m
  | [], _ => rfl
  | t :: r, m => by simp [tagCells, tagCells_append r m]
theorem tagCells_length : ∀ l : List Tag, (tagCells l).length = l.length * 2
  | [] => rfl
  | t :: r => by simp [tagCells, tagCells_length r]; omega
theorem tagCells_get : ∀ (l : List Tag) (i : Nat) (t : Tag), l[i]? = some t → (tagCells l)[i * 2]? = some (.string t.1) ∧ (tagCells l)[i * 2 + 1]? = some (.string t.2)
  | [], i, t, h => by simp at h
  | a :: r, 0, t, h => by simp at h; subst h; exact ⟨rfl, rfl⟩
  | a :: r, i + 1, t, h => by
    simp at h
    obtain ⟨h1, h2⟩ := tagCells_get r i t h
    have e1 : (i + 1) * 2 = i * 2 + 2 := by omega
    rw [e1]
    exact ⟨h1, h2⟩
theorem tagCells_one : ∀ l : List Tag, ∀ u ∈ tagCells l, u.oneCell' = true
  | [], u, h => by simp [tagCells] at h
  | t :: r, u, h => by
    simp only [tagCells, List.mem_cons] at h
    rcases h with rfl | rfl | h
    · rfl
    · rfl
    · exact tagCells_one r u h

/-- What tag.Normal keeps while it adds tags: the map, and the list in its box. -/
structure St (w : World) (base bs bo bm : Nat) (l : List Tag) : Prop where
  seen : w.cell? ⟨bs, 0, none⟩ = some (.map (some bm))
  map : MapS w bm l
  lts : bs < base
  ltm : bm < base
  nsm : bs ≠ bm
  lto : base ≤ bo
  lth : bo < w.heap.size
  row : ∃ sv, w.cell? ⟨bo, 0, none⟩ = some sv ∧ w.frozen? ⟨bo, 0, none⟩ = false ∧ w.ownsRow base 27 2 sv l.length (tagCells l) ∧ sv.ownBlock ≠ some bo

theorem infoTag : (Tryz.prog.info? 27).map (fun i => (i.zero, i.size, i.bytes)) = some (some (.agg #[.string ⟨#[]⟩, .string ⟨#[]⟩]), 2, 32) := by kernel_rfl

set_option maxHeartbeats 1000000 in
theorem add_has (n v : ByteArray) (w : World) (base bs bo bm : Nat) (l : List Tag) (h : St w base bs bo bm l) (hn : n.size ≤ maxLen) (hh : hasN l n = true) :
    Calls Tryz.prog 32 #[.string n, .string v, .pointer (some ⟨bs, 0, none⟩), .pointer (some ⟨bo, 0, none⟩)] w fun e w' => e = .returned (.tuple #[]) ∧ w = w' := by
  have hs := h.seen
  have hlk := h.map.look_ok n hn
  rw [hh] at hlk
  clear h
  go_enter Tryz.func32, Tryz.ntmps32
  go_wp2
  go_end0
  exact ⟨rfl, rfl⟩

theorem cell_grown {w w' : World} {row : Option Nat} (hg : w.grownBy w' row) {p : Addr} {v : Value} (hlt : p.block < w.heap.size) (hne : some p.block ≠ row) (hc : w.cell? p = some v) : w'.cell? p = some v := by
  rw [World.cell?_of_block (w := w) (hg.block p.block hlt hne)]; exact hc
theorem frozen_grown {w w' : World} {row : Option Nat} (hg : w.grownBy w' row) {p : Addr} (hlt : p.block < w.heap.size) (hne : some p.block ≠ row) (hc : w.frozen? p = false) : w'.frozen? p = false := by
  rw [World.frozen?_of_block (w := w) (hg.block p.block hlt hne)]; exact hc

/-- The tag has been added. -/
def Added (w : World) (base bs bo bm : Nat) (l : List Tag) (e : Ending) (w' : World) : Prop :=
  e = .returned (.tuple #[]) ∧ St w' base bs bo bm l ∧ w.heap.size ≤ w'.heap.size ∧ (∀ B, B ≤ bm → Below B w w') ∧ ∀ sv, w.cell? ⟨bo, 0, none⟩ = some sv → ∀ p : Addr, p.block < w.heap.size → p.block ≠ bm → p.block ≠ bo → some p.block ≠ sv.ownBlock → w'.cell? p = w.cell? p

set_option maxRecDepth 100000 in
set_option maxHeartbeats 1000000 in
theorem add_new (n v : ByteArray) (w : World) (base bs bo bm : Nat) (l : List Tag) (h : St w base bs bo bm l) (hn : n.size ≤ maxLen) (hv : v.size ≤ maxLen) (hh : hasN l n = false) (hlen : (l.length + 1) * 32 ≤ 140737488355328) :
    Calls Tryz.prog 32 #[.string n, .string v, .pointer (some ⟨bs, 0, none⟩), .pointer (some ⟨bo, 0, none⟩)] w (Added w base bs bo bm (l ++ [(n, v)])) := by
  obtain ⟨hs, hmap, lts, ltm, nsm, lto, lth, sv, ho, hof, hrow, hob⟩ := h
  have hlk := hmap.look_ok n hn
  rw [hh] at hlk
  obtain ⟨w1, hst, hm1, hg1⟩ := hmap.store n v hn hv hh (by unfold maxLen; omega)
  have s1 := cell_grown hg1 (p := ⟨bs, 0, none⟩) (by simp only; omega) (by simp; omega) hs
  have o1 := cell_grown hg1 (p := ⟨bo, 0, none⟩) (by simp only; omega) (by simp; omega) ho
  have f1 := frozen_grown hg1 (p := ⟨bo, 0, none⟩) (by simp only; omega) (by simp; omega) hof
  have hrow1 := hrow.kept hg1 (by
    by_cases e : sv.ownBlock = none
    · exact Or.inl e
    · right
      intro e2
      have := hrow.lt bm e2
      omega)
  obtain ⟨i0, hi, hz0, hz1, hz2⟩ := info_parts infoTag
  clear hmap hrow
  go_enter Tryz.func32, Tryz.ntmps32
  go_wp2_with (at_builtin; refine wpList_append_own_at _ rfl _ _ 39 rfl base 27 i0 (.agg #[.string ⟨#[]⟩, .string ⟨#[]⟩]) 2 32 Tryz.underlying39 hi hz0 hz1 hz2 rfl (by decide) _ _ _ rfl (hrow1.alloc _) ⟨w1.heap.size, 0, none⟩ 1 1 [.string n, .string v] rfl rfl ?c1 ?c2 ?c3 ?c4 ?c5 ?c6)
  case c1 =>
    intro j u hj
    match j, hj with
    | 0, hj => simp at hj; subst hj; simp [Addr.add]
    | 1, hj => simp at hj; subst hj; simp [Addr.add]
    | j + 2, hj => simp at hj
  case c2 => intro u hu; simp at hu; rcases hu with rfl | rfl <;> rfl
  case c3 => unfold maxLen; omega
  case c4 => exact hlen
  case c5 => have := hg1.size; simp; omega
  case c6 =>
    intro v' w2 hown2 hg2 hnil hloc
    have hz := hg1.size
    have hrl := hrow1.lt
    have nbs : some bs ≠ sv.ownBlock := fun e => by have := hrl bs e.symm; omega
    have nbm : some bm ≠ sv.ownBlock := fun e => by have := hrl bm e.symm; omega
    have s2 := cell_grown hg2 (p := ⟨bs, 0, none⟩) (by simp; omega) nbs ((World.cell?_alloc_past _ _ _ (by first | omega | (simp only; omega))).trans s1)
    have o2 := cell_grown hg2 (p := ⟨bo, 0, none⟩) (by simp; omega) (Ne.symm hob) ((World.cell?_alloc_past _ _ _ (by first | omega | (simp only; omega))).trans o1)
    have f2 := frozen_grown hg2 (p := ⟨bo, 0, none⟩) (by simp; omega) (Ne.symm hob) ((World.frozen?_alloc_past _ _ _ (by first | omega | (simp only; omega))).trans f1)
    have m2 := ((hm1.alloc _).kept hg2 nbm).setCell (a := ⟨bo, 0, none⟩) (by first | omega | (simp only; omega)) v'
    have z2 := hg2.size
    simp at z2
    have HF : Hid (Added w base bs bo bm (l ++ [(n, v)]) (.returned (.tuple #[])) (w2.setCell ⟨bo, 0, none⟩ v')) := by
      refine Lib.hid ⟨rfl, ⟨?_, m2, lts, ltm, nsm, lto, ?_, v', ?_, ?_, ?_, ?_⟩, ?_, ?_, ?_⟩
      · rw [World.cell?_setCell_other _ _ _ _ (by intro e; simp at e <;> omega)]; exact s2
      · simp; omega
      · exact World.cell?_setCell_same' _ _ _ (by rw [o2]; rfl)
      · rw [World.frozen?_setCell]; exact f2
      · rw [tagCells_append, List.length_append]
        refine World.ownsRow.kept (w := w2) hown2 (row := some bo) ⟨rfl, rfl, rfl, by simp, fun k _ hk => Below.heap_setCell _ _ _ _ (fun e => hk (by rw [e]))⟩ ?_
        rcases hloc with e | e
        · right; rw [e]; exact hob
        · right; rw [e]; intro e2; simp at e2; omega
      · rcases hloc with e | e
        · rw [e]; exact hob
        · rw [e]; intro e2; simp at e2; omega
      · simp; omega
      · intro B hB
        refine Below.setCell ?_ (by first | omega | (simp only; omega)) _
        refine (((Below.refl B w).grown hg1 (by omega) (fun k e => by cases e; exact hB)).alloc (by omega) _).grown hg2 (by simp; omega) ?_
        intro k e
        have := hrl k e
        omega
      · intro sv' e' p hp1 hp2 hp3 hp4
        rw [ho] at e'
        obtain rfl := Option.some.inj e'
        rw [World.cell?_setCell_other _ _ _ _ (by intro e; rw [← e] at hp3; exact hp3 rfl)]
        rw [World.cell?_of_block (w := w1.alloc _) (hg2.block p.block (by simp; omega) hp4)]
        rw [show (w1.alloc (.cells #[.string n, .string v] 27)).cell? p = w1.cell? p from World.cell?_alloc_old _ _ _ (by omega)]
        exact World.cell?_of_block (w := w) (hg1.block p.block hp1 (by simp; omega))
    obtain ⟨g, cap, hvv⟩ : ∃ g cap, v' = .slice (some ⟨g, 0, none⟩) (l.length + 1) cap := by
      rcases hown2.2 with ⟨e, _⟩ | ⟨g, cap, _, e, _⟩
      · exact absurd e hnil
      · exact ⟨g, cap, e⟩
    rw [hvv] at HF ⊢
    clear hown2 hg2 hnil hloc m2 z2 hm1 hg1 hrow1 s2 hvv
    go_wp2
    go_end0
    exact HF.out

theorem St.below {W W' : World} {base bs bo bm : Nat} {l : List Tag} (h : St W base bs bo bm l) (hb : Below W.heap.size W W') : St W' base bs bo bm l := by
  obtain ⟨hs, hmap, lts, ltm, nsm, lto, lth, sv, ho, hof, hrow, hob⟩ := h
  have hg : W.grownBy W' none := ⟨hb.os, hb.tape, hb.output, hb.size, fun k hk _ => hb.block k hk⟩
  refine ⟨?_, hmap.kept hg (by simp), lts, ltm, nsm, lto, Nat.lt_of_lt_of_le lth hb.size, sv, ?_, ?_, ?_, hob⟩
  · rw [hb.cell (p := ⟨bs, 0, none⟩) (by first | omega | (simp only; omega))]; exact hs
  · rw [hb.cell (p := ⟨bo, 0, none⟩) (by first | omega | (simp only; omega))]; exact ho
  · rw [hb.frozen (p := ⟨bo, 0, none⟩) (by first | omega | (simp only; omega))]; exact hof
  · refine hrow.kept hg ?_
    cases sv.ownBlock <;> simp

/-- A tag has been added, if its name was new. -/
def AddPost (W Wc : World) (base bs bo bm : Nat) (l : List Tag) (e : Ending) (w' : World) : Prop :=
  e = .returned (.tuple #[]) ∧ St w' base bs bo bm l ∧ (∀ B, B ≤ bm → Below B Wc w') ∧ ∀ p : Addr, W.heap.size ≤ p.block → p.block < Wc.heap.size → w'.cell? p = Wc.cell? p

theorem add_step (n v : ByteArray) (W Wc : World) (base bs bo bm : Nat) (l : List Tag) (h : St W base bs bo bm l) (hx : Below W.heap.size W Wc) (hn : n.size ≤ maxLen) (hv : v.size ≤ maxLen) (hlen : (l.length + 1) * 32 ≤ 140737488355328) :
    Calls Tryz.prog 32 #[.string n, .string v, .pointer (some ⟨bs, 0, none⟩), .pointer (some ⟨bo, 0, none⟩)] Wc (AddPost W Wc base bs bo bm (if hasN l n then l else l ++ [(n, v)])) := by
  have hc := h.below hx
  cases hh : hasN l n
  · refine (add_new n v Wc base bs bo bm l hc hn hv hh hlen).mono ?_
    rintro e w' ⟨rfl, hst, _, hb, hcell⟩
    refine ⟨rfl, hst, hb, fun p h1 h2 => ?_⟩
    obtain ⟨hs, hmap, lts, ltm, nsm, lto, lth, sv, ho, hof, hrow, hob⟩ := h
    have ho' : Wc.cell? ⟨bo, 0, none⟩ = some sv := by
      rw [hx.cell (p := ⟨bo, 0, none⟩) (by first | omega | (simp only; omega))]; exact ho
    have hm := hmap.lt
    refine hcell sv ho' p h2 (by omega) (by omega) (fun e => ?_)
    have := hrow.lt p.block e.symm
    omega
  · refine (add_has n v Wc base bs bo bm l hc hn hh).mono ?_
    rintro e w' ⟨rfl, rfl⟩
    exact ⟨rfl, hc, fun B _ => Below.refl _ _, fun p _ _ => rfl⟩

end Go.Proofs.YtogcepiofpmabaaGreatDoor
