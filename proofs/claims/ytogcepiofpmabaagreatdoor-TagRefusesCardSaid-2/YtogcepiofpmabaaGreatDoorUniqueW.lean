/- The walk of the law's function unique. -/
import Derived.Test.YtogcepiofpmabaaGreatDoorUnique
import Derived.Test.YtogcepiofpmabaaGreatDoorGlob
import Derived.Maps.AppendAt
import Derived.Lib.SmallJoins
import Derived.Outline
namespace Go.Proofs.YtogcepiofpmabaaGreatDoor
open Go.RowKit Go.Lib Go.Maps

/-- What unique hands back. -/
def UniPost (w : World) (out : List Tag) (e : Ending) (w' : World) : Prop :=
  ∃ sv, e = .returned sv ∧ w'.ownsRow w.heap.size 27 2 sv out.length (tagCells out) ∧ Below w.heap.size w w' ∧ ((sv = .slice none 0 0 ∧ out = []) ∨ ∃ g cap, sv = .slice (some ⟨g, 0, none⟩) out.length cap)

theorem uni_step {l : List Wd} {k : Nat} {x : Wd} {out : List Tag} (hx : l[k]? = some x) (hl : out.length < 15) (h : uni 15 l [] = uni 15 (l.drop k) out) : uni 15 l [] = uni 15 (l.drop (k + 1)) (addU out (wt x)) := by
  have hk := (List.getElem?_eq_some_iff.1 hx).1
  have he := (List.getElem?_eq_some_iff.1 hx).2
  rw [h, List.drop_eq_getElem_cons hk, he]
  conv => lhs; unfold uni
  rw [if_pos hl]
theorem uni_full {l : List Wd} {k : Nat} {out : List Tag} (hl : ¬ out.length < 15) (h : uni 15 l [] = uni 15 (l.drop k) out) : uni 15 l [] = out := by
  rw [h]
  cases l.drop k with
  | nil => rfl
  | cons x r => unfold uni; rw [if_neg hl]
theorem uni_done {l : List Wd} {k : Nat} {out : List Tag} (hk : ¬ k < l.length) (h : uni 15 l [] = uni 15 (l.drop k) out) : uni 15 l [] = out := by
  rw [h, List.drop_of_length_le (by omega)]
  rfl

set_option maxRecDepth 100000 in
set_option maxHeartbeats 4000000 in
theorem unique_any (l : List Wd) (a : Option Addr) (c : Nat) (w : World) (hr : WRead w a l) (hl : l.length ≤ 1000) (hs : Short l) :
    Calls Tryz.prog 21 #[.slice a l.length c, .int .i64 15] w (UniPost w (uni 15 l [])) := by
  obtain ⟨i0, hi0, hz0, hz1, hz2⟩ := info_parts infoTag
  go_enter Tryz.func21, Tryz.ntmps21
  go_wp2
  go_loopw [6, 5] (fun i sv wr => ∃ (k : Nat) (out : List Tag), k ≤ l.length ∧ i = .int .i64 k ∧ ((sv = .slice none 0 0 ∧ out = []) ∨ ∃ g cap, sv = .slice (some ⟨g, 0, none⟩) out.length cap) ∧ wr.ownsRow w.heap.size 27 2 sv out.length (tagCells out) ∧ Below w.heap.size w wr ∧ uni 15 l [] = uni 15 (l.drop k) out ∧ out.length ≤ 15) (fun i _ _ => l.length - (intOf i).toNat)
  case atStart => exact ⟨0, [], by omega, rfl, Or.inl ⟨rfl, rfl⟩, World.ownsRow_nil _ _ _ _, Below.refl _ _, rfl, by decide⟩
  case round =>
    obtain ⟨k, out, hk, rfl, hsv, own, hb, huni, hle⟩ := hrel
    have hgr : ∀ W', Below wr.heap.size wr W' → W'.ownsRow w.heap.size 27 2 u5 out.length (tagCells out) := fun W' hb' => own.kept (row := none) ⟨hb'.os, hb'.tape, hb'.output, hb'.size, fun k hk _ => hb'.block k hk⟩ (Classical.em _)
    by_cases hk1 : k < l.length
    · obtain ⟨x, hx⟩ : ∃ x, l[k]? = some x := ⟨_, List.getElem?_eq_getElem hk1⟩
      obtain ⟨p, e, hc⟩ := hr.2 (fun e => by rw [e] at hk1; exact absurd hk1 (Nat.not_lt_zero _))
      subst e
      obtain ⟨d1, d2⟩ := hc k x hx
      have d1 := cell_later hb d1
      have d2 : wr.cell? ⟨(p.add (k * 2)).block, (p.add (k * 2)).off + 1, none⟩ = some (.slice x.a2 x.l2.length x.c2) := cell_later hb d2
      obtain ⟨r1, r2⟩ := hr.1 x (List.mem_of_getElem? hx)
      have r1 := r1.below hb
      have r2 := r2.below hb
      obtain ⟨s1, s2⟩ := hs x (List.mem_of_getElem? hx)
      have k0 : (0 : Int) ≤ (k : Int) := by omega
      have k1 : (k : Int) < (l.length : Int) := by omega
      by_cases ho : out.length < 15
      · have hstep := Lib.hid (uni_step hx ho huni)
        have HG := Lib.hid hgr
        have HX := Lib.hid hx
        clear hr hc hx huni hs hgr
        rcases hsv with ⟨rfl, rfl⟩ | ⟨g, cap, rfl⟩
        · go_wp2_with fail
          refine (wtag_any x.l1 x.l2 x.a1 x.a2 x.c1 x.c2 wr r1 r2 (by omega) (by omega)).mono ?_
          rintro e w1 ⟨rfl, hb1⟩
          have hz := hb.size
          have hz1' := hb1.size
          have own1 := ((HG.out w1 hb1).alloc (.cells #[.string (nmB x.l1), .string (vlB x.l2)] 27)).alloc (.cells #[.string (nmB x.l1), .string (vlB x.l2)] 27)
          have hbb := hb.trans (hb1.mono hz)
          go_wp2_with fail
          refine (value_nil _ none 0 _).mono ?_
          rintro e w' ⟨rfl, rfl⟩
          go_wp2_with (at_builtin; refine wpList_append_own_at _ rfl _ _ 39 rfl w.heap.size 27 i0 (.agg #[.string ⟨#[]⟩, .string ⟨#[]⟩]) 2 32 Tryz.underlying39 hi0 hz0 hz1 hz2 rfl (by decide) _ _ _ rfl own1 ⟨w1.heap.size + 1, 0, none⟩ 1 1 [.string (nmB x.l1), .string (vlB x.l2)] rfl rfl ?c1 (fun u hu => by simp at hu; rcases hu with rfl | rfl <;> rfl) (by unfold maxLen; simp) (by simp) (by simp; omega) ?_)
          case c1 =>
            intro j u hj
            match j, hj with
            | 0, hj => simp at hj; subst hj; rw [show (⟨w1.heap.size + 1, 0, none⟩ : Addr).add 0 = ⟨w1.heap.size + 1, 0, none⟩ from rfl, World.cell?_alloc_at _ _ _ _ (by simp)]; rfl
            | 1, hj => simp at hj; subst hj; rw [show (⟨w1.heap.size + 1, 0, none⟩ : Addr).add 1 = ⟨w1.heap.size + 1, 1, none⟩ from by simp [Addr.add], World.cell?_alloc_at _ _ _ _ (by simp)]; rfl
            | j + 2, hj => simp at hj
          intro v' w2 hown2 hg2 hnil hloc
          have HB2 : Hid (Below w.heap.size w w2) := Lib.hid (((hbb.alloc hbb.size _).alloc (by have := hbb.size; simp; omega) _).grown hg2 (by have := hbb.size; simp; omega) (fun j e => by simp [Value.ownBlock] at e))
          have HO2 : Hid (w2.ownsRow w.heap.size 27 2 v' (addU [] (wt x)).length (tagCells (addU [] (wt x)))) := Lib.hid hown2
          obtain ⟨g', cap', hvv⟩ := Joins.ownsRow_form hown2 (by decide)
          clear hown2 hg2 hnil hloc own1 hbb
          subst hvv
          go_wp2
          exact ⟨⟨k + 1, addU [] (wt x), by omega, by go_num, Or.inr ⟨_, _, rfl⟩, HO2.out, HB2.out, hstep.out, show (1 : Nat) ≤ 15 by decide⟩, by simp [intOf]; omega⟩
        · go_wp2_with fail
          refine (wtag_any x.l1 x.l2 x.a1 x.a2 x.c1 x.c2 wr r1 r2 (by omega) (by omega)).mono ?_
          rintro e w1 ⟨rfl, hb1⟩
          have hz := hb.size
          have hz1' := hb1.size
          have own0 := (HG.out w1 hb1).alloc (.cells #[.string (nmB x.l1), .string (vlB x.l2)] 27)
          have hread := read_row (row_of_own own0)
          have hglt := (own0.lt g rfl).2
          have hbb := (hb.trans (hb1.mono hz)).alloc (by omega) (.cells #[.string (nmB x.l1), .string (vlB x.l2)] 27)
          go_wp2_with fail
          refine (value_any out (nmB x.l1) g 0 cap _ hread hglt (by omega)).mono ?_
          rintro e w4 ⟨rfl, hb4⟩
          have m0 : w4.cell? ⟨w1.heap.size, 0, none⟩ = some (.string (nmB x.l1)) := cell_later hb4 (by simp)
          have m1 : w4.cell? ⟨w1.heap.size, 1, none⟩ = some (.string (vlB x.l2)) := cell_later hb4 (by simp)
          have own4 := own0.kept (row := none) ⟨hb4.os, hb4.tape, hb4.output, hb4.size, fun k hk _ => hb4.block k hk⟩ (Classical.em _)
          have hbb4 := hbb.trans (hb4.mono hbb.size)
          cases hh : hasN out (nmB x.l1) with
          | true =>
            have HA : Hid (addU out (wt x) = out) := Lib.hid (by unfold addU wt; rw [if_pos hh])
            have HO := Lib.hid own4
            have HB := Lib.hid hbb4
            clear own0 hread own4 hbb hbb4 hb4
            go_wp2
            exact ⟨⟨k + 1, out, by omega, by go_num, Or.inr ⟨_, _, rfl⟩, HO.out, HB.out, hstep.out.trans (by rw [HA.out]), hle⟩, by simp [intOf]; omega⟩
          | false =>
            have HA : Hid (addU out (wt x) = out ++ [wt x]) := Lib.hid (by unfold addU wt; rw [if_neg (by simp only; rw [hh]; decide)])
            have own5 := own4.alloc (.cells #[.string (nmB x.l1), .string (vlB x.l2)] 27)
            have hrl := own4.lt
            have hz4 := hbb4.size
            go_wp2_with (at_builtin; refine wpList_append_own_at _ rfl _ _ 39 rfl w.heap.size 27 i0 (.agg #[.string ⟨#[]⟩, .string ⟨#[]⟩]) 2 32 Tryz.underlying39 hi0 hz0 hz1 hz2 rfl (by decide) _ _ _ rfl own5 ⟨w4.heap.size, 0, none⟩ 1 1 [.string (nmB x.l1), .string (vlB x.l2)] rfl rfl ?c1 (fun u hu => by simp at hu; rcases hu with rfl | rfl <;> rfl) (by unfold maxLen; omega) (by omega) (by simp; omega) ?_)
            case c1 =>
              intro j u hj
              match j, hj with
              | 0, hj => simp at hj; subst hj; simp [Addr.add]
              | 1, hj => simp at hj; subst hj; simp [Addr.add]
              | j + 2, hj => simp at hj
            intro v' w5 hown5 hg5 hnil hloc
            have HB5 : Hid (Below w.heap.size w w5) := Lib.hid ((hbb4.alloc hz4 _).grown hg5 (by simp; omega) (fun j e => (hrl j e).1))
            have HO5 : Hid (w5.ownsRow w.heap.size 27 2 v' (addU out (wt x)).length (tagCells (addU out (wt x)))) := Lib.hid (by rw [HA.out, tagCells_append, List.length_append]; exact hown5)
            obtain ⟨g', cap', hvv⟩ := Joins.ownsRow_form hown5 (by omega)
            clear hown5 hg5 hnil hloc own5 own4 own0 hread hbb hbb4 hb4 hrl
            subst hvv
            go_wp2
            exact ⟨⟨k + 1, addU out (wt x), by omega, by go_num, Or.inr ⟨g', cap', by rw [HA.out, List.length_append]; rfl⟩, HO5.out, HB5.out, hstep.out, by rw [HA.out, List.length_append]; simp; omega⟩, by simp [intOf]; omega⟩
      · have HU := Lib.hid (uni_full ho huni)
        have ho2 : ¬ (out.length : Int) < 15 := by omega
        clear hr hc hx huni hs hgr
        rcases hsv with ⟨rfl, rfl⟩ | ⟨g, cap, rfl⟩
        · exact absurd (show (0 : Nat) < 15 by decide) ho
        · go_wp2
          go_ret
          exact ⟨.slice (some ⟨g, 0, none⟩) out.length cap, rfl, by rw [HU.out]; exact own, hb, Or.inr ⟨g, cap, by rw [HU.out]⟩⟩
    · have HU := Lib.hid (uni_done hk1 huni)
      clear hr huni hs hgr
      rcases hsv with ⟨rfl, rfl⟩ | ⟨g, cap, rfl⟩
      · go_wp2
        go_ret
        exact ⟨_, rfl, by rw [HU.out]; exact own, hb, Or.inl ⟨rfl, HU.out⟩⟩
      · go_wp2
        go_ret
        exact ⟨.slice (some ⟨g, 0, none⟩) out.length cap, rfl, by rw [HU.out]; exact own, hb, Or.inr ⟨g, cap, by rw [HU.out]⟩⟩
end Go.Proofs.YtogcepiofpmabaaGreatDoor
