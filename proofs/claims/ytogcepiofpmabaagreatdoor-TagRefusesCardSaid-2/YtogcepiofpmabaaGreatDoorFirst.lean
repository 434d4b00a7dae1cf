/- Contract of tag.first where all tags are good. -/
import Derived.Test.YtogcepiofpmabaaGreatDoorMap
import Derived.Test.YtogcepiofpmabaaGreatDoorCheck
import Derived.Test.YtogcepiofpmabaaGreatDoorResult
import Derived.Outline
namespace Go.Proofs.YtogcepiofpmabaaGreatDoor
open Go.RowKit Go.Lib Go.Maps

/-- No tag's strings are longer than strings are. -/
def Sized (l : List Tag) : Prop := ∀ t ∈ l, t.1.size ≤ maxLen ∧ t.2.size ≤ maxLen
/-- Each tag is valid. -/
def Good (l : List Tag) : Prop := ∀ t ∈ l, checkE t.1 t.2 = 0

/-- What tag.first leaves: a map that the tags fill, or the error that a name is there twice. -/
def FirstOk (l : List Tag) (w : World) (e : Ending) (w' : World) : Prop :=
  Below w.heap.size w w' ∧ (((l.map (·.1)).Nodup ∧ ∃ bm, e = .returned (.tuple #[.map (some bm), .int .i64 0]) ∧ w.heap.size ≤ bm ∧ MapS w' bm l) ∨ (¬ (l.map (·.1)).Nodup ∧ e = .returned (.tuple #[.map none, .int .i64 6])))

theorem TagRead.below {w w' : World} {b o : Nat} {l : List Tag} (h : TagRead w b o l) (hb : Below w.heap.size w w') (hlt : b < w.heap.size) : TagRead w' b o l := fun i t ht => by
  obtain ⟨h1, h2⟩ := h i t ht
  exact ⟨by rw [hb.cell (p := ⟨b, _, none⟩) hlt]; exact h1, by rw [hb.cell (p := ⟨b, _, none⟩) hlt]; exact h2⟩

theorem take_snoc' (l : List Tag) (k : Nat) (t : Tag) (h : l[k]? = some t) : l.take (k + 1) = l.take k ++ [t] := by
  rw [List.take_add_one, h]; rfl

theorem dup_of_has {l : List Tag} {k : Nat} {t : Tag} (h : l[k]? = some t) (hh : hasN (l.take k) t.1 = true) : ¬ (l.map (·.1)).Nodup := by
  intro hn
  rw [hasN_iff] at hh
  have e : l = l.take k ++ l.drop k := (List.take_append_drop k l).symm
  rw [e, List.map_append, List.nodup_append] at hn
  have hm : t ∈ l.drop k := by
    have hk : k < l.length := (List.getElem?_eq_some_iff.1 h).1
    rw [List.drop_eq_getElem_cons hk]
    have := (List.getElem?_eq_some_iff.1 h).2
    rw [this]; exact List.mem_cons_self
  exact hn.2.2 _ hh t.1 (List.mem_map.2 ⟨t, hm, rfl⟩) rfl

theorem box_below {w w1 : World} {o : Obj} (hb : Below (w.alloc o).heap.size (w.alloc o) w1) : Below w.heap.size w w1 :=
  ((Below.refl _ _).alloc (Nat.le_refl _) _).trans (hb.mono (by simp))

set_option maxRecDepth 100000 in
set_option maxHeartbeats 2000000 in
theorem first_ok (l : List Tag) (b o c : Nat) (w : World) (hr : TagRead w b o l) (hlt : b < w.heap.size) (hl : l.length ≤ 1152921504606846976) (hsz : Sized l) (hgood : Good l) :
    Calls Tryz.prog 30 #[.slice (some ⟨b, o, none⟩) l.length c] w (FirstOk l w) := by
  have hmm := @run_makeMap Tryz.prog
  go_enter Tryz.func30, Tryz.ntmps30
  go_wp2
  go_loopw [14] (fun i wr => ∃ k : Nat, k ≤ l.length ∧ i = .int .i64 k ∧ Below w.heap.size w wr) (fun i _ => l.length - (intOf i).toNat)
  case atStart => exact ⟨0, by omega, rfl, Below.refl _ _⟩
  case round =>
    obtain ⟨k, hk, rfl, hb⟩ := hrel
    by_cases hk1 : k < l.length
    · obtain ⟨⟨n, v⟩, ht⟩ : ∃ t, l[k]? = some t := ⟨_, List.getElem?_eq_getElem hk1⟩
      obtain ⟨c1, c2⟩ := (hr.below hb hlt) k _ ht
      have hm := List.mem_of_getElem? ht
      obtain ⟨s1, s2⟩ := hsz _ hm
      have hE := hgood _ hm
      simp only at c1 c2 s1 s2 hE
      go_wp2_with (go_at_call 11; refine (check_any n v _ s1 s2).mono ?_; rw [hE]; rintro e w' ⟨rfl, hb1⟩)
      exact ⟨⟨k + 1, by omega, by go_num, hb.trans ((box_below hb1).mono hb.size)⟩, by simp [intOf]; omega⟩
    · have hm0 := MapS.made wr
      have hbw : Below w.heap.size w (wr.alloc (.map #[] 0)) := hb.alloc hb.size _
      have hge := hb.size
      clear hk hb
      go_wp2
      obtain ⟨bm, hbm⟩ : ∃ bm, bm = wr.heap.size := ⟨_, rfl⟩
      rw [← hbm] at hm0 hge
      simp only [← hbm]
      clear hbm
      obtain ⟨w0, hw0⟩ : ∃ w0, w0 = wr.alloc (.map #[] 0) := ⟨_, rfl⟩
      rw [← hw0] at hm0 hbw
      simp only [← hw0]
      clear hw0
      go_loopw [27] (fun i wx => ∃ k : Nat, k ≤ l.length ∧ i = .int .i64 k ∧ Below w.heap.size w wx ∧ MapS wx bm (l.take k)) (fun i _ => l.length - (intOf i).toNat)
      case atStart => exact ⟨0, by omega, rfl, hbw, hm0⟩
      case round =>
        obtain ⟨j, hj, rfl, hb, hm⟩ := hrel
        by_cases hk1 : j < l.length
        · obtain ⟨⟨n, v⟩, ht⟩ : ∃ t, l[j]? = some t := ⟨_, List.getElem?_eq_getElem hk1⟩
          obtain ⟨c1, c2⟩ := (hr.below hb hlt) j _ ht
          have hmem := List.mem_of_getElem? ht
          obtain ⟨s1, s2⟩ := hsz _ hmem
          simp only at c1 c2 s1 s2
          have hlen : (l.take j).length < maxLen := by rw [List.length_take]; unfold maxLen; omega
          have hlk := (hm.alloc (.cells #[.string n, .string v] 27)).look_ok n s1
          cases hh : hasN (l.take j) n
          · rw [hh] at hlk
            obtain ⟨w1, hst, hm1, hg1⟩ := (hm.alloc (.cells #[.string n, .string v] 27)).store n v s1 s2 hh hlen
            have hb1 := (hb.alloc hb.size (.cells #[.string n, .string v] 27)).grown hg1 (by have := hb.size; simp; omega) (fun i hi => by cases hi; exact hge)
            have HM : Hid (MapS w1 bm (l.take (j + 1))) := Lib.hid (by rw [take_snoc' l j _ ht]; exact hm1)
            have HB := Lib.hid hb1
            clear hm hm1 hg1 hb hb1 hh hlen hr hsz hgood hbw
            go_wp2
            exact ⟨⟨j + 1, by omega, by go_num, HB.out, HM.out⟩, by simp [intOf]; omega⟩
          · rw [hh] at hlk
            have HD := Lib.hid (dup_of_has ht hh)
            have HB := Lib.hid (hb.alloc hb.size (.cells #[.string n, .string v] 27))
            clear hm hb hh hlen hr hsz hgood hbw
            go_wp2
            go_ret2
            exact ⟨HB.out, Or.inr ⟨HD.out, rfl⟩⟩
        · have e : l.take j = l := List.take_of_length_le (by omega)
          rw [e] at hm
          have HB := Lib.hid hb
          have HM := Lib.hid hm
          clear hm hb e hr hsz hgood hbw
          go_wp2
          go_ret2
          exact ⟨HB.out, Or.inl ⟨HM.out.nodup, bm, rfl, hge, HM.out⟩⟩
end Go.Proofs.YtogcepiofpmabaaGreatDoor
