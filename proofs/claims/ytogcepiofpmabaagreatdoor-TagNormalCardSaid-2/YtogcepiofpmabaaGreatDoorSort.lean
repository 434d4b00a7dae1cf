/- The sort of tags by slices.SortFunc, as a contract: a row of tags with different names is sorted by their names. -/
import Derived.Test.YtogcepiofpmabaaGreatDoorOrd
import Derived.Test.YtogcepiofpmabaaGreatDoorLay
namespace Go.Proofs.YtogcepiofpmabaaGreatDoor
open Go.RowKit Go.Sort Go.Lib Go.Shelf

/-- A tag: its name and its value. -/
abbrev Tag := ByteArray × ByteArray
/-- A row of tags lies in a block, and may be written. -/
def TagRow (w : World) (b o : Nat) (l : List Tag) : Prop :=
  ∀ i t, l[i]? = some t → w.cell? ⟨b, o + i * 2, none⟩ = some (.string t.1) ∧ w.cell? ⟨b, o + i * 2 + 1, none⟩ = some (.string t.2) ∧
    w.frozen? ⟨b, o + i * 2, none⟩ = false ∧ w.frozen? ⟨b, o + i * 2 + 1, none⟩ = false

/-- Tags in the order of their names. -/
def sortTags (l : List Tag) : List Tag := l.mergeSort fun x y => !tlt y.1 x.1

/-- The two cells of a tag whose value hangs on its name. -/
def encN (val : ByteArray → ByteArray) (n : ByteArray) : List Value := [.string n, .string (val n)]

theorem glob_sort {val : ByteArray → ByteArray} {w : World} {b o : Nat} (hg : Glob w) (hb : nG ≤ b) (hlt : b < w.heap.size) (m : Nat) (dk : Array ByteArray) (os : Array Obj) : Glob (sortWorldK (encN val) 2 w b o m dk os) := by
  have hs : (putRowK (encN val) 2 (Go.Sort.ahead w m) b o dk).heap.size = w.heap.size := by
    unfold putRowK; rw [size_putRow]; rfl
  have key : ∀ (p : Addr), p.block < nG → (sortWorldK (encN val) 2 w b o m dk os).cell? p = w.cell? p := by
    intro p hp
    unfold sortWorldK
    rw [cell?_grow _ _ _ (by rw [hs]; omega)]
    exact (cell?_putRowK_other (enc := encN val) (k := 2) (Go.Sort.ahead w m) b o dk p (by omega)).trans (cell?_ahead w m p)
  refine ⟨fun i hi => ?_, fun i hi => ?_, fun i hi => ?_, ?_, ?_⟩
  · rw [key _ (by show _ < nG; unfold nG; simp only; omega)]; exact hg.res i hi
  · rw [key _ (by show _ < nG; unfold nG; simp only; omega)]; exact hg.rosN i hi
  · rw [key _ (by show _ < nG; unfold nG; simp only; omega)]; exact hg.rosV i hi
  · obtain ⟨x, hx⟩ := hg.maxl
    exact ⟨x, by rw [key _ (by show _ < nG; unfold nG; simp only; omega)]; exact hx⟩
  · unfold sortWorldK
    rw [size_grow, hs]
    exact Nat.le_trans hg.size (Nat.le_add_right _ _)

theorem cmpLays {val : ByteArray → ByteArray} {w : World} {b o n : Nat} (hg : Glob w) (hb : nG ≤ b) (hlt : b < w.heap.size) :
    CmpLays Tryz.prog 36 #[] (encN val) 2 tcmp b o n w := by
  intro m os dk _ x y
  refine (tcmp_any x y (val x) (val y) _ (glob_sort hg hb hlt m dk os)).mono ?_
  rintro e w' ⟨rfl, hx⟩
  exact ⟨rfl, hx.grow⟩

set_option maxHeartbeats 1000000 in
theorem sort_names (val : ByteArray → ByteArray) (d : Array ByteArray) (b o cap : Nat) (w : World) (hg : Glob w) (hb : nG ≤ b) (hlt : b < w.heap.size) (hH : HoldsK (encN val) 2 w b o d) (hsz : d.size < 4611686018427387904) :
    Calls Tryz.prog 35 #[.slice (some ⟨b, o, none⟩) d.size cap, .func (.func 36) #[] #[]] w fun e w' =>
      e = .returned (.tuple #[]) ∧ ∃ n os, w' = sortWorldK (encN val) 2 w b o n (d.toList.mergeSort fun x y => !tlt y x).toArray os := by
  have eg : ∀ args w, (callFunc 36 args).run Tryz.prog w = .ok (.enter 36 args) w := enters_of Tryz.func36 (by kernel_rfl) rfl
  exact AnyQ.slices_SortFunc_total Tryz.sortT 2 Tryz.isAgg27 Tryz.sizeOf27 (encN val) (fun _ => rfl) (fun x v hv => by simp [encN] at hv; rcases hv with rfl | rfl <;> rfl) tcmp tlt_swo 36 #[] b o cap d w eg (cmpLays hg hb hlt) hH hlt hsz (fun x y h1 h2 => tlt_total x y h1 h2)

theorem frozen_sort {val : ByteArray → ByteArray} {w : World} {b o : Nat} (_ : b < w.heap.size) (m : Nat) (dk : Array ByteArray) (os : Array Obj) (p : Addr) (hp : p.block < w.heap.size) : (sortWorldK (encN val) 2 w b o m dk os).frozen? p = w.frozen? p := by
  have hs : (putRowK (encN val) 2 (Go.Sort.ahead w m) b o dk).heap.size = w.heap.size := by
    unfold putRowK; rw [size_putRow]; rfl
  unfold sortWorldK
  rw [frozen?_grow _ _ _ (by rw [hs]; exact hp)]
  unfold putRowK
  rw [frozen?_putRow, frozen?_ahead]

theorem grown_sort {val : ByteArray → ByteArray} {w : World} {b o : Nat} (_ : b < w.heap.size) (m : Nat) (dk : Array ByteArray) (os : Array Obj) : w.grownBy (sortWorldK (encN val) 2 w b o m dk os) (some b) := by
  have hs : (putRowK (encN val) 2 (Go.Sort.ahead w m) b o dk).heap.size = w.heap.size := by
    unfold putRowK; rw [size_putRow]; rfl
  refine ⟨rfl, rfl, rfl, ?_, fun i hi hne => ?_⟩
  · unfold sortWorldK; rw [size_grow, hs]; exact Nat.le_add_right _ _
  · unfold sortWorldK
    rw [heap_grow_old _ _ (by rw [hs]; exact hi)]
    unfold putRowK putRow mapBlock
    show (w.heap.modify b _)[i]? = _
    rw [Array.getElem?_modify, if_neg (fun e => hne (by rw [e]))]

/-- The value that a list of tags gives to a name. -/
def valOf (l : List Tag) (n : ByteArray) : ByteArray := ((l.find? fun t => t.1.toList == n.toList).map (·.2)).getD ⟨#[]⟩

theorem valOf_mem : ∀ (l : List Tag), (l.map (·.1)).Nodup → ∀ t ∈ l, valOf l t.1 = t.2
  | [], _, t, h => by simp at h
  | a :: r, hn, t, h => by
    simp only [List.map_cons, List.nodup_cons] at hn
    by_cases e : a.1 = t.1
    · rcases List.mem_cons.1 h with rfl | h'
      · unfold valOf
        rw [List.find?_cons_of_pos (by rw [bytes_beq_iff])]
        rfl
      · exact absurd (List.mem_map.2 ⟨t, h', e.symm⟩) hn.1
    · rcases List.mem_cons.1 h with rfl | h'
      · exact absurd rfl e
      · have := valOf_mem r hn.2 t h'
        unfold valOf at this ⊢
        rw [List.find?_cons_of_neg (by rw [bytes_beq_iff]; exact e)]
        exact this

theorem sortTags_names (l : List Tag) : (sortTags l).map (·.1) = (l.map (·.1)).mergeSort fun x y => !tlt y x := by
  unfold sortTags
  exact List.map_mergeSort (fun _ _ _ _ => rfl)

theorem sortTags_perm (l : List Tag) : (sortTags l).Perm l := List.mergeSort_perm _ _
theorem sortTags_length (l : List Tag) : (sortTags l).length = l.length := (sortTags_perm l).length_eq

theorem holds_of_row {w : World} {b o : Nat} {l : List Tag} (hr : TagRow w b o l) (hn : (l.map (·.1)).Nodup) : HoldsK (encN (valOf l)) 2 w b o (l.map (·.1)).toArray := by
  unfold HoldsK Holds
  intro j hj
  simp only [size_flatK, List.size_toArray, List.length_map] at hj
  have hi : j / 2 < l.length := by omega
  have ht := List.getElem?_eq_getElem hi
  obtain ⟨h1, h2, h3, h4⟩ := hr (j / 2) _ ht
  rw [get_flatK _ _ _ _ (by simpa using hj)]
  have e : ((l.map (·.1)).toArray[j / 2]!) = (l[j / 2]).1 := by simp [hi]
  rw [e]
  have hv := valOf_mem l hn _ (List.getElem_mem hi)
  rcases Nat.mod_two_eq_zero_or_one j with hm | hm
  · rw [hm]
    have ej : o + j / 2 * 2 = o + j := by omega
    rw [ej] at h1 h3
    exact ⟨h1, h3⟩
  · rw [hm]
    have ej : o + j / 2 * 2 + 1 = o + j := by omega
    rw [ej] at h2 h4
    refine ⟨?_, h4⟩
    rw [h2, ← hv]
    rfl

theorem row_of_holds {w : World} {b o : Nat} {l m : List Tag} (hm : ∀ t ∈ m, valOf l t.1 = t.2) (h : HoldsK (encN (valOf l)) 2 w b o (m.map (·.1)).toArray) : TagRow w b o m := by
  intro i t ht
  have hi : i < m.length := (List.getElem?_eq_some_iff.1 ht).1
  have e : (m.map (·.1)).toArray[i]! = t.1 := by simp [ht]
  have hv := hm t (List.mem_of_getElem? ht)
  have h1 := h (i * 2) (by simp; omega)
  have h2 := h (i * 2 + 1) (by simp; omega)
  rw [get_flatK _ _ _ _ (by simp; omega)] at h1 h2
  have e1 : i * 2 / 2 = i := by omega
  have e2 : (i * 2 + 1) / 2 = i := by omega
  have e3 : i * 2 % 2 = 0 := by omega
  have e4 : (i * 2 + 1) % 2 = 1 := by omega
  rw [e1, e3, e] at h1
  rw [e2, e4, e] at h2
  refine ⟨h1.1, ?_, h1.2, ?_⟩
  · rw [← hv]; exact h2.1
  · exact h2.2

set_option maxHeartbeats 1000000 in
/-- slices.SortFunc by tag.Normal's closure: the row holds the tags in the order of their names. -/
theorem sort_any (l : List Tag) (b o cap : Nat) (w : World) (hg : Glob w) (hb : nG ≤ b) (hlt : b < w.heap.size) (hr : TagRow w b o l) (hn : (l.map (·.1)).Nodup) (hsz : l.length < 4611686018427387904) :
    Calls Tryz.prog 35 #[.slice (some ⟨b, o, none⟩) l.length cap, .func (.func 36) #[] #[]] w fun e w' =>
      e = .returned (.tuple #[]) ∧ TagRow w' b o (sortTags l) ∧ w.grownBy w' (some b) := by
  have hH := holds_of_row hr hn
  have h := sort_names (valOf l) (l.map (·.1)).toArray b o cap w hg hb hlt hH (by simpa using hsz)
  have e : (l.map (·.1)).toArray.size = l.length := by simp
  rw [e] at h
  refine h.mono ?_
  rintro e w' ⟨rfl, n, os, rfl⟩
  refine ⟨rfl, ?_, grown_sort hlt _ _ _⟩
  refine row_of_holds (l := l) (fun t ht => valOf_mem l hn t ((sortTags_perm l).mem_iff.1 ht)) ?_
  rw [sortTags_names]
  have hsw : SWK (encN (valOf l)) 2 w b o ((l.map (·.1)).mergeSort fun x y => !tlt y x).toArray (sortWorldK (encN (valOf l)) 2 w b o n ((l.map (·.1)).mergeSort fun x y => !tlt y x).toArray os) := ⟨n, os, rfl⟩
  exact hsw.holds hlt hH (by simp)

end Go.Proofs.YtogcepiofpmabaaGreatDoor
