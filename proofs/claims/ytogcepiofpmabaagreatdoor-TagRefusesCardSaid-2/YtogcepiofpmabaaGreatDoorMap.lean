/- A map from strings to strings that a call makes, as a list of tags. -/
import Derived.Test.YtogcepiofpmabaaGreatDoorSort
import Derived.Maps.OwnSet
import Derived.Maps.StringElems
namespace Go.Proofs.YtogcepiofpmabaaGreatDoor
open Go.RowKit Go.Lib Go.Maps Go.WideMaps

theorem keyS : Keyed Tryz.prog 9 := string_keyed Tryz.underlying9

/-- A key. -/
abbrev kl (n : ByteArray) : Lit := .string n.data.toList
/-- A value. -/
abbrev vl (v : ByteArray) : DataW Unit := .lit (.string v.data.toList)
/-- The map that a list of tags fills. -/
def mapOf (l : List Tag) : DataW Unit := l.foldl (fun D t => D.put (kl t.1) (vl t.2)) (.map [])
/-- Is there a tag of this name? -/
def hasN (l : List Tag) (n : ByteArray) : Bool := l.any fun t => t.1.toList == n.toList

theorem kl_ne {a b : ByteArray} (h : a ≠ b) : kl a ≠ kl b := fun e => h (by
  injection e with e
  exact ByteArray.ext (Array.toList_inj.mp e))

theorem mapOf_snoc (l : List Tag) (t : Tag) : mapOf (l ++ [t]) = (mapOf l).put (kl t.1) (vl t.2) := by
  simp [mapOf, List.foldl_append]
theorem mapOf_isMap (l : List Tag) : IsMap (mapOf l) := by
  unfold mapOf
  suffices h : ∀ (l : List Tag) (D : DataW Unit), IsMap D → IsMap (l.foldl (fun D t => D.put (kl t.1) (vl t.2)) D) from h l _ isMap_empty
  intro l
  induction l with
  | nil => exact fun D h => h
  | cons a r ih => exact fun D h => ih _ (h.put _ _)

theorem hasN_iff (l : List Tag) (n : ByteArray) : hasN l n = true ↔ n ∈ l.map (·.1) := by
  unfold hasN
  rw [List.any_eq_true]
  constructor
  · rintro ⟨t, ht, h⟩
    rw [bytes_beq_iff] at h
    exact List.mem_map.2 ⟨t, ht, h⟩
  · intro h
    obtain ⟨t, ht, rfl⟩ := List.mem_map.1 h
    exact ⟨t, ht, by rw [bytes_beq_iff]⟩
theorem hasN_snoc (l : List Tag) (t : Tag) (n : ByteArray) : hasN (l ++ [t]) n = (hasN l n || (t.1.toList == n.toList)) := by
  unfold hasN; rw [List.any_append]; simp

theorem list_rev_ind {α : Type} {p : List α → Prop} (h0 : p []) (h1 : ∀ l a, p l → p (l ++ [a])) (l : List α) : p l := by
  rw [← List.reverse_reverse l]
  induction l.reverse with
  | nil => exact h0
  | cons a r ih => rw [List.reverse_cons]; exact h1 _ _ ih

theorem has_mapOf (n : ByteArray) (l : List Tag) : Maps.has (mapOf l) (kl n) = hasN l n := by
  induction l using list_rev_ind with
  | h0 => rfl
  | h1 l t ih =>
    rw [mapOf_snoc, hasN_snoc]
    by_cases e : t.1 = n
    · subst e
      rw [Maps.has_put_same (mapOf_isMap l) (by trivial)]
      rw [(bytes_beq_iff t.1 t.1).2 rfl, Bool.or_true]
    · rw [Maps.has_put_other (kl_ne (Ne.symm e)), ih, (bytes_beq_false_iff t.1 n).2 e, Bool.or_false]

theorem valOf_snoc_new {l : List Tag} {t : Tag} {n : ByteArray} (h : t.1 ≠ n) : valOf (l ++ [t]) n = valOf l n := by
  unfold valOf
  rw [List.find?_append]
  have e : List.find? (fun x : Tag => x.1.toList == n.toList) [t] = none := by
    rw [List.find?_cons_of_neg (by rw [bytes_beq_iff]; exact h)]; rfl
  rw [e, Option.or_none]
theorem valOf_snoc_same {l : List Tag} {t : Tag} (h : hasN l t.1 = false) : valOf (l ++ [t]) t.1 = t.2 := by
  unfold valOf
  rw [List.find?_append]
  have e : List.find? (fun x : Tag => x.1.toList == t.1.toList) l = none := by
    rw [List.find?_eq_none]
    intro x hx
    unfold hasN at h
    rw [List.any_eq_false] at h
    exact h x hx
  have e2 : List.find? (fun x : Tag => x.1.toList == t.1.toList) [t] = some t := by
    rw [List.find?_cons_of_pos (by rw [bytes_beq_iff])]
  rw [e, e2]
  rfl

theorem atKey_mapOf (n : ByteArray) (l : List Tag) (hn : (l.map (·.1)).Nodup) : (mapOf l).atKey (kl n) (vl ⟨#[]⟩) = vl (valOf l n) := by
  induction l using list_rev_ind with
  | h0 => rfl
  | h1 l t ih =>
    have hn' : (l.map (·.1)).Nodup ∧ t.1 ∉ l.map (·.1) := by
      rw [List.map_append, List.nodup_append] at hn
      refine ⟨hn.1, fun hm => ?_⟩
      exact hn.2.2 _ hm t.1 (by simp) rfl
    rw [mapOf_snoc]
    by_cases e : t.1 = n
    · subst e
      rw [Maps.atKey_put_same (mapOf_isMap l) (by trivial)]
      rw [valOf_snoc_same]
      rw [← Bool.not_eq_true, hasN_iff]
      exact hn'.2
    · rw [Maps.atKey_put_other (kl_ne (Ne.symm e)), ih hn'.1, valOf_snoc_new e]

/-- A block of a world is the map that a list of tags with different names fills. -/
structure MapS (w : World) (b : Nat) (l : List Tag) : Prop where
  own : w.ownsMap Tryz.prog 9 (plainElem (H := Unit) Tryz.prog 9) b l.length (mapOf l)
  nodup : (l.map (·.1)).Nodup

theorem MapS.made (w : World) : MapS (w.alloc (.map #[] 0)) w.heap.size [] := ⟨World.ownsMap_made _ _ _ _, by simp⟩
theorem MapS.lt {w : World} {b : Nat} {l : List Tag} (h : MapS w b l) : b < w.heap.size := h.own.lt
theorem MapS.kept {w w' : World} {b : Nat} {l : List Tag} {row : Option Nat} (h : MapS w b l) (hg : w.grownBy w' row) (hne : some b ≠ row) : MapS w' b l := ⟨h.own.kept hg hne, h.nodup⟩
theorem MapS.alloc {w : World} {b : Nat} {l : List Tag} (h : MapS w b l) (o : Obj) : MapS (w.alloc o) b l := ⟨h.own.alloc o, h.nodup⟩
theorem MapS.drew {w : World} {b : Nat} {l : List Tag} (h : MapS w b l) : MapS w.drew b l := ⟨h.own.drew, h.nodup⟩
theorem MapS.setCell {w : World} {b : Nat} {l : List Tag} (h : MapS w b l) {a : Addr} (ha : b ≠ a.block) (u : Value) : MapS (w.setCell a u) b l := ⟨h.own.setCell ha u, h.nodup⟩
theorem MapS.block {w w' : World} {b : Nat} {l : List Tag} (h : MapS w b l) (hb : w'.heap[b]? = w.heap[b]?) : MapS w' b l := by
  obtain ⟨⟨es, clock, h1, h2⟩, hn⟩ := h
  exact ⟨⟨es, clock, hb.trans h1, h2⟩, hn⟩

theorem vl_inj {v : Value} {ps : List MemPlace} {x : ByteArray} (h : plainElem (H := Unit) Tryz.prog 9 v = some (vl x, ps)) : v = .string x := by
  obtain ⟨s, rfl, hz, _⟩ := plainElem_string_inv Tryz.underlying9 h
  simp only [Prod.mk.injEq, DataW.lit.injEq, Lit.string.injEq] at hz
  have : s = x := ByteArray.ext (Array.toList_inj.mp hz.1.symm)
  rw [this]

/-- 'v, ok := m[k]'. -/
theorem MapS.look_ok {w : World} {b : Nat} {l : List Tag} (h : MapS w b l) (n : ByteArray) (hn : n.size ≤ maxLen) :
    (Instr.lookup 60 (.map (some b)) (.string n) true).run Tryz.prog w = .ok (.tuple #[.string (valOf l n), .bool (hasN l n)]) w := by
  obtain ⟨v, ps, hrun, hR⟩ := h.own.look_ok keyS Tryz.underlying60 (z := .string ⟨#[]⟩) (by kernel_rfl) (plainElem_string Tryz.underlying9 (by decide)) (keyOf_string_mk Tryz.underlying9 hn)
  rw [atKey_mapOf n l h.nodup] at hR
  have e := vl_inj hR
  subst e
  rw [hrun, has_mapOf]

/-- 'm[k]'. -/
theorem MapS.look {w : World} {b : Nat} {l : List Tag} (h : MapS w b l) (n : ByteArray) (hn : n.size ≤ maxLen) :
    (Instr.lookup 60 (.map (some b)) (.string n) false).run Tryz.prog w = .ok (.string (valOf l n)) w := by
  obtain ⟨v, ps, hrun, hR⟩ := h.own.lookup keyS Tryz.underlying60 (z := .string ⟨#[]⟩) (by kernel_rfl) (plainElem_string Tryz.underlying9 (by decide)) (keyOf_string_mk Tryz.underlying9 hn)
  rw [atKey_mapOf n l h.nodup] at hR
  have e := vl_inj hR
  subst e
  exact hrun

/-- 'm[k] = v' at a new name. -/
theorem MapS.store {w : World} {b : Nat} {l : List Tag} (h : MapS w b l) (n v : ByteArray) (hn : n.size ≤ maxLen) (hv : v.size ≤ maxLen) (hnew : hasN l n = false) (hl : l.length < maxLen) :
    ∃ w', (Instr.mapUpdate 60 (.map (some b)) (.string n) (.string v)).run Tryz.prog w = .ok () w' ∧ MapS w' b (l ++ [(n, v)]) ∧ w.grownBy w' (some b) := by
  obtain ⟨w', hrun, hown, hg⟩ := h.own.update keyS Tryz.underlying60 hl (keyOf_string_mk Tryz.underlying9 hn) (plainElem_string Tryz.underlying9 hv)
  refine ⟨w', hrun, ⟨?_, ?_⟩, hg⟩
  · rw [mapOf_snoc, List.length_append]; exact hown
  · rw [List.map_append, List.nodup_append]
    refine ⟨h.nodup, by simp, ?_⟩
    intro a ha b hb e
    simp at hb
    subst e hb
    rw [← Bool.not_eq_true, hasN_iff] at hnew
    exact hnew ha

end Go.Proofs.YtogcepiofpmabaaGreatDoor
