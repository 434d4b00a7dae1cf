/- Contract of tag.Value. -/
import Derived.Test.YtogcepiofpmabaaGreatDoorMap
import Derived.Test.YtogcepiofpmabaaGreatDoorResult
import Derived.Test.YtogcepiofpmabaaGreatDoorFirst
namespace Go.Proofs.YtogcepiofpmabaaGreatDoor
open Go.RowKit Go.Lib

/-- No tag ahead of a place has the name. -/
def Not (l : List Tag) (n : ByteArray) (k : Nat) : Prop := ∀ t ∈ l.take k, (t.1.toList == n.toList) = false
theorem not_zero (l : List Tag) (n : ByteArray) : Not l n 0 := fun t h => by simp at h
theorem not_succ {l : List Tag} {n : ByteArray} {k : Nat} {t : Tag} (h : Not l n k) (ht : l[k]? = some t) (hn : (t.1.toList == n.toList) = false) : Not l n (k + 1) := fun x hx => by
  rw [take_snoc' l k t ht] at hx
  rcases List.mem_append.1 hx with h1 | h1
  · exact h x h1
  · rw [List.mem_singleton.1 h1]; exact hn
theorem val_hit {l : List Tag} {n : ByteArray} {k : Nat} {t : Tag} (h : Not l n k) (ht : l[k]? = some t) (hn : (t.1.toList == n.toList) = true) : valOf l n = t.2 ∧ hasN l n = true := by
  have e : l = l.take k ++ t :: l.drop (k + 1) := by
    have hk := (List.getElem?_eq_some_iff.1 ht).1
    have := (List.getElem?_eq_some_iff.1 ht).2
    conv => lhs; rw [← List.take_append_drop k l, List.drop_eq_getElem_cons hk, this]
  have h0 : (l.take k).find? (fun t => t.1.toList == n.toList) = none := List.find?_eq_none.2 (fun x hx => by rw [h x hx]; decide)
  constructor
  · unfold valOf
    have e1 : (t :: l.drop (k + 1)).find? (fun t => t.1.toList == n.toList) = some t := by rw [List.find?_cons, hn]
    rw [e, List.find?_append, h0, e1]
    rfl
  · unfold hasN
    rw [List.any_eq_true]
    exact ⟨t, List.mem_of_getElem? ht, hn⟩
theorem val_miss {l : List Tag} {n : ByteArray} (h : Not l n l.length) : valOf l n = ⟨#[]⟩ ∧ hasN l n = false := by
  unfold Not at h
  rw [List.take_length] at h
  have h0 : l.find? (fun t => t.1.toList == n.toList) = none := List.find?_eq_none.2 (fun x hx => by rw [h x hx]; decide)
  constructor
  · unfold valOf
    rw [h0]
    rfl
  · unfold hasN
    rw [List.any_eq_false]
    exact fun x hx => by rw [h x hx]; decide
theorem ret_val {a b : ByteArray} {x y : Bool} (h : a = b ∧ x = y) : Ending.returned (.tuple #[.string a, .bool x]) = .returned (.tuple #[.string b, .bool y]) := by rw [h.1, h.2]

set_option maxRecDepth 100000 in
set_option maxHeartbeats 1000000 in
theorem value_nil (n : ByteArray) (a : Option Addr) (c : Nat) (w : World) :
    Calls Tryz.prog 23 #[.slice a 0 c, .string n] w fun e w' => e = .returned (.tuple #[.string ⟨#[]⟩, .bool false]) ∧ w' = w := by
  go_enter Tryz.func23, Tryz.ntmps23
  go_wp2
  refine wp_loop_rounds 1 ?_
  rw [rounds_succ]
  go_wp2
  go_ret2
  exact ⟨rfl, rfl⟩

set_option maxRecDepth 100000 in
set_option maxHeartbeats 1000000 in
theorem value_any (l : List Tag) (n : ByteArray) (b o c : Nat) (w : World) (hr : TagRead w b o l) (hlt : b < w.heap.size) (hl : l.length ≤ 1000) :
    Calls Tryz.prog 23 #[.slice (some ⟨b, o, none⟩) l.length c, .string n] w fun e w' => e = .returned (.tuple #[.string (valOf l n), .bool (hasN l n)]) ∧ Below w.heap.size w w' := by
  go_enter Tryz.func23, Tryz.ntmps23
  go_wp2
  go_loopw [10] (fun i wr => ∃ k : Nat, k ≤ l.length ∧ i = .int .i64 k ∧ Not l n k ∧ Below w.heap.size w wr) (fun i _ => l.length - (intOf i).toNat)
  case atStart => exact ⟨0, by omega, rfl, not_zero l n, Below.refl _ _⟩
  case round =>
    obtain ⟨k, hk, rfl, hnot, hb⟩ := hrel
    have HN := Lib.hid hnot
    clear hnot
    have hbo : ∀ x, Below w.heap.size w (wr.alloc x) := fun x => hb.alloc hb.size _
    by_cases hk1 : k < l.length
    · obtain ⟨⟨m, v⟩, ht⟩ : ∃ t, l[k]? = some t := ⟨_, List.getElem?_eq_getElem hk1⟩
      obtain ⟨c1, c2⟩ := (hr.below hb hlt) k _ ht
      have HT := Lib.hid ht
      clear ht
      have k0 : (0 : Int) ≤ (k : Int) := by omega
      have k1 : (k : Int) < (l.length : Int) := by omega
      cases hmn : (m.toList == n.toList) with
      | true =>
        have HV := Lib.hid (val_hit HN.out HT.out hmn)
        go_wp2
        go_ret2
        exact ⟨ret_val ⟨HV.out.1.symm, HV.out.2.symm⟩, hbo _⟩
      | false =>
        have HV := Lib.hid (not_succ HN.out HT.out hmn)
        go_wp2
        exact ⟨⟨k + 1, by omega, by go_num, HV.out, hbo _⟩, by simp [intOf]; omega⟩
    · have hke : k = l.length := by omega
      subst hke
      have HV := Lib.hid (val_miss HN.out)
      go_wp2
      go_ret2
      exact ⟨ret_val ⟨HV.out.1.symm, HV.out.2.symm⟩, hb⟩
end Go.Proofs.YtogcepiofpmabaaGreatDoor
