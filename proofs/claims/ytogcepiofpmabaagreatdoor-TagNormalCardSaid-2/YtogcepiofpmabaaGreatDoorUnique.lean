/- Contract of the law's function unique: tags by numbers, each name once. -/
import Derived.Test.YtogcepiofpmabaaGreatDoorWTag
import Derived.Test.YtogcepiofpmabaaGreatDoorValue
import Derived.Test.YtogcepiofpmabaaGreatDoorNormal
import Derived.Outline
namespace Go.Proofs.YtogcepiofpmabaaGreatDoor
open Go.RowKit Go.Lib Go.Maps

/-- A tag by numbers, as it came in. -/
structure Wd where
  a1 : Option Addr
  l1 : List Int
  c1 : Nat
  a2 : Option Addr
  l2 : List Int
  c2 : Nat
/-- Its tag. -/
def wt (x : Wd) : Tag := (nmB x.l1, vlB x.l2)
/-- A slice of tags by numbers, for reading. -/
def WRead (w : World) (a : Option Addr) (l : List Wd) : Prop :=
  (∀ x ∈ l, BRead w x.a1 x.l1 ∧ BRead w x.a2 x.l2) ∧ (l ≠ [] → ∃ p, a = some p ∧ ∀ i x, l[i]? = some x → w.cell? (p.add (i * 2)) = some (.slice x.a1 x.l1.length x.c1) ∧ w.cell? ((p.add (i * 2)).add 1) = some (.slice x.a2 x.l2.length x.c2))
/-- All of them are short. -/
def Short (l : List Wd) : Prop := ∀ x ∈ l, x.l1.length ≤ 150 ∧ x.l2.length ≤ 150

/-- One more tag, if its name is new. -/
def addU (out : List Tag) (t : Tag) : List Tag := if hasN out t.1 then out else out ++ [t]
/-- The tags whose names were not there before, at most so many. -/
def uni (most : Nat) : List Wd → List Tag → List Tag
  | [], out => out
  | x :: r, out => if out.length < most then uni most r (addU out (wt x)) else out

/-- Valid tags by numbers with different names. -/
structure Ok (l : List Tag) : Prop where
  dif : (l.map (·.1)).Nodup
  wd : ∀ t ∈ l, ∃ x, t = wt x
theorem Ok.add {out : List Tag} (h : Ok out) (x : Wd) : Ok (addU out (wt x)) := by
  unfold addU
  split
  · exact h
  · rename_i hh
    refine ⟨?_, fun t ht => ?_⟩
    · rw [List.map_append, List.nodup_append]
      refine ⟨h.dif, by simp, fun a ha b hb => ?_⟩
      simp only [List.map_cons, List.map_nil, List.mem_singleton] at hb
      subst hb
      intro e
      subst e
      exact hh ((hasN_iff out _).2 ha)
    · rcases List.mem_append.1 ht with h1 | h1
      · exact h.wd t h1
      · exact ⟨x, List.mem_singleton.1 h1⟩
theorem Ok.uni {most : Nat} : ∀ (l : List Wd) (out : List Tag), Ok out → Ok (uni most l out)
  | [], _, h => h
  | x :: r, out, h => by
    unfold Go.Proofs.YtogcepiofpmabaaGreatDoor.uni
    split
    · exact Ok.uni r _ (h.add x)
    · exact h
theorem addU_length (out : List Tag) (t : Tag) : (addU out t).length ≤ out.length + 1 ∧ out.length ≤ (addU out t).length := by
  unfold addU
  split <;> simp
theorem uni_length {most : Nat} : ∀ (l : List Wd) (out : List Tag), out.length ≤ most → (uni most l out).length ≤ most ∧ out.length ≤ (uni most l out).length
  | [], _, h => ⟨h, Nat.le_refl _⟩
  | x :: r, out, h => by
    unfold uni
    have ha := addU_length out (wt x)
    split
    · have hq : (addU out (wt x)).length ≤ most := by omega
      have := uni_length (most := most) r (addU out (wt x)) hq
      omega
    · exact ⟨h, Nat.le_refl _⟩
theorem uni_pos {most : Nat} (hm : 0 < most) : ∀ (l : List Wd), l ≠ [] → 0 < (uni most l []).length
  | [], h => absurd rfl h
  | x :: r, _ => by
    unfold uni
    rw [if_pos (show ([] : List Tag).length < most from hm)]
    have ha : addU [] (wt x) = [wt x] := rfl
    rw [ha]
    have := (uni_length (most := most) r [wt x] hm).2
    simp at this
    omega
theorem Ok.good {l : List Tag} (h : Ok l) : Good l := fun t ht => by
  obtain ⟨x, rfl⟩ := h.wd t ht
  exact wtag_ok x.l1 x.l2
theorem Ok.sized {l : List Tag} (h : Ok l) : Sized l := fun t ht => by
  obtain ⟨x, rfl⟩ := h.wd t ht
  have h1 := nmB_size x.l1
  have h2 := vlB_size x.l2
  unfold maxLen wt
  simp only
  omega
end Go.Proofs.YtogcepiofpmabaaGreatDoor
