/- What tag.Normal answers, as a plain function. -/
import Derived.Test.YtogcepiofpmabaaGreatDoorAdd
import Derived.Test.YtogcepiofpmabaaGreatDoorFen
namespace Go.Proofs.YtogcepiofpmabaaGreatDoor
open Go.RowKit Go.Lib

/-- A tag is added if its name is new. -/
def addIf (l : List Tag) (n v : ByteArray) : List Tag := if hasN l n then l else l ++ [(n, v)]
/-- The tags behind the first so many names of the roster. -/
def addTo (word : ByteArray) (l : List Tag) : Nat → List Tag
  | 0 => l
  | k + 1 => addIf (addTo word l k) (rn k) (orS (rv k) word)
/-- The names of the tags that say where a game begins, and one. -/
abbrev nFen : ByteArray := ⟨#[70, 69, 78]⟩
abbrev nSet : ByteArray := ⟨#[83, 101, 116, 85, 112]⟩
abbrev nRes : ByteArray := ⟨#[82, 101, 115, 117, 108, 116]⟩
abbrev sOne : ByteArray := ⟨#[49]⟩
/-- All tags, with those that were missing. -/
def full (l : List Tag) (word : ByteArray) : List Tag := if hasN l nFen then addIf (addTo word l 7) nSet sOne else addTo word l 7
/-- Do the tags contradict the result, or each other? -/
def stateB (l : List Tag) (word : ByteArray) : Bool :=
  !((valOf (full l word) nRes).toList == word.toList) || (hasN l nSet && (!hasN l nFen || !((valOf l nSet).toList == sOne.toList)))

/-- An answer of tag.Normal: an error, or the tags. -/
inductive Out
  | err (e : Int)
  | ok (l : List Tag)

/-- The answer at valid tags with different names, of which none has a FEN that could be one. -/
def normS (l : List Tag) (word : ByteArray) : Out :=
  if 24 < (full l word).length then .err 10
  else if stateB l word then .err 7
  else if hasN l nFen then .err 15
  else .ok (sortTags (full l word))

theorem addIf_length (l : List Tag) (n v : ByteArray) : (addIf l n v).length ≤ l.length + 1 := by
  unfold addIf; split <;> simp
theorem addTo_length (word : ByteArray) (l : List Tag) : ∀ k, (addTo word l k).length ≤ l.length + k
  | 0 => Nat.le_refl _
  | k + 1 => by
    have h1 := addIf_length (addTo word l k) (rn k) (orS (rv k) word)
    have h2 := addTo_length word l k
    unfold addTo
    omega
theorem rn_size : ∀ k, (rn k).size ≤ 6
  | 0 => by decide
  | 1 => by decide
  | 2 => by decide
  | 3 => by decide
  | 4 => by decide
  | 5 => by decide
  | 6 => by decide
  | k + 7 => by show (0 : Nat) ≤ 6; decide
theorem rv_size : ∀ k, (rv k).size ≤ 10
  | 0 => by decide
  | 1 => by decide
  | 2 => by decide
  | 3 => by decide
  | 4 => by decide
  | 5 => by decide
  | k + 6 => by show (0 : Nat) ≤ 10; decide
theorem rs_size : ∀ k, (rs k).size ≤ 7
  | 0 => by decide
  | 1 => by decide
  | 2 => by decide
  | 3 => by decide
  | k + 4 => by show (0 : Nat) ≤ 7; decide
theorem orS_size (a b : ByteArray) (n : Nat) (ha : a.size ≤ n) (hb : b.size ≤ n) : (orS a b).size ≤ n := by
  unfold orS
  split
  · split
    · exact Nat.zero_le _
    · exact hb
  · exact ha

/-- What tag.Normal leaves. -/
def NormPost (w : World) (out : Out) (e : Ending) (w' : World) : Prop :=
  Below w.heap.size w w' ∧ match out with
    | .err x => e = .returned (.tuple #[.slice none 0 0, .int .i64 x])
    | .ok m => ∃ g cap, e = .returned (.tuple #[.slice (some ⟨g, 0, none⟩) m.length cap, .int .i64 0]) ∧ w.heap.size ≤ g ∧ g < w'.heap.size ∧ TagRow w' g 0 m

end Go.Proofs.YtogcepiofpmabaaGreatDoor
