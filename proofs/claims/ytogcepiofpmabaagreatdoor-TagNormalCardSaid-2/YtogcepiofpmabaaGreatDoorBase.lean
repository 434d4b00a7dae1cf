/- Common ground of the tag statements: what the package-level variables hold, as facts on cells, and a world that has only grown. -/
import Derived.Test.YtogcepiofpmabaaGreatDoorRows
import Derived.WalkKit
import Derived.WalkSpells
import Derived.WalkLawsBesides
import Derived.Lib.Hide
import Derived.Sort.Grow
namespace Go.Proofs.YtogcepiofpmabaaGreatDoor
open Go.RowKit

/-- The strings of the results. -/
def rs : Nat → ByteArray
  | 0 => ⟨#[42]⟩
  | 1 => ⟨#[49, 45, 48]⟩
  | 2 => ⟨#[48, 45, 49]⟩
  | 3 => ⟨#[49, 47, 50, 45, 49, 47, 50]⟩
  | _ => ⟨#[]⟩
/-- The names of the roster. -/
def rn : Nat → ByteArray
  | 0 => ⟨#[69, 118, 101, 110, 116]⟩
  | 1 => ⟨#[83, 105, 116, 101]⟩
  | 2 => ⟨#[68, 97, 116, 101]⟩
  | 3 => ⟨#[82, 111, 117, 110, 100]⟩
  | 4 => ⟨#[87, 104, 105, 116, 101]⟩
  | 5 => ⟨#[66, 108, 97, 99, 107]⟩
  | 6 => ⟨#[82, 101, 115, 117, 108, 116]⟩
  | _ => ⟨#[]⟩
/-- The values of the roster. -/
def rv : Nat → ByteArray
  | 0 => ⟨#[63]⟩
  | 1 => ⟨#[63]⟩
  | 2 => ⟨#[63, 63, 63, 63, 46, 63, 63, 46, 63, 63]⟩
  | 3 => ⟨#[63]⟩
  | 4 => ⟨#[63]⟩
  | 5 => ⟨#[63]⟩
  | _ => ⟨#[]⟩

/-- How many package-level variables lie ahead of all else. -/
def nG : Nat := 13

/-- What the listed variables hold in a world. -/
structure Glob (w : World) : Prop where
  res : ∀ i, i < 4 → w.cell? ⟨0, i, none⟩ = some (.string (rs i))
  rosN : ∀ i, i < 7 → w.cell? ⟨1, 2 * i, none⟩ = some (.string (rn i))
  rosV : ∀ i, i < 7 → w.cell? ⟨1, 2 * i + 1, none⟩ = some (.string (rv i))
  maxl : ∃ m : Int, w.cell? ⟨2, 0, none⟩ = some (.int .i64 m)
  size : nG ≤ w.heap.size

theorem Glob.below {w w' : World} (h : Glob w) (hb : Below w.heap.size w w') : Glob w' := by
  have hs := h.size
  unfold nG at hs
  refine ⟨fun i hi => ?_, fun i hi => ?_, fun i hi => ?_, ?_, Nat.le_trans h.size hb.size⟩
  · rw [hb.cell (p := ⟨_, i, none⟩) (by simp only; omega)]; exact h.res i hi
  · rw [hb.cell (p := ⟨_, 2 * i, none⟩) (by simp only; omega)]; exact h.rosN i hi
  · rw [hb.cell (p := ⟨_, 2 * i + 1, none⟩) (by simp only; omega)]; exact h.rosV i hi
  · obtain ⟨m, hm⟩ := h.maxl
    exact ⟨m, by rw [hb.cell (p := ⟨_, 0, none⟩) (by simp only; omega)]; exact hm⟩

/-- Only draws and new blocks. -/
structure Ext (w w' : World) : Prop where
  below : Below w.heap.size w w'
  drawn : w.drawn ≤ w'.drawn

theorem Ext.refl (w : World) : Ext w w := ⟨Below.refl _ _, Nat.le_refl _⟩
theorem Ext.trans {a b c : World} (h : Ext a b) (k : Ext b c) : Ext a c :=
  ⟨h.below.trans (k.below.mono h.below.size), Nat.le_trans h.drawn k.drawn⟩
theorem Ext.drew {a w : World} (h : Ext a w) : Ext a w.drew := ⟨h.below.drew, Nat.le_trans h.drawn (Nat.le_succ _)⟩
theorem Ext.alloc {a w : World} (h : Ext a w) (o : Obj) : Ext a (w.alloc o) :=
  ⟨h.below.alloc h.below.size o, h.drawn⟩
theorem Ext.setCell {a w : World} (h : Ext a w) {p : Addr} (hp : a.heap.size ≤ p.block) (u : Value) : Ext a (w.setCell p u) :=
  ⟨h.below.setCell hp u, h.drawn⟩

theorem Ext.grow {w w' : World} (h : Ext w w') : ∃ q os, w' = Go.Sort.grow (w.drewN q) os := by
  obtain ⟨⟨ho, ht, hp, hs, hk⟩, hd⟩ := h
  refine ⟨w'.drawn - w.drawn, w'.heap.extract w.heap.size w'.heap.size, ?_⟩
  have hh : w'.heap = w.heap ++ w'.heap.extract w.heap.size w'.heap.size := by
    apply Array.ext_getElem?
    intro i
    by_cases hi : i < w.heap.size
    · rw [hk i hi, Array.getElem?_append_left hi]
    · rw [Array.getElem?_append_right (by omega)]
      rw [Array.getElem?_extract]
      by_cases hj : i < w'.heap.size
      · rw [if_pos (by omega)]; congr 1; omega
      · rw [if_neg (by omega), Array.getElem?_eq_none (by omega)]
  obtain ⟨heap, tape, drawn, os, output⟩ := w
  obtain ⟨heap', tape', drawn', os', output'⟩ := w'
  simp only at ho ht hp hd hh
  subst ho ht hp
  simp only [Go.Sort.grow, World.drewN, World.mk.injEq, true_and, and_true]
  exact ⟨hh, by omega⟩

end Go.Proofs.YtogcepiofpmabaaGreatDoor
