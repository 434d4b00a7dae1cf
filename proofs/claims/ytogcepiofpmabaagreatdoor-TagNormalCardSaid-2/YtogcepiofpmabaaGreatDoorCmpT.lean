/- Contract of the closure by which tag.Normal sorts. -/
import Derived.Test.YtogcepiofpmabaaGreatDoorCmp
import Derived.Test.YtogcepiofpmabaaGreatDoorPlace
import Derived.Deep.RegionHeld3
import Derived.Outline
namespace Go.Proofs.YtogcepiofpmabaaGreatDoor
open Go.RowKit

/-- How two tags compare, by their names. -/
def tcmp (a b : ByteArray) : Int := orI (cmpI (plc a 7 0) (plc b 7 0)) (cmpS a b)

theorem Ext.cell {w w' : World} (h : Ext w w') {v : Value} {p : Addr} (hp : p.block < w.heap.size) (hc : w.cell? p = some v) : w'.cell? p = some v := by
  rw [h.below.cell hp]; exact hc

@[simp] theorem Glob.drew' {w : World} : Glob w.drew ↔ Glob w :=
  ⟨fun h => ⟨h.res, h.rosN, h.rosV, h.maxl, h.size⟩, fun h => ⟨h.res, h.rosN, h.rosV, h.maxl, h.size⟩⟩
@[simp] theorem Glob.alloc' {w : World} (h : Glob w) (o : Obj) : Glob (w.alloc o) := h.below ((Ext.refl w).alloc o).below
@[simp] theorem Ext.drew' {a w : World} (h : Ext a w) : Ext a w.drew := h.drew
@[simp] theorem Ext.alloc' {a w : World} (h : Ext a w) (o : Obj) : Ext a (w.alloc o) := h.alloc o
/-- So many blocks at least. -/
def Past (n : Nat) (w : World) : Prop := n ≤ w.heap.size
@[simp] theorem Past.drew' {n : Nat} {w : World} (h : Past n w) : Past n w.drew := h
@[simp] theorem Past.alloc' {n : Nat} {w : World} (h : Past n w) (o : Obj) : Past n (w.alloc o) := by
  unfold Past at *
  simp
  omega
theorem keepT {w W W' : World} {a b : ByteArray} (h1 : W.cell? ⟨w.heap.size, 0, none⟩ = some (.string a)) (h2 : W.cell? ⟨w.heap.size + 1, 0, none⟩ = some (.string b)) (h3 : Glob W) (h4 : Ext w W) (h5 : Past (w.heap.size + 2) W) (hx : Ext W W') :
    W'.cell? ⟨w.heap.size, 0, none⟩ = some (.string a) ∧ W'.cell? ⟨w.heap.size + 1, 0, none⟩ = some (.string b) ∧ Glob W' ∧ Ext w W' ∧ Past (w.heap.size + 2) W' :=
  by
  have h6 := h5
  unfold Past at h6
  exact ⟨hx.cell (by simp only; omega) h1, hx.cell (by simp only; omega) h2, h3.below hx.below, h4.trans hx, Nat.le_trans h5 hx.below.size⟩

set_option maxRecDepth 100000 in
set_option maxHeartbeats 2000000 in
theorem tcmp_any (a b x y : ByteArray) (w : World) (hg : Glob w) :
    Calls Tryz.prog 36 #[.agg #[.string a, .string x], .agg #[.string b, .string y]] w fun e w' => e = .returned (.int .i64 (tcmp a b)) ∧ Ext w w' := by
  have hg1 : Glob ((w.alloc (.cells #[.string a, .string x] 27)).alloc (.cells #[.string b, .string y] 27)) := hg.below (((Ext.refl w).alloc _).alloc _).below
  have hx1 : Ext w ((w.alloc (.cells #[.string a, .string x] 27)).alloc (.cells #[.string b, .string y] 27)) := ((Ext.refl w).alloc _).alloc _
  have hp1 : Past (w.heap.size + 2) ((w.alloc (.cells #[.string a, .string x] 27)).alloc (.cells #[.string b, .string y] 27)) := by unfold Past; simp
  clear hg
  go_enter Tryz.func36, Tryz.ntmps36
  go_wp2
  go_region_held3 (fun W => W.cell? ⟨w.heap.size, 0, none⟩ = some (.string a) ∧ W.cell? ⟨w.heap.size + 1, 0, none⟩ = some (.string b) ∧ Glob W ∧ Ext w W ∧ Past (w.heap.size + 2) W) (go_keep) (first | (go_at_call 37; refine (orI_any (cmpI (plc a 7 0) (plc b 7 0)) (cmpS a b) _ _ _ ?_ ?_).mono ?_; (simp); (simp); rintro e w' ⟨rfl, rfl⟩) | (go_at_call 39; refine (place_any _ _ ?_).mono ?_; go_keep; rintro e w' ⟨rfl, hx⟩; obtain ⟨k1, k2, k3, k4, k5⟩ := keepT (a := a) (b := b) (w := w) (by go_keep) (by go_keep) (by go_keep) (by go_keep) (by go_keep) hx; clear hx) | (go_at_call 38; refine (cmpI_any _ _ _).mono ?_; rintro e w' ⟨rfl, rfl⟩) | (go_at_call 40; refine (cmpS_any _ _ _).mono ?_; rintro e w' ⟨rfl, rfl⟩))
  go_wp2
  go_ret
  exact ⟨ret_i rfl, Ext.alloc (by assumption) _⟩
end Go.Proofs.YtogcepiofpmabaaGreatDoor
