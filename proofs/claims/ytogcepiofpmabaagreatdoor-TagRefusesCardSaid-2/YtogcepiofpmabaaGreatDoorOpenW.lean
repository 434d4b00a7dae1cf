/- Slices of bytes, and slices of tags by numbers, that came in. -/
import Derived.Test.YtogcepiofpmabaaGreatDoorUnique
import Derived.Test.YtogcepiofpmabaaGreatDoorGlob
import Derived.Deep.SlicePairs
namespace Go.Proofs.YtogcepiofpmabaaGreatDoor
open Go.ChangeShapes Go.WideShapes Go.ChangeAt Go.RowKit Go.Deep

theorem cWords : Tryz.prog.cellsOf 24 = 2 := by kernel_rfl
theorem cBytes : Tryz.prog.cellsOf 22 = 1 := by kernel_rfl
theorem cByte : Tryz.prog.cellsOf 5 = 1 := by kernel_rfl
theorem outP : laidOutB Tryz.prog = true := by kernel_rfl
/-- A slice of bytes that came in. -/
theorem open_bytes {H : Type} {enc : TypeId × Value → H} {W : World} {fuel : Nat} {x : Value} {y : DataW H × List MemPlace} (h : DataW.trod enc Tryz.prog W 0 (fun _ => true) true fuel 22 [x] = some y) :
    ∃ a l c, x = .slice a l.length c ∧ BRead W a l := by
  rcases open_ints Tryz.underlying22 Tryz.underlying5 cByte h with ⟨hx, _⟩ | ⟨a, len, cap, zs, hx, _, hlc, _, hlen, _, hcell, hwf⟩
  · simp only [List.cons.injEq, and_true] at hx
    exact ⟨none, [], 0, hx, fun z hz => (by cases hz), fun hne => absurd rfl hne⟩
  · simp only [List.cons.injEq, and_true] at hx
    simp only [if_true] at hlen
    have hl : (zs.take len).length = len := by simp; omega
    refine ⟨some a, zs.take len, cap, by rw [hl]; exact hx, fun z hz => ?_, fun _ => ⟨a, rfl, fun i z hz => ?_⟩⟩
    · have := hwf z (List.mem_of_mem_take hz)
      simp [Lit.wf, IntKind.min, IntKind.max, IntKind.signed, IntKind.bits] at this
      omega
    · have hi : i < len := by have := (List.getElem?_eq_some_iff.1 hz).1; omega
      rw [List.getElem?_take_of_lt hi] at hz
      rw [hcell i (by omega), List.getD_eq_getElem?_getD, hz]
      rfl
instance : Inhabited Wd := ⟨⟨none, [], 0, none, [], 0⟩⟩
/-- A slice of tags by numbers that came in. -/
theorem open_list {H : Type} {enc : TypeId × Value → H} {W : World} {v : Value} {d : DataW H} {p : List MemPlace} (h : DataW.Trod enc Tryz.prog W 0 (fun _ => true) true 43 v d p) (h1 : v.cells.toList = [v]) :
    ∃ a l c, v = .slice a l.length c ∧ WRead W a l := by
  obtain ⟨fuel, hf⟩ := h
  rw [h1] at hf
  rcases open_slice_pairs Tryz.underlying43 Tryz.underlying24 cWords rfl rfl cBytes cBytes hf with ⟨hx, _⟩ | ⟨a, len, cap, m, n, V0, V1, D0, D1, P0, P1, hx, _, hlc, _, hm, _, hall⟩
  · simp only [List.cons.injEq, and_true] at hx
    exact ⟨none, [], 0, hx, fun x hx => (by cases hx), fun hne => absurd rfl hne⟩
  · simp only [List.cons.injEq, and_true] at hx
    simp only [if_true] at hm
    have each : ∀ i, i < len → ∃ x : Wd, W.cell? (a.add (i * 2)) = some (.slice x.a1 x.l1.length x.c1) ∧ W.cell? ((a.add (i * 2)).add 1) = some (.slice x.a2 x.l2.length x.c2) ∧ BRead W x.a1 x.l1 ∧ BRead W x.a2 x.l2 := fun i hi => by
      obtain ⟨e0, e1, f0, f1⟩ := hall i (by omega)
      obtain ⟨a1, l1, c1, g1, r1⟩ := open_bytes f0
      obtain ⟨a2, l2, c2, g2, r2⟩ := open_bytes f1
      rw [g1] at e0
      rw [g2, ← add_add] at e1
      exact ⟨⟨a1, l1, c1, a2, l2, c2⟩, e0, e1, r1, r2⟩
    obtain ⟨f, hf⟩ := choose_lt each
    refine ⟨some a, (List.range len).map f, cap, by rw [List.length_map, List.length_range]; exact hx, fun x hx => ?_, fun _ => ⟨a, rfl, fun i x hx => ?_⟩⟩
    · obtain ⟨i, hi, rfl⟩ := List.mem_map.1 hx
      exact ⟨(hf i (List.mem_range.1 hi)).2.2.1, (hf i (List.mem_range.1 hi)).2.2.2⟩
    · have hi : i < len := by have := (List.getElem?_eq_some_iff.1 hx).1; simpa using this
      rw [List.getElem?_map, List.getElem?_range hi] at hx
      cases hx
      exact ⟨(hf i hi).1, (hf i hi).2.1⟩
/-- A byte, and a number of sixteen bits, that came in. -/
theorem u8_range {z : Int} (h : (Lit.int .u8 z).wf = true) : 0 ≤ z ∧ z < 256 := by
  simp [Lit.wf, IntKind.min, IntKind.max, IntKind.signed, IntKind.bits] at h
  omega
theorem u16_range {z : Int} (h : (Lit.int .u16 z).wf = true) : 0 ≤ z ∧ z < 65536 := by
  simp [Lit.wf, IntKind.min, IntKind.max, IntKind.signed, IntKind.bits] at h
  omega
end Go.Proofs.YtogcepiofpmabaaGreatDoor
