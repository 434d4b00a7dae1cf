/- Contract of fen.Parse at strings that have not six parts. -/
import Derived.Test.YtogcepiofpmabaaGreatDoorBase
import Derived.Test.YtogcepiofpmabaaGreatDoorLay
import Derived.Shelf.SlicesQ.Reverse
import Derived.Laws.ResultCell
import Derived.Outline
namespace Go.Proofs.YtogcepiofpmabaaGreatDoor
open Go.RowKit Go.Lib Go.Sort

/-- The space. -/
abbrev spc : ByteArray := ⟨#[32]⟩

theorem holds_new (w : World) (zc : Array Value) (T : TypeId) (o2 : Obj) : Holds id ((w.alloc (.cells zc T)).alloc o2) w.heap.size 0 zc := by
  intro j hj
  rw [World.cell?_alloc_past _ _ _ (by simp), World.frozen?_alloc_past _ _ _ (by simp)]
  refine ⟨?_, ?_⟩
  · rw [Nat.zero_add, World.cell?_alloc_at _ _ _ _ rfl, Array.getElem?_eq_getElem hj, getElem!_pos zc j hj]; rfl
  · simp

theorem store_self (P : Program) {W : World} {b : Nat} {zc : Array Value} (h : Holds id W b 0 zc) (h1 : ∀ v ∈ zc.toList, v.oneCell' = true) :
    Sem.run P (storeCells ⟨b, 0, none⟩ zc.toList 0) W = .ok () W := by
  have e := stores_of_holds P h 0 zc.toList (by simp) h1
  rw [Nat.add_zero] at e
  rw [e]
  have e2 := setCells_putRow W b 0 zc.toList 0 zc (by simp)
  rw [putRow_self id W b 0 zc h] at e2
  rw [Nat.add_zero] at e2
  have e3 : setMany zc 0 zc.toList = zc := by
    refine ext_get! (by simp) (fun t ht => ?_)
    rw [size_setMany] at ht
    rw [get_setMany _ _ _ _ ht, if_pos ⟨Nat.zero_le _, by simpa using ht⟩]
    simp [ht]
  rw [e3, putRow_self id W b 0 zc h] at e2
  rw [e2]

theorem zc_all : (Tryz.zeroCells69.toList.all fun v => v.oneCell') = true := by kernel_rfl
theorem zc_one : ∀ v ∈ Tryz.zeroCells69.toList, v.oneCell' = true := fun v hv => List.all_eq_true.1 zc_all v hv
theorem zc_len : Tryz.zeroCells69.toList.length = 69 := by kernel_rfl

theorem load_zc {W : World} {b : Nat} (h : Holds id W b 0 Tryz.zeroCells69) : Sem.run Tryz.prog (loadVar 69 ⟨b, 0, none⟩) W = .ok (.agg Tryz.zeroCells69) W := by
  have e := run_loadCellsFrom_list Tryz.prog W ⟨b, 0, none⟩ Tryz.zeroCells69.toList 69 zc_len (fun j v hj => by
    have hj' : j < Tryz.zeroCells69.size := by
      have := (List.getElem?_eq_some_iff.1 hj).1
      simpa using this
    have hc := (h j hj').1
    have ea : (⟨b, 0, none⟩ : Addr).add j = ⟨b, 0 + j, none⟩ := by
      unfold Addr.add
      split <;> simp_all
    rw [ea, hc, getElem!_pos _ j hj']
    rw [Array.getElem?_toList, Array.getElem?_eq_getElem hj'] at hj
    exact hj)
  unfold loadVar
  simp only [Sem.run_bind, Tryz.isAgg69, Result.andThen_ok, if_true, Tryz.sizeOf69, loadCells, Sem.run_pure]
  rw [e]
  rfl

set_option maxRecDepth 100000 in
set_option maxHeartbeats 4000000 in
theorem fen_bad (s : ByteArray) (w : World) (hg : Glob w) (hs : s.size < 4294967281) (hc : ((((Lib.countB s spc : Nat) : Int) + 1) != 6) = true) :
    Calls Tryz.prog 34 #[.string s] w fun e w' => e = .returned (.tuple #[.agg Tryz.zeroCells69, .int .i64 15]) ∧ Below w.heap.size w w' := by
  obtain ⟨m, hm⟩ := hg.maxl
  have hsz := hg.size
  unfold nG at hsz
  clear hg
  go_enter Tryz.func34, Tryz.ntmps34
  go_wp2_with fail
  refine (Tryz.strings_Split s spc m _ hs ?_ (by decide)).mono ?_
  · rw [World.cell?_alloc_past _ _ _ (by first | omega | (simp only; omega))]; exact hm
  rintro e w' ⟨rfl, rfl⟩
  have hH := holds_new w Tryz.zeroCells69 69 (.cells (List.map Value.string (splitB spc 0 (countB s spc) s)).toArray 9)
  have hst := store_self Tryz.prog hH zc_one
  have HH := Lib.hid hH
  clear hH
  go_wp2
  refine bodyPost_ret (v := .tuple #[.agg Tryz.zeroCells69, .int .i64 15]) ?_ rfl ⟨rfl, ((Below.refl _ _).alloc (Nat.le_refl _) _).alloc (by simp) _⟩
  rw [results_cell_tmp rfl]
  have hl := load_zc HH.out
  simp [asAddr, Result.andThen, hl]
end Go.Proofs.YtogcepiofpmabaaGreatDoor
