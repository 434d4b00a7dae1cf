/- Contract of the law TagPrints. -/
import Derived.Test.YtogcepiofpmabaaGreatDoorWTag
import Derived.Test.YtogcepiofpmabaaGreatDoorOnes
import Derived.Test.YtogcepiofpmabaaGreatDoorPrintsP
import Derived.Deep.CutRange
import Derived.Deep.RegionHeld3
import Derived.Deep.DrawnRows
import Derived.Deep.DeepFit
import Derived.Outline
namespace Go.Proofs.YtogcepiofpmabaaGreatDoor
open Go.RowKit Go.Lib

attribute [local go_sem ↓] Go.wp_at_zero Go.wp_at_succ

theorem tag_eql (w : World) (n v n' v' : ByteArray) : (binOp .eql 27 (.agg #[.string n, .string v]) (.agg #[.string n', .string v'])).run Tryz.prog w = .ok (.bool ((n.toList == n'.toList) && (v.toList == v'.toList))) w := by
  have u9 := Tryz.underlying9
  have a9 := Tryz.isAgg9
  have z9 := Tryz.sizeOf9
  have hS : Tryz.prog.underlying 27 = some (.struct (Tryz.prog.fieldsOf 27)) := by kernel_rfl
  have hp : Tryz.prog.stoodInHeld 27 = false := by kernel_rfl
  rw [run_eql_struct, show (10000 : Nat) = 9999 + 1 from rfl, run_equalIn_agg w 9999 27 _ _ hS hp]
  simp only [Program.fieldsOf, Tryz.underlying27]
  cases h : (n.toList == n'.toList) <;> cases h2 : (v.toList == v'.toList) <;> (go_simp; try simp_all)
theorem bytes_eq (a b : ByteArray) : (a.toList == b.toList) = true ↔ a = b := ⟨eq_of_bytes, fun h => by rw [h]; exact beq_self_eq_true _⟩
/-- Two tags are the same if their strings are. -/
theorem tag_eql_str (w : World) {n v n' v' : ByteArray} (hn : NoBlank n) (hn' : NoBlank n') : (binOp .eql 27 (.agg #[.string n, .string v]) (.agg #[.string n', .string v'])).run Tryz.prog w = .ok (.bool ((tagS n v).toList == (tagS n' v').toList)) w := by
  rw [tag_eql]
  have e : ((n.toList == n'.toList) && (v.toList == v'.toList)) = ((tagS n v).toList == (tagS n' v').toList) := by
    rw [Bool.eq_iff_iff, Bool.and_eq_true, bytes_eq, bytes_eq, bytes_eq]
    exact ⟨fun h => by rw [h.1, h.2], fun h => tagS_inj hn hn' h⟩
  rw [e]
theorem wrap_small (x : Int) (h : -1000 ≤ x) (h2 : x ≤ 100000) : IntKind.i64.wrap x = x := by simp [IntKind.wrap, IntKind.bits, IntKind.signed]; omega
theorem slice_none (s : ByteArray) (k : Nat) (h : k ≤ s.size) (W : World) : (Instr.slice 9 (.string s) none (some (.int .i64 (k : Int))) none).run Tryz.prog W = .ok (.string (s.extract 0 k)) W := by
  rw [run_slice_string_to_if W 9 s .i64 (k : Int) Tryz.underlying9, if_pos ⟨by omega, by omega⟩]
  rfl
theorem slice_tail (s : ByteArray) (k : Nat) (h : k ≤ s.size) (W : World) : (Instr.slice 9 (.string s) (some (.int .i64 (k : Int))) none none).run Tryz.prog W = .ok (.string (s.extract k s.size)) W := by
  rw [run_slice_string_from_if W 9 s .i64 (k : Int) Tryz.underlying9, if_pos ⟨by omega, by omega⟩]
  rfl
theorem slice_both (s : ByteArray) (j k : Nat) (h0 : j ≤ k) (h : k ≤ s.size) (W : World) : (Instr.slice 9 (.string s) (some (.int .i64 (j : Int))) (some (.int .i64 (k : Int))) none).run Tryz.prog W = .ok (.string (s.extract j k)) W :=
  run_slice_string W 9 s .i64 .i64 (j : Int) (k : Int) Tryz.underlying9 (by omega) (by omega) (by omega)
theorem vlB_ok (l : List Int) : ∀ j, j < (vlB l).size → okP (byt (vlB l) j) = true := by
  intro j hj
  have hs : (vlB l).size = (vlL l).length := strOfNums_size _
  rw [hs] at hj
  unfold vlB
  rw [byt_nums _ (fun z hz => (vlL_ok l z hz).2) j hj]
  exact (vlL_ok l _ (List.getElem_mem hj)).1

/-- Two tags in boxes. -/
def Two (w W : World) (b5 b6 : Nat) (n v n' v' : ByteArray) : Prop :=
  W.cell? ⟨b5, 0, none⟩ = some (.string n) ∧ W.cell? ⟨b5, 1, none⟩ = some (.string v) ∧ W.cell? ⟨b6, 0, none⟩ = some (.string n') ∧ W.cell? ⟨b6, 1, none⟩ = some (.string v') ∧ Keep w W

@[simp] theorem Keep.alloc' {w W : World} (h : Keep w W) (o : Obj) : Keep w (W.alloc o) := h.below ((Below.refl _ _).alloc (Nat.le_refl _) _)
theorem keep_four {w W W' : World} {b b' : Nat} {x0 x1 y0 y1 : Value} (h0 : W.cell? ⟨b, 0, none⟩ = some x0) (h1 : W.cell? ⟨b, 1, none⟩ = some x1) (h2 : W.cell? ⟨b', 0, none⟩ = some y0) (h3 : W.cell? ⟨b', 1, none⟩ = some y1) (hk : Keep w W) (hb : Below W.heap.size W W') :
    W'.cell? ⟨b, 0, none⟩ = some x0 ∧ W'.cell? ⟨b, 1, none⟩ = some x1 ∧ W'.cell? ⟨b', 0, none⟩ = some y0 ∧ W'.cell? ⟨b', 1, none⟩ = some y1 ∧ Keep w W' := ⟨cell_later hb h0, cell_later hb h1, cell_later hb h2, cell_later hb h3, hk.below hb⟩
/-- A new box for a tag. -/
abbrev newTag : Obj := .cells #[.string ⟨#[]⟩, .string ⟨#[]⟩] 27
def ZB (W : World) (b : Nat) : Prop :=
  W.cell? ⟨b, 0, none⟩ = some (.string ⟨#[]⟩) ∧ W.cell? ⟨b, 1, none⟩ = some (.string ⟨#[]⟩) ∧ W.frozen? ⟨b, 0, none⟩ = false ∧ W.frozen? ⟨b, 1, none⟩ = false ∧ b < W.heap.size
theorem zb_at0 (W : World) : ZB (W.alloc newTag) W.heap.size := ⟨by simp, by simp, by simp, by simp, by simp⟩
theorem zb_at1 (W : World) (o : Obj) : ZB ((W.alloc o).alloc newTag) (W.heap.size + 1) := by
  have := zb_at0 (W.alloc o)
  rwa [World.size_alloc] at this
theorem ZB.far {W W' : World} {b : Nat} (h : ZB W b) (hb : Below W.heap.size W W') : ZB W' b :=
  ⟨cell_later hb h.1, cell_later hb h.2.1, by rw [hb.frozen (p := ⟨b, 0, none⟩) h.2.2.2.2]; exact h.2.2.1, by rw [hb.frozen (p := ⟨b, 1, none⟩) h.2.2.2.2]; exact h.2.2.2.1, Nat.lt_of_lt_of_le h.2.2.2.2 hb.size⟩
theorem ZB.alloc {W : World} {b : Nat} (h : ZB W b) (o : Obj) : ZB (W.alloc o) b := h.far ((Below.refl _ _).alloc (Nat.le_refl _) _)

theorem keep_set {w : World} (hw : Glob w) {W : World} (h : Keep w W) {a : Addr} (ha : w.heap.size ≤ a.block) (v : Value) : Keep w (W.setCell a v) :=
  have hb := h.2.setCell ha v
  ⟨hw.below hb, hb⟩

/-- The law's two arguments lie in their boxes. -/
def SB (w : World) (x0 x1 y0 y1 : Value) (W : World) : Prop :=
  W.cell? ⟨w.heap.size, 0, none⟩ = some x0 ∧ W.cell? ⟨w.heap.size, 1, none⟩ = some x1 ∧ W.cell? ⟨w.heap.size + 1, 0, none⟩ = some y0 ∧ W.cell? ⟨w.heap.size + 1, 1, none⟩ = some y1 ∧ Keep w W
theorem SB.out {w : World} {x0 x1 y0 y1 : Value} {W : World} (h : SB w x0 x1 y0 y1 W) : W.cell? ⟨w.heap.size, 0, none⟩ = some x0 ∧ W.cell? ⟨w.heap.size, 1, none⟩ = some x1 ∧ W.cell? ⟨w.heap.size + 1, 0, none⟩ = some y0 ∧ W.cell? ⟨w.heap.size + 1, 1, none⟩ = some y1 ∧ Keep w W := h
theorem SB.alloc {w : World} {x0 x1 y0 y1 : Value} {W : World} (h : SB w x0 x1 y0 y1 W) (o : Obj) : SB w x0 x1 y0 y1 (W.alloc o) :=
  keep_four h.1 h.2.1 h.2.2.1 h.2.2.2.1 h.2.2.2.2 ((Below.refl _ _).alloc (Nat.le_refl _) _)
theorem SB.drew {w : World} {x0 x1 y0 y1 : Value} {W : World} (h : SB w x0 x1 y0 y1 W) : SB w x0 x1 y0 y1 W.drew := ⟨h.1, h.2.1, h.2.2.1, h.2.2.2.1, Keep.drew' h.2.2.2.2⟩
theorem SB.set {w : World} {x0 x1 y0 y1 : Value} {W : World} (hw : Hid (Glob w)) (h : SB w x0 x1 y0 y1 W) {X i : Nat} (hX : w.heap.size + 2 ≤ X) (v : Value) : SB w x0 x1 y0 y1 (W.setCell ⟨X, i, none⟩ v) := by
  refine ⟨?_, ?_, ?_, ?_, keep_set hw.out h.2.2.2.2 (by simp only; omega) v⟩
  · rw [World.cell?_setCell_other _ _ _ _ (by intro e; simp at e <;> omega)]; exact h.1
  · rw [World.cell?_setCell_other _ _ _ _ (by intro e; simp at e <;> omega)]; exact h.2.1
  · rw [World.cell?_setCell_other _ _ _ _ (by intro e; simp at e <;> omega)]; exact h.2.2.1
  · rw [World.cell?_setCell_other _ _ _ _ (by intro e; simp at e <;> omega)]; exact h.2.2.2.1

set_option maxRecDepth 100000 in
set_option maxHeartbeats 8000000 in
theorem prints_any (l1 l2 l3 l4 : List Int) (a1 a2 a3 a4 : Option Addr) (c1 c2 c3 c4 : Nat) (w : World) (hg : Glob w) (h1 : BRead w a1 l1) (h2 : BRead w a2 l2) (h3 : BRead w a3 l3) (h4 : BRead w a4 l4)
    (n1 : l1.length ≤ 150) (n2 : l2.length ≤ 150) (n3 : l3.length ≤ 150) (n4 : l4.length ≤ 150) :
    Calls Tryz.prog 3 #[.agg #[.slice a1 l1.length c1, .slice a2 l2.length c2], .agg #[.slice a3 l3.length c3, .slice a4 l4.length c4]] w fun e w' => e = .returned (.bool true) ∧ Below w.heap.size w w' := by
  have m1 : ¬ (150 : Int) < (l1.length : Int) := by omega
  have m2 : ¬ (150 : Int) < (l2.length : Int) := by omega
  have m3 : ¬ (150 : Int) < (l3.length : Int) := by omega
  have m4 : ¬ (150 : Int) < (l4.length : Int) := by omega
  go_enter Tryz.func3, Tryz.ntmps3
  go_wp2_with fail
  have hk : Keep w ((w.alloc (.cells #[.slice a1 l1.length c1, .slice a2 l2.length c2] 24)).alloc (.cells #[.slice a3 l3.length c3, .slice a4 l4.length c4] 24)) := Keep.alloc' (Keep.alloc' ⟨hg, Below.refl _ _⟩ _) _
  have x0 : ((w.alloc (.cells #[.slice a1 l1.length c1, .slice a2 l2.length c2] 24)).alloc (.cells #[.slice a3 l3.length c3, .slice a4 l4.length c4] 24)).cell? ⟨w.heap.size, 0, none⟩ = some (.slice a1 l1.length c1) := by rw [World.cell?_alloc_old _ _ _ (by simp)]; simp
  have x1 : ((w.alloc (.cells #[.slice a1 l1.length c1, .slice a2 l2.length c2] 24)).alloc (.cells #[.slice a3 l3.length c3, .slice a4 l4.length c4] 24)).cell? ⟨w.heap.size, 1, none⟩ = some (.slice a2 l2.length c2) := by rw [World.cell?_alloc_old _ _ _ (by simp)]; simp
  have y0 : ((w.alloc (.cells #[.slice a1 l1.length c1, .slice a2 l2.length c2] 24)).alloc (.cells #[.slice a3 l3.length c3, .slice a4 l4.length c4] 24)).cell? ⟨w.heap.size + 1, 0, none⟩ = some (.slice a3 l3.length c3) := by rw [World.cell?_alloc_at _ _ _ _ (by simp)]; rfl
  have y1 : ((w.alloc (.cells #[.slice a1 l1.length c1, .slice a2 l2.length c2] 24)).alloc (.cells #[.slice a3 l3.length c3, .slice a4 l4.length c4] 24)).cell? ⟨w.heap.size + 1, 1, none⟩ = some (.slice a4 l4.length c4) := by rw [World.cell?_alloc_at _ _ _ _ (by simp)]; rfl
  have HB1 : Hid (∀ W, Keep w W → BRead W a1 l1) := Lib.hid (fun W hk => h1.below hk.2)
  have HB2 : Hid (∀ W, Keep w W → BRead W a2 l2) := Lib.hid (fun W hk => h2.below hk.2)
  have HB3 : Hid (∀ W, Keep w W → BRead W a3 l3) := Lib.hid (fun W hk => h3.below hk.2)
  have HB4 : Hid (∀ W, Keep w W → BRead W a4 l4) := Lib.hid (fun W hk => h4.below hk.2)
  have hset : ∀ (W : World) (a : Addr) (v : Value), Keep w W → w.heap.size ≤ a.block → Keep w (W.setCell a v) := fun W a v hk ha => keep_set hg hk ha v
  have hz0 : w.heap.size + 2 ≤ ((w.alloc (.cells #[.slice a1 l1.length c1, .slice a2 l2.length c2] 24)).alloc (.cells #[.slice a3 l3.length c3, .slice a4 l4.length c4] 24)).heap.size := by simp
  have HGW := Lib.hid hg
  clear h1 h2 h3 h4 hg m1 m2 m3 m4
  generalize ((w.alloc (.cells #[.slice a1 l1.length c1, .slice a2 l2.length c2] 24)).alloc (.cells #[.slice a3 l3.length c3, .slice a4 l4.length c4] 24)) = W0 at hk x0 x1 y0 y1 hz0 ⊢
  go_cut [5, 6] from 37 to 40 (fun s5 s6 wx => ∃ b5 b6, s5 = .pointer (some ⟨b5, 0, none⟩) ∧ s6 = .pointer (some ⟨b6, 0, none⟩) ∧ Two w wx b5 b6 (nmB l1) (vlB l2) (nmB l3) (vlB l4))
  case first =>
    have HALL : Hid (∀ W, SB w (.slice a1 l1.length c1) (.slice a2 l2.length c2) (.slice a3 l3.length c3) (.slice a4 l4.length c4) W → (W.cell? ⟨w.heap.size, 0, none⟩ = some (.slice a1 l1.length c1) ∧ W.cell? ⟨w.heap.size, 1, none⟩ = some (.slice a2 l2.length c2) ∧ W.cell? ⟨w.heap.size + 1, 0, none⟩ = some (.slice a3 l3.length c3) ∧ W.cell? ⟨w.heap.size + 1, 1, none⟩ = some (.slice a4 l4.length c4) ∧ Keep w W)) := Lib.hid (fun W h => h)
    have nz0 : w.heap.size ≠ W0.heap.size := by omega
    have nz1 : w.heap.size + 1 ≠ W0.heap.size := by omega
    have nz2 : w.heap.size ≠ W0.heap.size + 1 := by omega
    have nz3 : w.heap.size ≤ W0.heap.size := by omega
    have nz4 : w.heap.size ≤ W0.heap.size + 1 := by omega
    go_region_held3 (fun W => W.cell? ⟨w.heap.size, 0, none⟩ = some (.slice a1 l1.length c1) ∧ W.cell? ⟨w.heap.size, 1, none⟩ = some (.slice a2 l2.length c2) ∧ W.cell? ⟨w.heap.size + 1, 0, none⟩ = some (.slice a3 l3.length c3) ∧ W.cell? ⟨w.heap.size + 1, 1, none⟩ = some (.slice a4 l4.length c4) ∧ Keep w W) (first | (go_keep; done) | (refine HALL.out _ ?_; (repeat (first | refine SB.set HGW ?_ (by omega) _ | refine SB.alloc ?_ _ | refine SB.drew ?_)); first | exact ⟨k1, k2, k3, k4, k5⟩ | exact ⟨x0, x1, y0, y1, hk⟩)) (first | (go_at_call 9; go_fit (wtag_any l1 l2 a1 a2 c1 c2 _ (HB1.out _ (by go_keep)) (HB2.out _ (by go_keep)) (by omega) (by omega)); rintro e w1 ⟨rfl, hb⟩; obtain ⟨k1, k2, k3, k4, k5⟩ := keep_four (w := w) (b := w.heap.size) (b' := w.heap.size + 1) (x0 := .slice a1 l1.length c1) (x1 := .slice a2 l2.length c2) (y0 := .slice a3 l3.length c3) (y1 := .slice a4 l4.length c4) (by go_keep) (by go_keep) (by go_keep) (by go_keep) (by go_keep) hb; have jA : W0.heap.size ≤ w1.heap.size := Nat.le_trans (by first | omega | (simp; done) | (simp; omega)) hb.size; (try (have ja0 : w.heap.size ≠ w1.heap.size := by omega)); (try (have ja1 : w.heap.size + 1 ≠ w1.heap.size := by omega)); (try (have ja2 : w.heap.size ≠ w1.heap.size + 1 := by omega)); (try (have ja3 : w.heap.size ≤ w1.heap.size := by omega)); (try (have ja4 : w.heap.size ≤ w1.heap.size + 1 := by omega)); (try (have ja5 : W0.heap.size ≠ w1.heap.size := by omega)); (try (have ja6 : W0.heap.size + 1 ≠ w1.heap.size := by omega)); (try (have ja7 : W0.heap.size ≠ w1.heap.size + 1 := by omega)); (try (have ja8 : W0.heap.size < w1.heap.size := by omega)); (try (have ja9 : W0.heap.size + 1 < w1.heap.size := by omega)); (try (have za : ZB w1 (W0.heap.size) := ZB.far (by first | exact zb_at0 W0.drew | exact (zb_at0 W0.drew).alloc _) hb; have zaQ := za; obtain ⟨za1, za2, za3, za4, za5⟩ := zaQ)); (try (have zc : ZB w1 (W0.heap.size + 1) := ZB.far (by first | exact zb_at1 W0.drew _) hb; have zcQ := zc; obtain ⟨zc1, zc2, zc3, zc4, zc5⟩ := zcQ)); clear hb) | (go_at_call 9; go_fit (wtag_any l3 l4 a3 a4 c3 c4 _ (HB3.out _ (by go_keep)) (HB4.out _ (by go_keep)) (by omega) (by omega)); rintro e w2 ⟨rfl, hb⟩; obtain ⟨k1, k2, k3, k4, k5⟩ := keep_four (w := w) (b := w.heap.size) (b' := w.heap.size + 1) (x0 := .slice a1 l1.length c1) (x1 := .slice a2 l2.length c2) (y0 := .slice a3 l3.length c3) (y1 := .slice a4 l4.length c4) (by go_keep) (by go_keep) (by go_keep) (by go_keep) (by go_keep) hb; have jB : w1.heap.size ≤ w2.heap.size := Nat.le_trans (by first | omega | (simp; done) | (simp; omega)) hb.size; (try (have jb0 : w.heap.size ≠ w2.heap.size := by omega)); (try (have jb1 : w.heap.size + 1 ≠ w2.heap.size := by omega)); (try (have jb2 : w.heap.size ≠ w2.heap.size + 1 := by omega)); (try (have jb3 : w.heap.size ≤ w2.heap.size := by omega)); (try (have jb4 : w.heap.size ≤ w2.heap.size + 1 := by omega)); (try (have jb5 : W0.heap.size ≠ w2.heap.size := by omega)); (try (have jb6 : W0.heap.size + 1 ≠ w2.heap.size := by omega)); (try (have jb7 : W0.heap.size < w2.heap.size := by omega)); (try (have jb8 : W0.heap.size + 1 < w2.heap.size := by omega)); (try (have jb9 : w1.heap.size ≠ w2.heap.size := by omega)); (try (have jb10 : w1.heap.size + 1 ≠ w2.heap.size := by omega)); (try (have jb11 : w1.heap.size < w2.heap.size := by omega)); (try (have jb12 : w1.heap.size + 1 < w2.heap.size := by omega)); (try (have ya : ZB w2 (W0.heap.size) := ZB.far (by first | exact za | exact za.alloc _ | exact (za.alloc _).alloc _) hb; have yaQ := ya; obtain ⟨ya1, ya2, ya3, ya4, ya5⟩ := yaQ)); (try (have yc : ZB w2 (W0.heap.size + 1) := ZB.far (by first | exact zc | exact zc.alloc _ | exact (zc.alloc _).alloc _) hb; have ycQ := yc; obtain ⟨yc1, yc2, yc3, yc4, yc5⟩ := ycQ)); (try (have yd : ZB w2 (w1.heap.size) := ZB.far (by first | exact zb_at0 w1 | exact (zb_at0 w1).alloc _) hb; have ydQ := yd; obtain ⟨yd1, yd2, yd3, yd4, yd5⟩ := ydQ)); (try (have ye : ZB w2 (w1.heap.size + 1) := ZB.far (by first | exact zb_at1 w1 _) hb; have yeQ := ye; obtain ⟨ye1, ye2, ye3, ye4, ye5⟩ := yeQ)); clear hb))
    all_goals (go_wp2_with fail; go_meet; refine ⟨_, _, rfl, rfl, ?_, ?_, ?_, ?_, ?_⟩)
    all_goals first | (go_keep; done) | (simp [*, go_sem]; done) | (refine (HALL.out _ ?_).2.2.2.2; (repeat (first | refine SB.set HGW ?_ (by omega) _ | refine SB.alloc ?_ _ | refine SB.drew ?_)); first | exact ⟨k1, k2, k3, k4, k5⟩ | exact ⟨x0, x1, y0, y1, hk⟩) | trace_state
  case rest =>
    obtain ⟨b5, b6, rfl, rfl, d0, d1, e0, e1, hkc⟩ := hcut
    clear hk x0 x1 y0 y1 hz0 HB1 HB2 HB3 HB4 hset
    have hcA := wtag_ok l1 l2
    have hcB := wtag_ok l3 l4
    have sA := nmB_size l1
    have sB := nmB_size l3
    have tA := vlB_size l2
    have tB := vlB_size l4
    have heq := fun W => tag_eql_str W (v := vlB l2) (v' := vlB l4) (nmB_blank l1) (nmB_blank l3)
    have HOK := Lib.hid (vlB_ok l2)
    generalize nmB l1 = n at *
    generalize vlB l2 = v at *
    generalize nmB l3 = n' at *
    generalize vlB l4 = v' at *
    go_wp2_with fail
    refine (print_ok n v wc hkc.1 (by omega) (by omega) hcA).mono ?_
    rintro e w1 ⟨rfl, hb⟩
    obtain ⟨d0, d1, e0, e1, hkc⟩ := keep_four d0 d1 e0 e1 hkc hb
    clear hb
    go_wp2_with fail
    refine (print_ok n' v' w1 hkc.1 (by omega) (by omega) hcB).mono ?_
    rintro e w2 ⟨rfl, hb⟩
    obtain ⟨d0, d1, e0, e1, hkc⟩ := keep_four d0 d1 e0 e1 hkc hb
    clear hb
    go_wp2_with fail
    have hS := tagS_size n v
    have q1 := fun W => slice_none (tagS n v) (n.size + 3) (by omega) W
    have q2 := fun W => slice_tail (tagS n v) ((tagS n v).size - 2) (by omega) W
    have q3 := fun W => slice_both (tagS n v) (n.size + 3) ((tagS n v).size - 2) (by omega) (by omega) W
    rw [tagS_head] at q1
    rw [tagS_tail] at q2
    rw [tagS_inner] at q3
    have hz2 : (((tagS n v).size - 2 : Nat) : Int) = ((tagS n v).size : Int) - 2 := by omega
    rw [hz2] at q2 q3
    have c3 : ((n.size + 3 : Nat) : Int) = (n.size : Int) + 3 := by omega
    rw [c3] at q1 q3
    have hcat1 : ¬ 9223372036854775807 < 1 + n.size := by omega
    have hcat2 : ¬ 9223372036854775807 < 1 + n.size + 2 := by omega
    clear c3
    have hw5 : IntKind.i64.wrap ((n.size : Int) + 5) = (n.size : Int) + 5 := wrap_small _ (by omega) (by omega)
    have hw3 : IntKind.i64.wrap ((n.size : Int) + 3) = (n.size : Int) + 3 := wrap_small _ (by omega) (by omega)
    have tE := escB_size v
    have hwm : IntKind.i64.wrap (((tagS n v).size : Int) - 2) = ((tagS n v).size : Int) - 2 := wrap_small _ (by omega) (by omega)
    clear tE
    have ia : ((n.size : Int) + 3).toNat = n.size + 3 := by omega
    have ib : (((tagS n v).size : Int) - 2).toNat = (tagS n v).size - 2 := by omega
    have z1a := tagS_head n v
    have z1b := tagS_head n v
    rw [← ia] at z1b
    have z2a := tagS_tail n v
    have z2b := tagS_tail n v
    rw [← ib] at z2b
    have z3a := tagS_inner n v
    have z3b := tagS_inner n v
    rw [← ia, ← ib] at z3b
    have g1 : (0 : Int) ≤ (n.size : Int) + 3 := by omega
    have g2 : (n.size : Int) + 3 ≤ ((tagS n v).size : Int) := by omega
    have g3 : (0 : Int) ≤ ((tagS n v).size : Int) - 2 := by omega
    have g4 : ((tagS n v).size : Int) - 2 ≤ ((tagS n v).size : Int) := by omega
    have g5 : (n.size : Int) + 3 ≤ ((tagS n v).size : Int) - 2 := by omega
    clear ia ib
    have hC0 : ∀ W, Calls Tryz.prog 11 #[.agg #[.string n, .string v]] W fun e w' => e = .returned (.int .i64 0) ∧ Below W.heap.size W w' := fun W => by
      have := check_any n v W (by unfold maxLen; omega) (by unfold maxLen; omega)
      rw [hcA] at this
      exact this
    have hlen : decide (((tagS n v).size : Int) < (n.size : Int) + 5) = false := decide_eq_false (by omega)
    clear hcA hcB tB hz2 hS
    generalize tagS n v = S at *
    generalize tagS n' v' = S' at *
    go_region_held3 (fun W => W.cell? ⟨b5, 0, none⟩ = some (.string n) ∧ W.cell? ⟨b5, 1, none⟩ = some (.string v) ∧ W.cell? ⟨b6, 0, none⟩ = some (.string n') ∧ W.cell? ⟨b6, 1, none⟩ = some (.string v') ∧ Keep w W) (go_keep) (first | (go_at_call 11; go_fit (hC0 _); rintro e w7 ⟨rfl, hb⟩; obtain ⟨k1, k2, k3, k4, k5⟩ := keep_four (w := w) (b := b5) (b' := b6) (x0 := .string n) (x1 := .string v) (y0 := .string n') (y1 := .string v') (by go_keep) (by go_keep) (by go_keep) (by go_keep) (by go_keep) hb; clear hb))
    have HD1 := Lib.hid k2
    have HK := Lib.hid k5
    clear k1 k2 k3 k4 k5 d0 d1 e0 e1 hkc heq hC0 q1 q2 z1a z1b z2a z2b hcat1 hcat2 hlen g4
    have HE := Lib.hid (escB_size v)
    have HP0 := Lib.hid (posK_zero v)
    have HPE := Lib.hid (posK_end v)
    have HBE := Lib.hid (byt_esc v)
    have HBP := Lib.hid (byt_plain v)
    have ho := own_none w7 w7.heap.size (Nat.le_refl _)
    have hbw : Below w7.heap.size w7 (w7.alloc (.cells #[] 5)) := (Below.refl _ _).alloc (Nat.le_refl _) _
    obtain ⟨i0, hi0, hz0, hz1, hz2⟩ := info_parts infoU8
    generalize escB v = E at *
    go_wp2_with fail
    go_loopw [13, 12] (fun i sv wr => ∃ k : Nat, k ≤ v.size ∧ i = .int .i64 (posK v k) ∧ (∃ g cap, sv = .slice (some ⟨g, 0, none⟩) k cap) ∧ wr.ownsRow w7.heap.size 5 1 sv k (u8s (numsTo v k)) ∧ Below w7.heap.size w7 wr) (fun i _ _ => E.size - (intOf i).toNat)
    case atStart => exact ⟨0, Nat.zero_le _, by rw [HP0.out]; rfl, ⟨_, _, rfl⟩, ho, hbw⟩
    case round =>
      clear ho hbw
      obtain ⟨k, hk, rfl, ⟨g, cap, rfl⟩, own, hbk⟩ := hrel
      by_cases hlt : k < v.size
      · have hok := HOK.out k hlt
        have hbv := byt_eq v k hlt
        rw [okP_iff] at hok
        have HS := Lib.hid (numsTo_succ v k hlt)
        have hrl := own.lt
        by_cases hsp : (v[k] == 34 || v[k] == 92) = true
        · obtain ⟨p2, q1', q2'⟩ := HBE.out k hlt hsp
          have HPS := Lib.hid (posK_esc v k hlt hsp)
          have hcc : byt v k = 34 ∨ byt v k = 92 := by
            rw [← hbv]
            rcases Bool.or_eq_true_iff.1 hsp with e | e
            · left; rw [eq_of_beq e]; rfl
            · right; rw [eq_of_beq e]; rfl
          generalize posK v k = p at p2 q1' q2' HPS ⊢
          have hx0 : (E[p].toNat : Int) = 92 := (byt_eq E p (by omega)).trans q1'
          obtain ⟨c, hc⟩ : ∃ c, byt v k = c := ⟨_, rfl⟩
          have HCV := Lib.hid hc
          have hx1 : (E[p + 1].toNat : Int) = c := (byt_eq E (p + 1) (by omega)).trans (q2'.trans hc)
          have hpl : (p : Int) < (E.size : Int) := by omega
          have hpl2 : (p : Int) + 1 < (E.size : Int) := by omega
          have hEs := HE.out
          rw [hc] at hcc
          clear hok hbv q1' q2' hsp hc
          rcases hcc with rfl | rfl
          · go_wp2_with (at_builtin; refine wpList_append_own_at _ rfl _ _ 22 rfl w7.heap.size 5 i0 (.int .u8 0) 1 1 Tryz.underlying22 hi0 hz0 hz1 hz2 rfl (by decide) _ _ _ rfl (own.alloc _) ⟨wr.heap.size, 0, none⟩ 1 1 [.int .u8 34] rfl rfl (cell_one_new _ _ _) (fun u hu => by simp at hu; rcases hu with rfl; rfl) (by unfold maxLen; omega) (by omega) (by have := hbk.size; simp; omega) ?_)
            intro vv w2 hown2 hg2 hnil hloc
            have HB2 := Lib.hid (((hbk.alloc hbk.size _).grown hg2 (by have := hbk.size; simp; omega) (fun j e => (hrl j e).1)))
            have HO2 : Hid (w2.ownsRow w7.heap.size 5 1 vv (k + 1) (u8s (numsTo v (k + 1)))) := Lib.hid (by rw [HS.out, u8s_snoc, HCV.out]; exact hown2)
            obtain ⟨g', cap', hvv⟩ := Joins.ownsRow_form hown2 (by omega)
            clear hown2 hg2 hnil hloc own hbk hrl
            subst hvv
            go_wp2
            exact ⟨⟨k + 1, by omega, by rw [HPS.out]; go_num, ⟨_, _, rfl⟩, HO2.out, HB2.out⟩, by simp [intOf]; omega⟩
            
          · go_wp2_with (at_builtin; refine wpList_append_own_at _ rfl _ _ 22 rfl w7.heap.size 5 i0 (.int .u8 0) 1 1 Tryz.underlying22 hi0 hz0 hz1 hz2 rfl (by decide) _ _ _ rfl (own.alloc _) ⟨wr.heap.size, 0, none⟩ 1 1 [.int .u8 92] rfl rfl (cell_one_new _ _ _) (fun u hu => by simp at hu; rcases hu with rfl; rfl) (by unfold maxLen; omega) (by omega) (by have := hbk.size; simp; omega) ?_)
            intro vv w2 hown2 hg2 hnil hloc
            have HB2 := Lib.hid (((hbk.alloc hbk.size _).grown hg2 (by have := hbk.size; simp; omega) (fun j e => (hrl j e).1)))
            have HO2 : Hid (w2.ownsRow w7.heap.size 5 1 vv (k + 1) (u8s (numsTo v (k + 1)))) := Lib.hid (by rw [HS.out, u8s_snoc, HCV.out]; exact hown2)
            obtain ⟨g', cap', hvv⟩ := Joins.ownsRow_form hown2 (by omega)
            clear hown2 hg2 hnil hloc own hbk hrl
            subst hvv
            go_wp2
            exact ⟨⟨k + 1, by omega, by rw [HPS.out]; go_num, ⟨_, _, rfl⟩, HO2.out, HB2.out⟩, by simp [intOf]; omega⟩
            
        · simp only [Bool.not_eq_true] at hsp
          obtain ⟨p2, q1'⟩ := HBP.out k hlt hsp
          have HPS := Lib.hid (posK_plain v k hlt hsp)
          have hcc : ¬ byt v k = 34 ∧ ¬ byt v k = 92 := by
            rw [← hbv]
            rw [Bool.or_eq_false_iff, beq_eq_false_iff_ne, beq_eq_false_iff_ne] at hsp
            exact ⟨fun e => hsp.1 (byte_is _ 34 (by decide) e), fun e => hsp.2 (byte_is _ 92 (by decide) e)⟩
          generalize posK v k = p at p2 q1' HPS ⊢
          obtain ⟨c, hc⟩ : ∃ c, byt v k = c := ⟨_, rfl⟩
          have HCV := Lib.hid hc
          have hx0 : (E[p].toNat : Int) = c := (byt_eq E p (by omega)).trans (q1'.trans hc)
          have hpl : (p : Int) < (E.size : Int) := by omega
          have hEs := HE.out
          rw [hc] at hcc hok
          have t1 : ¬ c < 32 := by omega
          have t2 : ¬ 126 < c := by omega
          have t3 : (c == 34) = false := beq_eq_false_iff_ne.2 hcc.1
          have t4 : (c == 92) = false := beq_eq_false_iff_ne.2 hcc.2
          clear hok hbv q1' hsp hc hcc
          go_wp2_with (at_builtin; refine wpList_append_own_at _ rfl _ _ 22 rfl w7.heap.size 5 i0 (.int .u8 0) 1 1 Tryz.underlying22 hi0 hz0 hz1 hz2 rfl (by decide) _ _ _ rfl (own.alloc _) ⟨wr.heap.size, 0, none⟩ 1 1 [.int .u8 c] rfl rfl (cell_one_new _ _ _) (fun u hu => by simp at hu; rcases hu with rfl; rfl) (by unfold maxLen; omega) (by omega) (by have := hbk.size; simp; omega) ?_)
          intro vv w2 hown2 hg2 hnil hloc
          have HB2 := Lib.hid (((hbk.alloc hbk.size _).grown hg2 (by have := hbk.size; simp; omega) (fun j e => (hrl j e).1)))
          have HO2 : Hid (w2.ownsRow w7.heap.size 5 1 vv (k + 1) (u8s (numsTo v (k + 1)))) := Lib.hid (by rw [HS.out, u8s_snoc, HCV.out]; exact hown2)
          obtain ⟨g', cap', hvv⟩ := Joins.ownsRow_form hown2 (by omega)
          clear hown2 hg2 hnil hloc own hbk hrl
          subst hvv
          go_wp2
          exact ⟨⟨k + 1, by omega, by rw [HPS.out]; go_num, ⟨_, _, rfl⟩, HO2.out, HB2.out⟩, by simp [intOf]; omega⟩
      · have hkv : k = v.size := by omega
        subst hkv
        have hcv := own_string (numsTo_length v v.size (Nat.le_refl _)).symm own
        rw [numsTo_end] at hcv
        have hd1 := cell_later hbk HD1.out
        have hkw : Keep w wr := HK.out.below hbk
        rw [HPE.out]
        clear own
        go_wp2_with fail
        refine (works_any _ hkw.1).mono ?_
        rintro e w9 ⟨rfl, hb⟩
        have hfin := (hkw.below hb).2
        clear hb
        go_wp2_with fail
        go_ret
        exact ⟨rfl, hfin⟩
end Go.Proofs.YtogcepiofpmabaaGreatDoor
