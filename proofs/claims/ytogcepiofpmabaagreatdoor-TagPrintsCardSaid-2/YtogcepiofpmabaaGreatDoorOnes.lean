/- Contract of the law TagOnes. -/
import Derived.Test.YtogcepiofpmabaaGreatDoorOnesB
import Derived.BigQuiet
import Derived.Outline
namespace Go.Proofs.YtogcepiofpmabaaGreatDoor
open Go.RowKit Go.Lib

/-- What Print writes. -/
def prS (n v : ByteArray) : ByteArray := if checkE n v = 0 then tagS n v else ⟨#[]⟩
theorem print_any (n v : ByteArray) (w : World) (hg : Glob w) (hn : n.size ≤ 1000) (hv : v.size ≤ 1000) :
    Calls Tryz.prog 10 #[.agg #[.string n, .string v]] w fun e w' => e = .returned (.tuple #[.string (prS n v), .int .i64 (checkE n v)]) ∧ Below w.heap.size w w' := by
  by_cases h : checkE n v = 0
  · unfold prS
    rw [if_pos h, h]
    exact print_ok n v w hg hn hv h
  · unfold prS
    rw [if_neg h]
    exact print_bad n v w (by unfold maxLen; omega) (by unfold maxLen; omega) (by rw [bne_iff_ne]; exact h)
theorem rprint_any (n v : ByteArray) (w : World) (hn : n.size ≤ 1000) (hv : v.size ≤ 1000) :
    Calls Tryz.prog 15 #[.agg #[.string n, .string v]] w fun e w' => e = .returned (.tuple #[.string (prS n v), .int .i64 (checkE n v)]) ∧ Below w.heap.size w w' := by
  by_cases h : checkE n v = 0
  · unfold prS
    rw [if_pos h, h]
    exact rprint_ok n v w hn hv h
  · unfold prS
    rw [if_neg h]
    exact rprint_bad n v w (by unfold maxLen; omega) (by unfold maxLen; omega) (by rw [bne_iff_ne]; exact h)
/-- What Word answers. -/
def woS (r : Int) : ByteArray := if 0 ≤ r ∧ r < 4 then rs r.toNat else ⟨#[]⟩
def woE (r : Int) : Int := if 0 ≤ r ∧ r < 4 then 0 else 3
theorem word_any (r : Int) (w : World) (hg : Glob w) :
    Calls Tryz.prog 12 #[.int .i64 r] w fun e w' => e = .returned (.tuple #[.string (woS r), .int .i64 (woE r)]) ∧ w = w' := by
  unfold woS woE
  by_cases h : 0 ≤ r ∧ r < 4
  · rw [if_pos h, if_pos h]
    obtain ⟨k, rfl⟩ : ∃ k : Nat, r = k := ⟨r.toNat, by omega⟩
    exact word_ok k w (by omega) hg
  · rw [if_neg h, if_neg h]
    exact word_bad r w (by omega)
theorem rword_any (r : Int) (w : World) :
    Calls Tryz.prog 16 #[.int .i64 r] w fun e w' => e = .returned (.tuple #[.string (woS r), .int .i64 (woE r)]) ∧ Below w.heap.size w w' := by
  unfold woS woE
  by_cases h : 0 ≤ r ∧ r < 4
  · rw [if_pos h, if_pos h]
    obtain ⟨k, rfl⟩ : ∃ k : Nat, r = k := ⟨r.toNat, by omega⟩
    exact rword_ok k w (by omega)
  · rw [if_neg h, if_neg h]
    refine (rword_bad r w (by omega)).mono ?_
    rintro e w' ⟨rfl, rfl⟩
    exact ⟨rfl, Below.refl _ _⟩
theorem ros_cell (w : World) : ∀ k, k < 7 → (w.alloc rosO).cell? ⟨w.heap.size, k, none⟩ = some (.string (rn k))
  | 0, _ => by simp [rn]
  | 1, _ => by simp [rn]
  | 2, _ => by simp [rn]
  | 3, _ => by simp [rn]
  | 4, _ => by simp [rn]
  | 5, _ => by simp [rn]
  | 6, _ => by simp [rn]
  | k + 7, h => absurd h (by omega)

/-- What holds while the law goes on. -/
def Keep (w W : World) : Prop := Glob W ∧ Below w.heap.size w W
theorem Keep.below {w W W' : World} (h : Keep w W) (hb : Below W.heap.size W W') : Keep w W' := ⟨h.1.below hb, h.2.trans (hb.mono h.2.size)⟩
@[simp] theorem Keep.drew' {w W : World} (h : Keep w W) : Keep w W.drew := ⟨Glob.drew'.2 h.1, h.2.drew⟩
theorem Keep.glob {w W : World} (h : Keep w W) : Glob W := h.1
theorem Keep.ext {w W : World} (h : Keep w W) : Below w.heap.size w W := h.2
theorem keep_at {w W W' : World} {n v : ByteArray} {b : Nat} (c0 : W.cell? ⟨b, 0, none⟩ = some (.string n)) (c1 : W.cell? ⟨b, 1, none⟩ = some (.string v)) (hk : Keep w W) (hb : Below W.heap.size W W') :
    W'.cell? ⟨b, 0, none⟩ = some (.string n) ∧ W'.cell? ⟨b, 1, none⟩ = some (.string v) ∧ Keep w W' := ⟨cell_later hb c0, cell_later hb c1, hk.below hb⟩

set_option maxRecDepth 100000 in
set_option maxHeartbeats 4000000 in
theorem ones_any (n v : ByteArray) (r : Int) (s : ByteArray) (w : World) (hg : Glob w) (_ : s.size ≤ maxLen) :
    Calls Tryz.prog 5 #[.agg #[.string n, .string v], .int .i64 r, .string s] w fun e w' => e = .returned (.bool true) ∧ Below w.heap.size w w' := by
  have hk0 : Keep w (w.alloc (.cells #[.string n, .string v] 27)) := Keep.below ⟨hg, Below.refl _ _⟩ ((Below.refl _ _).alloc (Nat.le_refl _) _)
  have hk : Keep w ((w.alloc (.cells #[.string n, .string v] 27)).alloc (.cells #[.string n, .string v] 27)) := hk0.below ((Below.refl _ _).alloc (Nat.le_refl _) _)
  have c0 : ((w.alloc (.cells #[.string n, .string v] 27)).alloc (.cells #[.string n, .string v] 27)).cell? ⟨w.heap.size, 0, none⟩ = some (.string n) := by rw [World.cell?_alloc_old _ _ _ (by simp)]; simp
  have c1 : ((w.alloc (.cells #[.string n, .string v] 27)).alloc (.cells #[.string n, .string v] 27)).cell? ⟨w.heap.size, 1, none⟩ = some (.string v) := by rw [World.cell?_alloc_old _ _ _ (by simp)]; simp
  have f0 : ((w.alloc (.cells #[.string n, .string v] 27)).alloc (.cells #[.string n, .string v] 27)).cell? ⟨w.heap.size + 1, 0, none⟩ = some (.string n) := by rw [World.cell?_alloc_at _ _ _ _ (by simp)]; rfl
  have f1 : ((w.alloc (.cells #[.string n, .string v] 27)).alloc (.cells #[.string n, .string v] 27)).cell? ⟨w.heap.size + 1, 1, none⟩ = some (.string v) := by rw [World.cell?_alloc_at _ _ _ _ (by simp)]; rfl
  cases hf : fewB n v with
  | false =>
    go_enter Tryz.func5, Tryz.ntmps5
    go_wp2_with fail
    refine (few_one n v _ 1 _ f0 f1).mono ?_
    rw [hf]
    rintro e w' ⟨rfl, rfl⟩
    go_wp2_with fail
    refine (works_any _ hk.1).mono ?_
    rintro e w1 ⟨rfl, hb⟩
    have hb1 := (hk.below hb).2
    clear hb
    go_wp2_with fail
    go_ret
    exact ⟨rfl, hb1⟩
  | true =>
    by_cases hs3 : (300 : Int) < (s.size : Int)
    · go_enter Tryz.func5, Tryz.ntmps5
      go_wp2_with fail
      refine (few_one n v _ 1 _ f0 f1).mono ?_
      rw [hf]
      rintro e w' ⟨rfl, rfl⟩
      go_wp2_with fail
      refine (works_any _ hk.1).mono ?_
      rintro e w1 ⟨rfl, hb⟩
      have hb1 := (hk.below hb).2
      clear hb
      go_wp2_with fail
      go_ret
      exact ⟨rfl, hb1⟩
    · have hn : n.size ≤ 300 ∧ v.size ≤ 300 := by
        unfold fewB at hf
        simpa using hf
      obtain ⟨hn, hv⟩ := hn
      go_enter Tryz.func5, Tryz.ntmps5
      go_wp2_with fail
      refine (few_one n v _ 1 _ f0 f1).mono ?_
      rw [hf]
      rintro e w' ⟨rfl, rfl⟩
      clear f0 f1 hk0 hf
      generalize ((w.alloc (.cells #[.string n, .string v] 27)).alloc (.cells #[.string n, .string v] 27)) = W at hk c0 c1 ⊢
      go_wp2_with fail
      refine (print_any n v W hk.1 (by omega) (by omega)).mono ?_
      rintro e W1 ⟨rfl, hb⟩
      obtain ⟨c0, c1, hk⟩ := keep_at c0 c1 hk hb
      clear hb
      go_wp2_with fail
      refine (rprint_any n v W1 (by omega) (by omega)).mono ?_
      rintro e W2 ⟨rfl, hb⟩
      obtain ⟨c0, c1, hk⟩ := keep_at c0 c1 hk hb
      clear hb
      go_wp2_with fail
      refine (word_any r W2 hk.1).mono ?_
      rintro e w' ⟨rfl, rfl⟩
      go_wp2_with fail
      refine (rword_any r W2).mono ?_
      rintro e W3 ⟨rfl, hb⟩
      obtain ⟨c0, c1, hk⟩ := keep_at c0 c1 hk hb
      clear hb
      go_wp2_with fail
      refine (result_any s W3 hk.1).mono ?_
      rintro e w' ⟨rfl, rfl⟩
      go_wp2_with fail
      refine (rresult_any s W3).mono ?_
      rintro e W4 ⟨rfl, hb⟩
      obtain ⟨c0, c1, hk⟩ := keep_at c0 c1 hk hb
      clear hb
      go_wp2_with fail
      refine (roster_any W4 hk.1).mono ?_
      rintro e W5 ⟨g, cap, rfl, hge, hlt, hros, hb⟩
      obtain ⟨c0, c1, hk⟩ := keep_at c0 c1 hk hb
      clear hb
      go_wp2_with fail
      refine (rroster_any W5).mono ?_
      rintro e w' ⟨rfl, rfl⟩
      have hro2 := ros_cell W5
      have hb6 : Below W5.heap.size W5 (W5.alloc rosO) := (Below.refl _ _).alloc (Nat.le_refl _) _
      obtain ⟨c0, c1, hk⟩ := keep_at c0 c1 hk hb6
      have hro1 : ∀ k, k < 7 → (W5.alloc rosO).cell? ⟨g, k, none⟩ = some (.string (rn k)) := fun k hk7 => cell_later hb6 (hros k hk7)
      clear hros hb6
      generalize W5.alloc rosO = W6 at hk c0 c1 hro1 hro2 ⊢
      generalize W5.heap.size = g2 at hro2 ⊢
      have HR1 := Lib.hid hro1
      have HR2 := Lib.hid hro2
      clear hro1 hro2
      go_wp2_with fail
      go_loopw [21] (fun i wr => ∃ k : Nat, k ≤ 7 ∧ i = .int .i64 k ∧ ∃ q, wr = W6.drewN q) (fun i _ => 7 - (intOf i).toNat)
      case atStart => exact ⟨0, by omega, rfl, 0, rfl⟩
      case round =>
        obtain ⟨k, hk7, rfl, q, rfl⟩ := hrel
        by_cases hlt7 : k < 7
        · have hc1 := HR1.out k hlt7
          have hc2 := HR2.out k hlt7
          go_wp2
          go_quiet (fail)
          go_wp2
          exact ⟨⟨k + 1, by omega, by go_num, _, by first | rfl | exact World.drewN_drewN _ _ _ | (rw [World.drewN_drewN])⟩, by simp [intOf]; omega⟩
        · have hk2 : Keep w (W6.drewN q) := ⟨⟨hk.1.res, hk.1.rosN, hk.1.rosV, hk.1.maxl, hk.1.size⟩, below_drewN' hk.2 q⟩
          have d0 : (W6.drewN q).cell? ⟨w.heap.size, 0, none⟩ = some (.string n) := c0
          have d1 : (W6.drewN q).cell? ⟨w.heap.size, 1, none⟩ = some (.string v) := c1
          clear hk c0 c1 HR1 HR2
          generalize W6.drewN q = W7 at hk2 d0 d1 ⊢
          have hnm : n.size ≤ maxLen := by unfold maxLen; omega
          have hvm : v.size ≤ maxLen := by unfold maxLen; omega
          go_wp2_with fail
          go_region_held3 (fun W => W.cell? ⟨w.heap.size, 0, none⟩ = some (.string n) ∧ W.cell? ⟨w.heap.size, 1, none⟩ = some (.string v) ∧ Keep w W) (go_keep) (first | (go_at_call 11; refine (check_any n v _ hnm hvm).mono ?_; rintro e w' ⟨rfl, hb⟩; obtain ⟨k1, k2, k3⟩ := keep_at (n := n) (v := v) (w := w) (b := w.heap.size) (by go_keep) (by go_keep) (by go_keep) hb; clear hb) | (go_at_call 20; refine (rcheck_any n v _ hnm hvm).mono ?_; rintro e w' ⟨rfl, hb⟩; obtain ⟨k1, k2, k3⟩ := keep_at (n := n) (v := v) (w := w) (b := w.heap.size) (by go_keep) (by go_keep) (by go_keep) hb; clear hb) | (go_at_call 8; refine (works_any _ (Keep.glob (w := w) (by go_keep))).mono ?_; rintro e w' ⟨rfl, hb⟩; obtain ⟨k1, k2, k3⟩ := keep_at (n := n) (v := v) (w := w) (b := w.heap.size) (by go_keep) (by go_keep) (by go_keep) hb; clear hb))
          go_wp2
          go_ret
          exact ⟨rfl, Keep.ext (by go_keep)⟩
end Go.Proofs.YtogcepiofpmabaaGreatDoor
