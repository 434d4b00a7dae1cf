/- Contracts of the reference's Result and of the two rosters. -/
import Derived.Test.YtogcepiofpmabaaGreatDoorOnesA
import Derived.Outline
namespace Go.Proofs.YtogcepiofpmabaaGreatDoor
open Go.RowKit Go.Lib Go.Maps

theorem rl0 : (rs 0).toList = [42] := by rw [toList_data]; rfl
theorem rl1 : (rs 1).toList = [49, 45, 48] := by rw [toList_data]; rfl
theorem rl2 : (rs 2).toList = [48, 45, 49] := by rw [toList_data]; rfl
theorem rl3 : (rs 3).toList = [49, 47, 50, 45, 49, 47, 50] := by rw [toList_data]; rfl
set_option maxRecDepth 100000 in
set_option maxHeartbeats 1000000 in
theorem rresult_any (s : ByteArray) (w : World) :
    Calls Tryz.prog 17 #[.string s] w fun e w' => e = .returned (.tuple #[.int .i64 (fr s 4 0).1, .int .i64 (fr s 4 0).2]) ∧ Below w.heap.size w w' := by
  go_enter Tryz.func17, Tryz.ntmps17
  go_wp2
  go_loopw [4] (fun i wr => ∃ k : Nat, k ≤ 4 ∧ i = .int .i64 k ∧ fr s 4 0 = fr s (4 - k) k ∧ Below w.heap.size w wr) (fun i _ => 4 - (intOf i).toNat)
  case atStart => exact ⟨0, by omega, rfl, rfl, Below.refl _ _⟩
  case round =>
    obtain ⟨k, hk, rfl, hp, hb⟩ := hrel
    have HP := Lib.hid hp
    clear hp
    have hbo : Below w.heap.size w (wr.alloc wordsO) := hb.alloc hb.size _
    have hk' : k = 0 ∨ k = 1 ∨ k = 2 ∨ k = 3 ∨ k = 4 := by omega
    clear hk
    rcases hk' with rfl | rfl | rfl | rfl | rfl
    · go_wp2_with (go_at_call 28; refine (rwords_any _).mono ?_; rintro e w' ⟨rfl, rfl⟩)
      · go_ret2
        exact ⟨ret_ii ((fr_hit s 3 0 (by rw [rl0]; assumption))).symm, hbo⟩
      · exact ⟨⟨1, by omega, rfl, (fr_miss s 3 0 (by rw [rl0]; assumption)), hbo⟩, by simp [intOf]⟩
    · go_wp2_with (go_at_call 28; refine (rwords_any _).mono ?_; rintro e w' ⟨rfl, rfl⟩)
      · go_ret2
        exact ⟨ret_ii (HP.out.trans (fr_hit s 2 1 (by rw [rl1]; assumption))).symm, hbo⟩
      · exact ⟨⟨2, by omega, rfl, HP.out.trans (fr_miss s 2 1 (by rw [rl1]; assumption)), hbo⟩, by simp [intOf]⟩
    · go_wp2_with (go_at_call 28; refine (rwords_any _).mono ?_; rintro e w' ⟨rfl, rfl⟩)
      · go_ret2
        exact ⟨ret_ii (HP.out.trans (fr_hit s 1 2 (by rw [rl2]; assumption))).symm, hbo⟩
      · exact ⟨⟨3, by omega, rfl, HP.out.trans (fr_miss s 1 2 (by rw [rl2]; assumption)), hbo⟩, by simp [intOf]⟩
    · go_wp2_with (go_at_call 28; refine (rwords_any _).mono ?_; rintro e w' ⟨rfl, rfl⟩)
      · go_ret2
        exact ⟨ret_ii (HP.out.trans (fr_hit s 0 3 (by rw [rl3]; assumption))).symm, hbo⟩
      · exact ⟨⟨4, by omega, rfl, HP.out.trans (fr_miss s 0 3 (by rw [rl3]; assumption)), hbo⟩, by simp [intOf]⟩
    · go_wp2
      go_ret2
      exact ⟨ret_ii HP.out.symm, hb⟩

/-- The roster's names, as cells. -/
def namesTo (k : Nat) : List Value := (List.range k).map fun i => .string (rn i)
theorem namesTo_succ (k : Nat) : namesTo (k + 1) = namesTo k ++ [.string (rn k)] := by unfold namesTo; rw [List.range_succ, List.map_append]; rfl
/-- The block of the reference's roster. -/
abbrev rosO : Obj := .cells #[.string ⟨#[69, 118, 101, 110, 116]⟩, .string ⟨#[83, 105, 116, 101]⟩, .string ⟨#[68, 97, 116, 101]⟩, .string ⟨#[82, 111, 117, 110, 100]⟩, .string ⟨#[87, 104, 105, 116, 101]⟩, .string ⟨#[66, 108, 97, 99, 107]⟩, .string ⟨#[82, 101, 115, 117, 108, 116]⟩] 9
set_option maxHeartbeats 1000000 in
theorem rroster_any (w : World) :
    Calls Tryz.prog 19 #[] w fun e w' => e = .returned (.slice (some ⟨w.heap.size, 0, none⟩) 7 7) ∧ w' = w.alloc rosO := by
  go_enter Tryz.func19, Tryz.ntmps19
  go_wp2
  go_ret
  exact ⟨rfl, rfl⟩

theorem infoStr : (Tryz.prog.info? 9).map (fun i => (i.zero, i.size, i.bytes)) = some (some (.string ⟨#[]⟩), 1, 16) := by kernel_rfl

set_option maxRecDepth 100000 in
set_option maxHeartbeats 1000000 in
theorem roster_any (w : World) (hg : Glob w) :
    Calls Tryz.prog 18 #[] w fun e w' => ∃ g cap, e = .returned (.slice (some ⟨g, 0, none⟩) 7 cap) ∧ w.heap.size ≤ g ∧ g < w'.heap.size ∧ (∀ k, k < 7 → w'.cell? ⟨g, k, none⟩ = some (.string (rn k))) ∧ Below w.heap.size w w' := by
  have n0 := hg.rosN 0 (by decide)
  have n1 := hg.rosN 1 (by decide)
  have n2 := hg.rosN 2 (by decide)
  have n3 := hg.rosN 3 (by decide)
  have n4 := hg.rosN 4 (by decide)
  have n5 := hg.rosN 5 (by decide)
  have n6 := hg.rosN 6 (by decide)
  have v0 := hg.rosV 0 (by decide)
  have v1 := hg.rosV 1 (by decide)
  have v2 := hg.rosV 2 (by decide)
  have v3 := hg.rosV 3 (by decide)
  have v4 := hg.rosV 4 (by decide)
  have v5 := hg.rosV 5 (by decide)
  have v6 := hg.rosV 6 (by decide)
  simp only [Nat.reduceMul, Nat.reduceAdd] at n0 n1 n2 n3 n4 n5 n6 v0 v1 v2 v3 v4 v5 v6
  clear hg
  obtain ⟨i0, hi0, hz0, hz1, hz2⟩ := info_parts infoStr
  go_enter Tryz.func18, Tryz.ntmps18
  go_wp2
  clear n0 n1 n2 n3 n4 n5 n6 v0 v1 v2 v3 v4 v5 v6
  go_loopw [5, 1] (fun i sv wr => ∃ k : Nat, k ≤ 7 ∧ i = .int .i64 k ∧ wr.ownsRow w.heap.size 9 1 sv k (namesTo k) ∧ Below w.heap.size w wr) (fun i _ _ => 7 - (intOf i).toNat)
  case atStart => exact ⟨0, by omega, rfl, World.ownsRow_nil _ _ _ _, Below.refl _ _⟩
  case round =>
    obtain ⟨k, hk, rfl, hown, hb⟩ := hrel
    by_cases hlt : k < 7
    · have hi : ∀ W, (Instr.index 58 rosV (.int .i64 k)).run Tryz.prog W = .ok (.agg #[.string (rn k), .string (rv k)]) W := fun W => ros_index W k hlt
      have hrl := hown.lt
      go_wp2_with (at_builtin; refine wpList_append_own_at _ rfl _ _ 40 rfl w.heap.size 9 i0 (.string ⟨#[]⟩) 1 16 Tryz.underlying40 hi0 hz0 hz1 hz2 rfl (by decide) _ _ _ rfl ((hown.alloc _).alloc _) ⟨wr.heap.size + 1, 0, none⟩ 1 1 [.string (rn k)] rfl rfl ?c1 ?c2 ?c3 ?c4 ?c5 ?c6)
      case c1 =>
        intro j u hj
        match j, hj with
        | 0, hj => simp at hj; subst hj; simp [Addr.add]
        | j + 1, hj => simp at hj
      case c2 => intro u hu; simp at hu; rcases hu with rfl; rfl
      case c3 => unfold maxLen; omega
      case c4 => omega
      case c5 => have := hb.size; simp; omega
      case c6 =>
        intro v' w2 hown2 hg2 hnil hloc
        have HB : Hid (Below w.heap.size w w2) := Lib.hid (((hb.alloc hb.size _).alloc (by have := hb.size; simp; omega) _).grown hg2 (by have := hb.size; simp; omega) (fun j e => (hrl j e).1))
        have HO : Hid (w2.ownsRow w.heap.size 9 1 v' (k + 1) (namesTo (k + 1))) := Lib.hid (by rw [namesTo_succ]; exact hown2)
        obtain ⟨g, cap, hvv⟩ : ∃ g cap, v' = .slice (some ⟨g, 0, none⟩) (k + 1) cap := by
          rcases hown2.2 with ⟨e, _⟩ | ⟨g, cap, _, e, _⟩
          · exact absurd e hnil
          · exact ⟨g, cap, e⟩
        clear hown2 hg2 hnil hloc hown hb hrl
        subst hvv
        go_wp2
        exact ⟨⟨k + 1, by omega, by go_num, HO.out, HB.out⟩, by simp [intOf]; omega⟩
    · obtain rfl : k = 7 := by omega
      obtain ⟨g, cap, rfl⟩ : ∃ g cap, u1 = .slice (some ⟨g, 0, none⟩) 7 cap := by
        rcases hown.2 with ⟨e, e2⟩ | ⟨g, cap, _, e, _⟩
        · omega
        · exact ⟨g, cap, e⟩
      have hl := hown.lt g rfl
      have HC : Hid (∀ j, j < 7 → wr.cell? ⟨g, j, none⟩ = some (.string (rn j))) := Lib.hid (fun j hj => by
        have := hown.cellAt j (by omega)
        rw [this]
        unfold namesTo
        simp [hj])
      clear hown
      go_wp2
      go_ret
      exact ⟨g, cap, rfl, hl.1, hl.2, HC.out, hb⟩
end Go.Proofs.YtogcepiofpmabaaGreatDoor
