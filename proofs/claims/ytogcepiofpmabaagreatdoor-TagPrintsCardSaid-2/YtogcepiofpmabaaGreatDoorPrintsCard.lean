/- Proved: for every two tags by numbers (each two slices of bytes) the law tempolaw24.TagPrints returns true and leaves its arguments as they were. Conditions: the package-level variables that the row lists read as the program's own text lays them (tied by the card); tempo/gauss.steps is left open: the run never reads it. -/
import Derived.Test.YtogcepiofpmabaaGreatDoorPrintsA
import Derived.Test.YtogcepiofpmabaaGreatDoorGlob
import Derived.Test.YtogcepiofpmabaaGreatDoorCards
import Derived.Test.YtogcepiofpmabaaGreatDoorTie
import Derived.SevenTiedAt
import Derived.Stop.Joined
namespace Go.Proofs.YtogcepiofpmabaaGreatDoor
open Go.ChangeShapes Go.WideShapes Go.ChangeAt Go.RowKit

theorem cWords : Tryz.prog.cellsOf 24 = 2 := by kernel_rfl
theorem cBytes : Tryz.prog.cellsOf 22 = 1 := by kernel_rfl
theorem cByte : Tryz.prog.cellsOf 5 = 1 := by kernel_rfl
theorem outP : laidOutB Tryz.prog = true := by kernel_rfl
/-- A slice of bytes that came in. -/
theorem open_bytes {H : Type} {enc : TypeId × Value → H} {W : World} {fuel : Nat} {x : Value} {y : DataW H × List MemPlace} (h : DataW.trod enc Tryz.prog W 0 (fun _ => true) true fuel 22 [x] = some y) :
    ∃ a l c, x = .slice a l.length c ∧ BRead W a l := by
  rcases open_ints Tryz.underlying22 Tryz.underlying5 cByte h with ⟨hx, _⟩ | ⟨a, len, cap, zs, hx, _, hlc, _, hlen, _, hcell, hwf⟩
  · simp only [List.cons.injEq, and_true] at hx
    exact ⟨none, [], 0, hx, fun z hz => (by cases hz), fun hne => absurd rfl hne⟩
  · simp only [List.cons.injEq, and_true] at hx
    simp only [if_true] at hlen
    have hl : (zs.take len).length = len := by simp; omega
    refine ⟨some a, zs.take len, cap, by rw [hl]; exact hx, fun z hz => ?_, fun _ => ⟨a, rfl, fun i z hz => ?_⟩⟩
    · have := hwf z (List.mem_of_mem_take hz)
      simp [Lit.wf, IntKind.min, IntKind.max, IntKind.signed, IntKind.bits] at this
      omega
    · have hi : i < len := by have := (List.getElem?_eq_some_iff.1 hz).1; omega
      rw [List.getElem?_take_of_lt hi] at hz
      rw [hcell i (by omega), List.getD_eq_getElem?_getD, hz]
      rfl
set_option maxRecDepth 100000 in
/-- A tag by numbers that came in. -/
theorem open_words {H : Type} {enc : TypeId × Value → H} {W : World} {base : Nat} {v : Value} {d : DataW H} {p : List MemPlace} (hval : Value.okWide Tryz.prog W .any base 24 v) (h : DataW.Trod enc Tryz.prog W 0 (fun _ => true) true 24 v d p) :
    ∃ a1 l1 c1 a2 l2 c2, v = .agg #[.slice a1 l1.length c1, .slice a2 l2.length c2] ∧ BRead W a1 l1 ∧ BRead W a2 l2 := by
  obtain ⟨cs, rfl, hsz⟩ := okWide_struct Tryz.underlying24 hval
  rw [cWords] at hsz
  obtain ⟨l⟩ := cs
  match l, hsz with
  | [x0, x1], _ =>
  obtain ⟨fuel, hf⟩ := h
  obtain ⟨y0, y1, m, _, _, hy0, hy1⟩ := trod_struct2 Tryz.underlying24 hf
  simp only [cBytes] at hy0 hy1
  obtain ⟨a1, l1, c1, e1, r1⟩ := open_bytes (x := x0) hy0
  obtain ⟨a2, l2, c2, e2, r2⟩ := open_bytes (x := x1) hy1
  exact ⟨a1, l1, c1, a2, l2, c2, by rw [e1, e2], r1, r2⟩

set_option maxRecDepth 100000 in
theorem prints_lifted (os : Os) (started : os.Started) (H : Type) (enc : TypeId × Value → H) :
    ReturnsInHanded {} Tryz.checked os 3 .any (fun w args => (Rows.tagPrintsSpec.pre enc Tryz.prog Tryz.f3 [] false w args ∧ laidMetH Tryz.prog laidL w) ∧ sizedMet enc Tryz.prog Tryz.f3 (OpenSpec.ofChange Rows.tagPrintsSpec) false w args)
      (Rows.tagPrintsSpec.post enc Tryz.prog Tryz.f3 false true false false) := by
  refine handed (C := Tryz.checked) (X := fun w _ => laidMetH Tryz.prog laidL w) (fun _ _ _ hh h => h.of_heap hh) own started (by kernel_rfl) Tryz.func3
    (ChangeSpec.witness_shaped (enc := enc) (C := Tryz.checked) (os := os) (X := fun w _ => laidMetH Tryz.prog laidL w) false (World.laidAll Tryz.prog os laidL) #[.agg #[.slice none 0 0, .slice none 0 0], .agg #[.slice none 0 0, .slice none 0 0]] 8 (World.laidAll_os _ _ _)
      (World.shaped_of_ZipB (by kernel_rfl) (by kernel_rfl)) (by kernel_rfl) (by kernel_rfl) (by kernel_rfl) (all_met os _)) ?_
  intro W base args ds gs before hval0 hW hL hsh
  have hg := glob_of_laid hL hsh
  have hval : ∀ (j : Nat) t v, Tryz.f3.params[j]? = some t → args[j]? = some v → Value.okWide Tryz.prog W .any base t v := hval0
  have hW' := hW
  obtain ⟨p, q, hA0, hV, rfl, _, _⟩ := hW
  have hA : DataW.TrodAll enc Tryz.prog W 0 (fun _ => true) true Tryz.f3.params.toList args.toList ds p := hA0
  rw [Tryz.params3] at hA hval
  obtain ⟨v0, v1, d0, d1, p0, p1, rfl, rfl, rfl, h0, h1⟩ := trodAll_two hA
  obtain ⟨rfl, rfl⟩ := trodVars_none hV
  obtain ⟨a1, l1, c1, a2, l2, c2, e0, r1, r2⟩ := open_words (hval 0 24 v0 rfl rfl) h0
  obtain ⟨a3, l3, c3, a4, l4, c4, e1, r3, r4⟩ := open_words (hval 1 24 v1 rfl rfl) h1
  clear hA0 hval0
  simp only [List.append_nil] at hW'
  have hlt : ∀ x ∈ p0 ++ p1, x.block < W.heap.size := fun x hx => hW'.lt x hx
  have hcall := prints_all l1 l2 l3 l4 a1 a2 a3 a4 c1 c2 c3 c4 W hg r1 r2 r3 r4
  rw [← e0, ← e1] at hcall
  refine hcall.mono fun e W' ⟨he, hb⟩ => ?_
  subst he
  exact ⟨_, rfl, _, _, _, [], _, [], hW', trodAll_mk1 (shut_bool Tryz.underlying4 _),
    trodAll_mk2 (Below.trod outP (by kernel_rfl) (of_decide_eq_true (by kernel_rfl)) h0 hb (fun x hx => hlt x (List.mem_append_left _ hx)))
      (Below.trod outP (by kernel_rfl) (of_decide_eq_true (by kernel_rfl)) h1 hb (fun x hx => hlt x (List.mem_append_right _ hx))), rfl, hb.frame _, fun h => by cases h⟩

theorem tagPrints_row : Rows.TagPrintsSaid :=
  OpenClaim.holds_of_wide 3 Tryz.f3 rfl rfl rfl rfl rfl rfl rfl ⟨rfl, rfl, rfl, rfl, rfl⟩ rfl rfl rfl rfl rfl (by kernel_rfl) Tryz.func3 (by kernel_rfl)
    (of_decide_eq_true (by kernel_rfl)) (by unfold Func.isWrapper; rw [if_neg (by decide +kernel)]; exact ⟨rfl, rfl⟩)
    (fun os started H enc _ => prints_lifted os started H enc)

theorem tagPrints_card : Rows.TagPrintsCardSaid :=
  Claim7.holds_tied_plain_at .later [] [.data, .data, .data, .data, .sentinel, .sentinel, .data, .data, .data, .pinned] true (true, "a7cb0ef341ab509e2bf743b274e986f8ca532ad747f530f6a62b15599efe3c90") true tagPrints_row (fun _ h => by cases h) (by kernel_rfl) (fun _ h => by cases h) tagPrints_row_tie rfl ⟨rfl, rfl⟩ (by kernel_rfl) rfl
    (fun f fn hf hfn => by
      obtain rfl : f = 3 := Option.some.inj ((show Tryz.prog.funcNamed "tempo/tempolaw24.TagPrints" = some 3 by kernel_rfl).symm.trans hf) |>.symm
      obtain rfl : fn = Tryz.f3 := (Option.some.inj (Tryz.func3.symm.trans hfn)).symm
      exact ⟨by kernel_rfl, fun j t ht => by
        rw [Tryz.params3] at ht
        have hm : t ∈ [24, 24] := by simpa using Array.mem_of_getElem? ht
        have hall : ([24, 24].all fun u => !Tryz.prog.wantsStandIn u) = true := by kernel_rfl
        exact (show Tryz.prog.wantsStandIn t = false by simpa using List.all_eq_true.1 hall t hm)⟩)
    (by kernel_rfl)
end Go.Proofs.YtogcepiofpmabaaGreatDoor
