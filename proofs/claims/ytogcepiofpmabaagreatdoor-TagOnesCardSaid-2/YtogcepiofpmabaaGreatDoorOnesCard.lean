/- Proved: for every tag, every number and every string the law tempolaw24.TagOnes returns true and leaves its arguments as they were. Conditions: the package-level variables that the row lists read as the program's own text lays them (tied by the card); tempo/gauss.steps is left open: the run never reads it. -/
import Derived.Test.YtogcepiofpmabaaGreatDoorOnes
import Derived.Test.YtogcepiofpmabaaGreatDoorGlob
import Derived.Test.YtogcepiofpmabaaGreatDoorCards
import Derived.Test.YtogcepiofpmabaaGreatDoorTie
import Derived.SevenTiedAt
import Derived.Stop.Joined
namespace Go.Proofs.YtogcepiofpmabaaGreatDoor
open Go.ChangeShapes Go.WideShapes Go.ChangeAt Go.RowKit
open Go.ChangeMaps (open_string shut_string)

theorem cTag : Tryz.prog.cellsOf 27 = 2 := by kernel_rfl
theorem tag_reads {H : Type} {enc : TypeId × Value → H} {n v : ByteArray} (hn : n.size ≤ maxLen) (hv : v.size ≤ maxLen) (W' : World) (sp : Nat → Bool) :
    DataW.Trod enc Tryz.prog W' 0 sp true 27 (.agg #[.string n, .string v]) (.agg [.lit (.string n.data.toList), .lit (.string v.data.toList)]) [] := ⟨2, by
  have f0 : DataW.trod enc Tryz.prog W' 0 sp true 1 9 [.string n] = some (.lit (.string n.data.toList), []) := by simp [DataW.trod, Tryz.underlying9, hn]
  have f1 : DataW.trod enc Tryz.prog W' 0 sp true 1 9 [.string v] = some (.lit (.string v.data.toList), []) := by simp [DataW.trod, Tryz.underlying9, hv]
  have := trod_struct2_mk (enc := enc) (w := W') (base := 0) (spare := sp) (held := true) (n := 1) (cs := [.string n, .string v]) Tryz.underlying27 (by simp [cTag]) (by simpa [c9] using f0) (by simpa [c9] using f1)
  simpa [Value.cells] using this⟩

set_option maxRecDepth 100000 in
theorem ones_lifted (os : Os) (started : os.Started) (H : Type) (enc : TypeId × Value → H) :
    ReturnsInHanded {} Tryz.checked os 5 .any (fun w args => (Rows.tagOnesSpec.pre enc Tryz.prog Tryz.f5 [] false w args ∧ laidMetH Tryz.prog laidL w) ∧ sizedMet enc Tryz.prog Tryz.f5 (OpenSpec.ofChange Rows.tagOnesSpec) false w args)
      (Rows.tagOnesSpec.post enc Tryz.prog Tryz.f5 false true false false) := by
  refine handed (C := Tryz.checked) (X := fun w _ => laidMetH Tryz.prog laidL w) (fun _ _ _ hh h => h.of_heap hh) own started (by kernel_rfl) Tryz.func5
    (ChangeSpec.witness_shaped (enc := enc) (C := Tryz.checked) (os := os) (X := fun w _ => laidMetH Tryz.prog laidL w) false (World.laidAll Tryz.prog os laidL) #[.agg #[.string ⟨#[]⟩, .string ⟨#[]⟩], .int .i64 0, .string ⟨#[]⟩] 8 (World.laidAll_os _ _ _)
      (World.shaped_of_ZipB (by kernel_rfl) (by kernel_rfl)) (by kernel_rfl) (by kernel_rfl) (by kernel_rfl) (all_met os _)) ?_
  intro W base args ds gs before hval0 hW hL hsh
  have hg := glob_of_laid hL hsh
  have hval : ∀ (j : Nat) t v, Tryz.f5.params[j]? = some t → args[j]? = some v → Value.okWide Tryz.prog W .any base t v := hval0
  have hW' := hW
  obtain ⟨p, q, hA0, hV, rfl, _, _⟩ := hW
  have hA : DataW.TrodAll enc Tryz.prog W 0 (fun _ => true) true Tryz.f5.params.toList args.toList ds p := hA0
  rw [Tryz.params5] at hA hval
  obtain ⟨v0, v1, v2, d0, d1, d2, p0, p1, p2, rfl, rfl, rfl, h0, h1, h2⟩ := trodAll_three hA
  obtain ⟨rfl, rfl⟩ := trodVars_none hV
  obtain ⟨cs, rfl, hsz⟩ := okWide_struct Tryz.underlying27 (hval 0 27 v0 rfl rfl)
  rw [cTag] at hsz
  obtain ⟨l⟩ := cs
  match l, hsz with
  | [c0, c1], _ =>
  obtain ⟨fuel, hf⟩ := h0
  obtain ⟨y0, y1, m, hx, _, hy0, hy1⟩ := trod_struct2 Tryz.underlying27 hf
  obtain ⟨n, e0, rfl, hn⟩ := DataW.trod_string Tryz.underlying9 hy0
  obtain ⟨v, e1, rfl, hv⟩ := DataW.trod_string Tryz.underlying9 hy1
  simp [Value.cells, c9] at e0 e1
  subst e0 e1
  simp only [Prod.mk.injEq] at hx
  obtain ⟨rfl, rfl⟩ := hx
  obtain ⟨r, rfl, rfl, rfl, wr⟩ := open_int Tryz.underlying3 (hval 1 3 v1 rfl rfl) h1
  obtain ⟨s, rfl, rfl, rfl, hs⟩ := open_string Tryz.underlying9 (hval 2 9 v2 rfl rfl) h2
  clear hA0 hval0
  simp only [List.append_nil] at hW'
  refine (ones_any n v r s W hg hs).mono fun e W' ⟨he, hb⟩ => ?_
  subst he
  exact ⟨_, rfl, _, _, _, [], [], [], hW', trodAll_mk1 (shut_bool Tryz.underlying4 _), trodAll_mk3 (tag_reads hn hv _ _) (shut_int Tryz.underlying3 wr) (shut_string Tryz.underlying9 hs), rfl, hb.frame _, fun h => by cases h⟩

theorem tagOnes_row : Rows.TagOnesSaid :=
  OpenClaim.holds_of_wide 5 Tryz.f5 rfl rfl rfl rfl rfl rfl rfl ⟨rfl, rfl, rfl, rfl, rfl⟩ rfl rfl rfl rfl rfl (by kernel_rfl) Tryz.func5 (by kernel_rfl)
    (of_decide_eq_true (by kernel_rfl)) (by unfold Func.isWrapper; rw [if_neg (by decide +kernel)]; exact ⟨rfl, rfl⟩)
    (fun os started H enc _ => ones_lifted os started H enc)

theorem tagOnes_card : Rows.TagOnesCardSaid :=
  Claim7.holds_tied_plain_at .later [] [.data, .data, .data, .data, .sentinel, .sentinel, .data, .data, .data, .pinned] true (true, "a7cb0ef341ab509e2bf743b274e986f8ca532ad747f530f6a62b15599efe3c90") true tagOnes_row (fun _ h => by cases h) (by kernel_rfl) (fun _ h => by cases h) tagOnes_row_tie rfl ⟨rfl, rfl⟩ (by kernel_rfl) rfl
    (fun f fn hf hfn => by
      obtain rfl : f = 5 := Option.some.inj ((show Tryz.prog.funcNamed "tempo/tempolaw24.TagOnes" = some 5 by kernel_rfl).symm.trans hf) |>.symm
      obtain rfl : fn = Tryz.f5 := (Option.some.inj (Tryz.func5.symm.trans hfn)).symm
      exact ⟨by kernel_rfl, fun j t ht => by
        rw [Tryz.params5] at ht
        have hm : t ∈ [27, 3, 9] := by simpa using Array.mem_of_getElem? ht
        have hall : ([27, 3, 9].all fun u => !Tryz.prog.wantsStandIn u) = true := by kernel_rfl
        exact (show Tryz.prog.wantsStandIn t = false by simpa using List.all_eq_true.1 hall t hm)⟩)
    (by kernel_rfl)
end Go.Proofs.YtogcepiofpmabaaGreatDoor
