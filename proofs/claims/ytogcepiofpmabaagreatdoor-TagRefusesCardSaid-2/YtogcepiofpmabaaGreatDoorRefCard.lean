/- Proved: for every list of tags by numbers (a slice of pairs of slices of bytes), every two bytes and every number of sixteen bits the law tempolaw24.TagRefuses returns true and leaves its arguments as they were. Conditions: the package-level variables that the row lists read as the program's own text lays them (tied by the card); tempo/gauss.steps is left open: the run never reads it. -/
import Derived.Test.YtogcepiofpmabaaGreatDoorRefA
import Derived.Test.YtogcepiofpmabaaGreatDoorOpenW
import Derived.Test.YtogcepiofpmabaaGreatDoorCards
import Derived.Test.YtogcepiofpmabaaGreatDoorTie
import Derived.SevenTiedAt
import Derived.Stop.Joined
import Derived.Carry
import Derived.Clock
namespace Go.Proofs.YtogcepiofpmabaaGreatDoor
open Go.ChangeShapes Go.WideShapes Go.ChangeAt Go.RowKit

set_option maxRecDepth 100000 in
/-- The contract, for either form of the row. -/
theorem refuses_contract {H : Type} {enc : TypeId × Value → H} (W : World) (base : Nat) (args : Array Value) (ds gs : List (DataW H)) (before : List MemPlace)
    (hval0 : ∀ (j : Nat) t v, Tryz.f6.params[j]? = some t → args[j]? = some v → Value.okWide Tryz.prog W .any base t v)
    (hW : DataW.Whole enc Tryz.prog Tryz.f6.params.toList Rows.tagRefusesSpec.vars false W args.toList ds gs before) (hL : laidMetH Tryz.prog laidL W) (hsh : W.ShapedOpen Tryz.prog) :
    Calls Tryz.prog 6 args W fun e W' => ∃ v, e = .returned v ∧ Rows.tagRefusesSpec.post enc Tryz.prog Tryz.f6 false true false false W args v W' ∧ W'.os = W.os := by
  have hg := glob_of_laid hL hsh
  have hval : ∀ (j : Nat) t v, Tryz.f6.params[j]? = some t → args[j]? = some v → Value.okWide Tryz.prog W .any base t v := hval0
  have hW' := hW
  obtain ⟨p, q, hA0, hV, rfl, _, _⟩ := hW
  have hA : DataW.TrodAll enc Tryz.prog W 0 (fun _ => true) true Tryz.f6.params.toList args.toList ds p := hA0
  rw [Tryz.params6] at hA hval
  obtain ⟨v0, v1, v2, v3, d0, d1, d2, d3, p0, p1, p2, p3, rfl, rfl, rfl, h0, h1, h2, h3⟩ := trodAll_four hA
  obtain ⟨rfl, rfl⟩ := trodVars_none hV
  obtain ⟨z1, rfl, rfl, rfl, wf1⟩ := open_int Tryz.underlying5 (hval 1 5 v1 rfl rfl) h1
  obtain ⟨z2, rfl, rfl, rfl, wf2⟩ := open_int Tryz.underlying5 (hval 2 5 v2 rfl rfl) h2
  obtain ⟨z3, rfl, rfl, rfl, wf3⟩ := open_int Tryz.underlying44 (hval 3 44 v3 rfl rfl) h3
  have hcs : v0.cells.toList = [v0] := by
    obtain ⟨a, n, c, rfl⟩ := okWide_slice Tryz.underlying43 (hval 0 43 v0 rfl rfl)
    rfl
  obtain ⟨a, l, c, e0, hr⟩ := open_list h0 hcs
  clear hA0 hval0
  simp only [List.append_nil] at hW'
  have hcall := refuses_all l a c z1 z2 z3 W hg hr (u8_range wf1) (u8_range wf2) (u16_range wf3)
  rw [← e0] at hcall
  refine hcall.mono fun e W' ⟨he, hb⟩ => ?_
  subst he
  exact ⟨_, rfl, ⟨_, _, _, [], p0 ++ ([] ++ ([] ++ [])), [], hW', trodAll_mk1 (shut_bool Tryz.underlying4 _),
    trodAll_mk4 (Below.trod outP (by kernel_rfl) (of_decide_eq_true (by kernel_rfl)) h0 hb (fun x hx => hW'.lt x hx))
      (shut_int Tryz.underlying5 wf1) (shut_int Tryz.underlying5 wf2) (shut_int Tryz.underlying44 wf3), rfl, hb.frame _, fun h => by cases h⟩, hb.os⟩

set_option maxRecDepth 100000 in
theorem refuses_lifted (os : Os) (started : os.Started) (H : Type) (enc : TypeId × Value → H) :
    ReturnsInHanded {} Tryz.checked os 6 .any (fun w args => (Rows.tagRefusesSpec.pre enc Tryz.prog Tryz.f6 [] false w args ∧ laidMetH Tryz.prog laidL w) ∧ sizedMet enc Tryz.prog Tryz.f6 (OpenSpec.ofChange Rows.tagRefusesSpec) false w args)
      (Rows.tagRefusesSpec.post enc Tryz.prog Tryz.f6 false true false false) := by
  refine handed (C := Tryz.checked) (X := fun w _ => laidMetH Tryz.prog laidL w) (fun _ _ _ hh h => h.of_heap hh) own started (by kernel_rfl) Tryz.func6
    (ChangeSpec.witness_shaped (enc := enc) (C := Tryz.checked) (os := os) (X := fun w _ => laidMetH Tryz.prog laidL w) false (World.laidAll Tryz.prog os laidL) #[.slice none 0 0, .int .u8 0, .int .u8 0, .int .u16 0] 8 (World.laidAll_os _ _ _)
      (World.shaped_of_ZipB (by kernel_rfl) (by kernel_rfl)) (by kernel_rfl) (by kernel_rfl) (by kernel_rfl) (all_met os _)) ?_
  exact fun W base args ds gs before h1 h2 h3 h4 => (refuses_contract W base args ds gs before h1 h2 h3 h4).mono fun e W' ⟨v, he, hp, _⟩ => ⟨v, he, hp⟩

set_option maxRecDepth 100000 in
theorem refuses_calm (os : Os) (started : os.Started) (H : Type) (enc : TypeId × Value → H) (F : Stop.Interp) :
    ReturnsInHanded { calm := true } Tryz.checked os 6 .any (fun w args => (Rows.tagRefusesSpec.pre enc Tryz.prog Tryz.f6 [] false w args ∧ laidMetH Tryz.prog laidL w) ∧ sizedMet enc Tryz.prog Tryz.f6 (OpenSpec.ofChange Rows.tagRefusesSpec) false w args)
      ((OpenSpec.ofChange Rows.tagRefusesSpec).postWith enc Tryz.prog Tryz.f6 F (outsideKept [.timePasses]) false true false) := by
  refine Clock.returns_of_change (C := Tryz.checked) (X := fun w _ => laidMetH Tryz.prog laidL w) (fun _ _ _ hh h => h.of_heap hh) own started (by kernel_rfl) Tryz.func6
    (Clock.witness_at (enc := enc) (C := Tryz.checked) (os := os) (X := fun w _ => laidMetH Tryz.prog laidL w) (World.laidAll Tryz.prog os laidL) #[.slice none 0 0, .int .u8 0, .int .u8 0, .int .u16 0] 8 (World.laidAll_os _ _ _)
      (World.shaped_of_ZipB (by kernel_rfl) (by kernel_rfl)) (by kernel_rfl) (by kernel_rfl) (by kernel_rfl) (all_met os _)) ?_
  refine fun W base args ds gs before h1 h2 _ _ h3 h4 => (refuses_contract W base args ds gs before h1 h2 h3 h4).mono fun e W' ⟨v, he, hp, ho⟩ => ⟨v, he, ?_, by rw [ho]; exact Clock.Later.refl _⟩
  have e1 : ({ W' with os := W.os } : World) = W' := by rw [← ho]
  rw [e1]
  exact hp

/-- The row: plain, or with the premises of a call that may look at the clock, whichever the given text has. -/
theorem tagRefuses_row : Rows.TagRefusesSaid := by
  first
  | exact OpenClaim.holds_of_wide 6 Tryz.f6 rfl rfl rfl rfl rfl rfl rfl ⟨rfl, rfl, rfl, rfl, rfl⟩ rfl rfl rfl rfl rfl (by kernel_rfl) Tryz.func6 (by kernel_rfl)
        (of_decide_eq_true (by kernel_rfl)) (by unfold Func.isWrapper; rw [if_neg (by decide +kernel)]; exact ⟨rfl, rfl⟩)
        (fun os started H enc _ => refuses_lifted os started H enc)
  | exact Clock.holds_of_wide_time 6 Tryz.f6 rfl rfl rfl rfl rfl rfl rfl ⟨rfl, rfl, rfl, rfl, rfl⟩ rfl rfl rfl rfl rfl (by kernel_rfl) Tryz.func6 (by kernel_rfl)
        (of_decide_eq_true (by kernel_rfl)) (by unfold Func.isWrapper; rw [if_neg (by decide +kernel)]; exact ⟨rfl, rfl⟩)
        (fun os started H enc _ F => refuses_calm os started H enc F)

theorem tagRefuses_card : Rows.TagRefusesCardSaid :=
  Claim7.holds_tied_plain_at .later [] [.data, .data, .data, .data, .sentinel, .sentinel, .data, .data, .data, .pinned] true (true, "a7cb0ef341ab509e2bf743b274e986f8ca532ad747f530f6a62b15599efe3c90") true tagRefuses_row (fun _ h => by cases h) (by kernel_rfl) (fun _ h => by cases h) tagRefuses_row_tie rfl ⟨rfl, rfl⟩ (by kernel_rfl) rfl
    (fun f fn hf hfn => by
      obtain rfl : f = 6 := Option.some.inj ((show Tryz.prog.funcNamed "tempo/tempolaw24.TagRefuses" = some 6 by kernel_rfl).symm.trans hf) |>.symm
      obtain rfl : fn = Tryz.f6 := (Option.some.inj (Tryz.func6.symm.trans hfn)).symm
      exact ⟨by kernel_rfl, fun j t ht => by
        rw [Tryz.params6] at ht
        have hm : t ∈ [43, 5, 5, 44] := by simpa using Array.mem_of_getElem? ht
        have hall : ([43, 5, 5, 44].all fun u => !Tryz.prog.wantsStandIn u) = true := by kernel_rfl
        exact (show Tryz.prog.wantsStandIn t = false by simpa using List.all_eq_true.1 hall t hm)⟩)
    (by kernel_rfl)
end Go.Proofs.YtogcepiofpmabaaGreatDoor
