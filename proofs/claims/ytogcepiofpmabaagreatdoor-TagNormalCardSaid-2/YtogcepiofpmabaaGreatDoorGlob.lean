/- From the rows' condition on package-level variables to what the walks ask; the witness's world. -/
import Derived.Test.YtogcepiofpmabaaGreatDoorBase
import Derived.Test.YtogcepiofpmabaaGreatDoorRows
import Derived.ProofKit
import Derived.LaidMore
import Derived.LaidHandle
import Derived.OpenShut
import Derived.Lib.LaidU8
import Derived.Shelf.Vars
import Derived.HandedShaped
import Derived.Lay
namespace Go.Proofs.YtogcepiofpmabaaGreatDoor
open Go.ChangeShapes Go.WideShapes Go.ChangeAt Go.RowKit Go.Lib

section
variable {H : Type} {enc : TypeId × Value → H} {P : Program} {w : World} {base : Nat} {sp : Nat → Bool} {held : Bool} {fuel : Nat} {t e : TypeId} {n : Nat} {cs : List Value} {p : List MemPlace}
/-- An array of strings, by its reading. -/
theorem strs_of_trod {bs : List (List UInt8)} (ht : P.underlying t = some (.array n e)) (he : P.underlying e = some .string) (hce : P.cellsOf e = 1)
    (h : DataW.trod enc P w base sp held fuel t cs = some (.agg (bs.map fun b => .lit (.string b)), p)) (i : Nat) (b : List UInt8) (hb : bs[i]? = some b) : cs[i]? = some (.string ⟨b.toArray⟩) := by
  obtain ⟨xs, m, rfl, hx, hl, hn, hel⟩ := DataW.trod_array ht h
  have hx1 : (bs.map fun b => (DataW.lit (.string b) : DataW H)) = xs.map (·.1) := by
    have := congrArg Prod.fst hx
    simpa using this
  have h0 : (xs.map (·.1))[i]? = some (.lit (.string b)) := by rw [← hx1]; simp [hb]
  obtain ⟨x, hxi, hxe⟩ : ∃ x, xs[i]? = some x ∧ x.1 = .lit (.string b) := by simpa using h0
  have hi : i < n := by have := (List.getElem?_eq_some_iff.1 hxi).1; omega
  have h1 := hel i hi
  rw [hxi] at h1
  obtain ⟨s, hc, rfl, _⟩ := DataW.trod_string he h1
  simp only [DataW.lit.injEq, Lit.string.injEq] at hxe
  subst hxe
  have := congrArg (·[0]?) hc
  simpa [List.getElem?_take, List.getElem?_drop, hce] using this

/-- An array of pairs of strings. -/
theorem pairs_of_trod {bs : List (List UInt8 × List UInt8)} {fs : Array Field} {f0 f1 : Field} {u : TypeId} (ht : P.underlying t = some (.array n e)) (he : P.underlying e = some (.struct fs)) (hce : P.cellsOf e = 2)
    (h0 : fs[0]? = some f0) (h1 : fs[1]? = some f1) (t0 : f0.type = u) (t1 : f1.type = u) (o0 : f0.offset = 0) (o1 : f1.offset = 1) (hu : P.underlying u = some .string) (hcu : P.cellsOf u = 1)
    (h : DataW.trod enc P w base sp held fuel t cs = some (.agg (bs.map fun b => .agg [.lit (.string b.1), .lit (.string b.2)]), p)) (i : Nat) (b : List UInt8 × List UInt8) (hb : bs[i]? = some b) :
    cs[2 * i]? = some (.string ⟨b.1.toArray⟩) ∧ cs[2 * i + 1]? = some (.string ⟨b.2.toArray⟩) := by
  obtain ⟨xs, m, rfl, hx, hl, hn, hel⟩ := DataW.trod_array ht h
  have hx1 : (bs.map fun b => (DataW.agg [.lit (.string b.1), .lit (.string b.2)] : DataW H)) = xs.map (·.1) := by
    have := congrArg Prod.fst hx
    simpa using this
  have h0' : (xs.map (·.1))[i]? = some (.agg [.lit (.string b.1), .lit (.string b.2)]) := by rw [← hx1]; simp [hb]
  obtain ⟨x, hxi, hxe⟩ : ∃ x, xs[i]? = some x ∧ x.1 = .agg [.lit (.string b.1), .lit (.string b.2)] := by simpa using h0'
  have hi : i < n := by have := (List.getElem?_eq_some_iff.1 hxi).1; omega
  have h2 := hel i hi
  rw [hxi] at h2
  obtain ⟨ys, m2, rfl, hy, hyl, hyn, hyel⟩ := DataW.trod_struct he h2
  subst hy
  simp only [DataW.agg.injEq] at hxe
  have e0 := hyel 0 f0 h0
  have e1 := hyel 1 f1 h1
  have g0 : (ys.map (·.1))[0]? = some (.lit (.string b.1)) := by rw [hxe]; rfl
  have g1 : (ys.map (·.1))[1]? = some (.lit (.string b.2)) := by rw [hxe]; rfl
  obtain ⟨y0, hy0, hz0⟩ : ∃ x, ys[0]? = some x ∧ x.1 = .lit (.string b.1) := by simpa using g0
  obtain ⟨y1, hy1, hz1⟩ : ∃ x, ys[1]? = some x ∧ x.1 = .lit (.string b.2) := by simpa using g1
  rw [hy0, t0, o0, hcu] at e0
  rw [hy1, t1, o1, hcu] at e1
  obtain ⟨s0, hc0, rfl, _⟩ := DataW.trod_string hu e0
  obtain ⟨s1, hc1, rfl, _⟩ := DataW.trod_string hu e1
  simp only [DataW.lit.injEq, Lit.string.injEq] at hz0 hz1
  rw [← hz0, ← hz1]
  have k0 := congrArg (·[0]?) hc0
  have k1 := congrArg (·[0]?) hc1
  have ei : i * 2 = 2 * i := by omega
  constructor
  · simpa [List.getElem?_take, List.getElem?_drop, hce, ei] using k0
  · simpa [List.getElem?_take, List.getElem?_drop, hce, ei] using k1
end

/-- What the rows list. -/
abbrev laidL : List (String × DataW Unit) := Rows.tagWordsRow.laid

/-- The witness's world meets the condition, and has its shape. -/
theorem all_met (os : Os) (args : Array Value) : laidMetH Tryz.prog laidL ((World.laidAll Tryz.prog os laidL).forCall (fun _ _ => 0) ⟨#[], args, []⟩).memory := by
  rw [MakeChecks.laidMetH_plain _ _ _ (by kernel_rfl)]
  exact laidMet_laidAll _ (by kernel_rfl) (by kernel_rfl)

theorem gRes : Tryz.prog.globalNamed "tempo/tag.results" = some 0 := by kernel_rfl
theorem gRos : Tryz.prog.globalNamed "tempo/tag.roster" = some 1 := by kernel_rfl
theorem tRes : (Tryz.prog.globals[0]?).map (·.type) = some 56 := by kernel_rfl
theorem tRos : (Tryz.prog.globals[1]?).map (·.type) = some 58 := by kernel_rfl
theorem c9 : Tryz.prog.cellsOf 9 = 1 := by kernel_rfl
theorem c57 : Tryz.prog.cellsOf 57 = 2 := by kernel_rfl

theorem ros7 : ∀ k, k < 7 → ∃ b, ([([69, 118, 101, 110, 116], [63]), ([83, 105, 116, 101], [63]), ([68, 97, 116, 101], [63, 63, 63, 63, 46, 63, 63, 46, 63, 63]), ([82, 111, 117, 110, 100], [63]), ([87, 104, 105, 116, 101], [63]), ([66, 108, 97, 99, 107], [63]), ([82, 101, 115, 117, 108, 116], [])] : List (List UInt8 × List UInt8))[k]? = some b ∧ (⟨b.1.toArray⟩ : ByteArray) = rn k ∧ (⟨b.2.toArray⟩ : ByteArray) = rv k
  | 0, _ => ⟨_, rfl, rfl, rfl⟩
  | 1, _ => ⟨_, rfl, rfl, rfl⟩
  | 2, _ => ⟨_, rfl, rfl, rfl⟩
  | 3, _ => ⟨_, rfl, rfl, rfl⟩
  | 4, _ => ⟨_, rfl, rfl, rfl⟩
  | 5, _ => ⟨_, rfl, rfl, rfl⟩
  | 6, _ => ⟨_, rfl, rfl, rfl⟩
  | k + 7, h => absurd h (by omega)

theorem glob_of_laid {W : World} (h0 : laidMetH Tryz.prog laidL W) (hs : W.ShapedOpen Tryz.prog) : Glob W := by
  have h : laidMet Tryz.prog laidL W := by rw [MakeChecks.laidMetH_plain _ _ _ (by kernel_rfl)] at h0; exact h0
  obtain ⟨g, t, cs, fuel, p, hg, ht, hv, hd⟩ := Lib.laidMet.reads h (n := "tempo/tag.results") (d := Rows.laid_tempo_tag_results) (by repeat (first | exact List.Mem.head _ | refine List.Mem.tail _ ?_))
  obtain rfl := Option.some.inj (gRes.symm.trans hg)
  obtain rfl := Option.some.inj (tRes.symm.trans ht)
  obtain ⟨g', t', cs', fuel', p', hg', ht', hv', hd'⟩ := Lib.laidMet.reads h (n := "tempo/tag.roster") (d := Rows.laid_tempo_tag_roster) (by repeat (first | exact List.Mem.head _ | refine List.Mem.tail _ ?_))
  obtain rfl := Option.some.inj (gRos.symm.trans hg')
  obtain rfl := Option.some.inj (tRos.symm.trans ht')
  have hr := strs_of_trod (bs := [[42], [49, 45, 48], [48, 45, 49], [49, 47, 50, 45, 49, 47, 50]]) Tryz.underlying56 Tryz.underlying9 c9 hd
  have hp := pairs_of_trod (bs := [([69, 118, 101, 110, 116], [63]), ([83, 105, 116, 101], [63]), ([68, 97, 116, 101], [63, 63, 63, 63, 46, 63, 63, 46, 63, 63]), ([82, 111, 117, 110, 100], [63]), ([87, 104, 105, 116, 101], [63]), ([66, 108, 97, 99, 107], [63]), ([82, 101, 115, 117, 108, 116], [])])
    Tryz.underlying58 Tryz.underlying57 c57 rfl rfl rfl rfl rfl rfl Tryz.underlying9 c9 hd'
  refine ⟨fun i hi => ?_, fun i hi => ?_, fun i hi => ?_, ?_, ?_⟩
  · rw [World.var?_cell hg hv i]
    have h4 : ∀ k, k < 4 → ∃ b, ([[42], [49, 45, 48], [48, 45, 49], [49, 47, 50, 45, 49, 47, 50]] : List (List UInt8))[k]? = some b ∧ (⟨b.toArray⟩ : ByteArray) = rs k
      | 0, _ => ⟨_, rfl, rfl⟩
      | 1, _ => ⟨_, rfl, rfl⟩
      | 2, _ => ⟨_, rfl, rfl⟩
      | 3, _ => ⟨_, rfl, rfl⟩
      | k + 4, h => absurd h (by omega)
    obtain ⟨b, hb, e⟩ := h4 i hi
    rw [← e, ← hr i b hb, Array.getElem?_toList]
  · obtain ⟨b, hb, e, _⟩ := ros7 i hi
    rw [World.var?_cell hg' hv' (2 * i), ← e, ← (hp i b hb).1, Array.getElem?_toList]
  · obtain ⟨b, hb, _, e⟩ := ros7 i hi
    rw [World.var?_cell hg' hv' (2 * i + 1), ← e, ← (hp i b hb).2, Array.getElem?_toList]
  · exact cell_of_shapedOpen_int (g := 2) (t := 3) (zero := #[.int .i64 0]) hs (of_decide_eq_true (by kernel_rfl)) (by kernel_rfl) rfl (by kernel_rfl) (by kernel_rfl) Tryz.underlying3
  · obtain ⟨c, hc, _⟩ := hs.1 12 #[.bool false] 4 (of_decide_eq_true (by kernel_rfl)) (by kernel_rfl)
    have := (Array.getElem?_eq_some_iff.1 hc).1
    unfold nG
    omega

/-- The wrap: the condition and the world's shape for the contract. -/
theorem handed {a : Assume} {C : Checked} {os : Os} {f : FuncId} {fn : Func} {s : ChangeSpec} {conds : List PathCond} {apart fresh handsOn again : Bool} {X : World → Array Value → Prop} {H : Type} {enc : TypeId × Value → H}
    (hX : ∀ (w w' : World) (args : Array Value), w.heap = w'.heap → X w args → X w' args)
    (own : ownKnob C.prog.godebug = none) (started : os.Started) (noInit : C.prog.inits.idxOf? f = none) (hfn : C.prog.funcs[f]? = some fn)
    (witness : ∃ (w : World) (tape : Tape) (i : Input), w.os = os ∧ (w.forCall tape i).Shaped C.prog ∧ i.vars = [] ∧ Input.okWide C.prog (w.forCall tape i) .any w.heap.size f i ∧
      ((s.pre enc C.prog fn conds apart (w.forCall tape i).memory i.args ∧ X (w.forCall tape i).memory i.args) ∧ sizedMet enc C.prog fn (OpenSpec.ofChange s) apart (w.forCall tape i).memory i.args) ∧ a.holds C.prog (lone (Frame.enter C.prog f i.args .normal) [] (w.forCall tape i)))
    (contract : ∀ (W : World) (base : Nat) (args : Array Value) (ds gs : List (DataW H)) (before : List MemPlace),
      (∀ (j : Nat) t v, fn.params[j]? = some t → args[j]? = some v → Value.okWide C.prog W .any base t v) →
      DataW.Whole enc C.prog fn.params.toList s.vars apart W args.toList ds gs before →
      X W args → W.ShapedOpen C.prog →
      Calls C.prog f args W fun e W' => ∃ v, e = .returned v ∧ s.post enc C.prog fn apart fresh handsOn again W args v W') :
    ReturnsInHanded a C os f .any (fun w args => (s.pre enc C.prog fn conds apart w args ∧ X w args) ∧ sizedMet enc C.prog fn (OpenSpec.ofChange s) apart w args) (s.post enc C.prog fn apart fresh handsOn again) := by
  refine returnsInHanded_of_calls own started noInit witness ?_
  intro w tape i _ hsh _ hok hpre _
  obtain ⟨_, _, _, fn', hfn', _, _, _, _, hval⟩ := hok
  have e : fn' = fn := Option.some.inj (hfn'.symm.trans hfn)
  subst e
  obtain ⟨⟨⟨ds, gs, before, hw, _⟩, hx⟩, _⟩ := hpre
  have hw' := DataW.Whole.of_heap (w' := w.forCall tape i) (by rfl) hw
  refine (contract (w.forCall tape i) w.heap.size i.args ds gs before hval hw' (hX _ _ _ (by rfl) hx) hsh).mono fun e W' ⟨v, he, hp⟩ => ?_
  subst he
  exact ChangeSpec.post_blind hp

theorem own : ownKnob Tryz.prog.godebug = none := by kernel_rfl
end Go.Proofs.YtogcepiofpmabaaGreatDoor
