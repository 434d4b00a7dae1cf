/- The walk of the law TagNormal. -/
import Derived.Test.YtogcepiofpmabaaGreatDoorNormP
import Derived.Test.YtogcepiofpmabaaGreatDoorNormN
import Derived.Test.YtogcepiofpmabaaGreatDoorRefW
import Derived.Test.YtogcepiofpmabaaGreatDoorOnesB
import Derived.BigQuiet
namespace Go.Proofs.YtogcepiofpmabaaGreatDoor
open Go.RowKit Go.Lib Go.Maps

attribute [local go_sem ↓] Go.wp_at_zero Go.wp_at_succ

/-- Is a bit set? -/
def bitB (z : Int) (i : Nat) : Bool := bits .and .u8 (z / 2 ^ i) 1 == 1
theorem bits_two : ((List.range 256).all fun z => bits .and .u8 (z : Int) 1 == 0 || bits .and .u8 (z : Int) 1 == 1) = true := by kernel_rfl
theorem bit_val {z : Int} (h0 : 0 ≤ z) (h1 : z < 256) (i : Nat) : (bitB z i = true → bits .and .u8 (z / 2 ^ i) 1 = 1) ∧ (bitB z i = false → bits .and .u8 (z / 2 ^ i) 1 = 0) := by
  have q0 : 0 ≤ z / 2 ^ i := Int.ediv_nonneg h0 (Int.pow_nonneg (by decide))
  have q1 : z / 2 ^ i ≤ z := Int.ediv_le_self _ h0
  obtain ⟨m, hm⟩ : ∃ m : Nat, z / 2 ^ i = (m : Int) := ⟨(z / 2 ^ i).toNat, by omega⟩
  have hm2 : m < 256 := by omega
  have h := List.all_eq_true.1 bits_two m (List.mem_range.2 hm2)
  unfold bitB
  rw [hm]
  rw [Bool.or_eq_true, beq_iff_eq, beq_iff_eq] at h
  refine ⟨fun e => eq_of_beq e, fun e => ?_⟩
  rcases h with h | h
  · exact h
  · rw [h] at e
    cases e
/-- One more tag of the roster is given. -/
theorem giv_own {w : World} {base : Nat} {sv : Value} {U : List Tag} {b : Nat → Bool} {word : ByteArray} {k : Nat} {V : ByteArray} (hb : b k = true) (hV : gv word k = V)
    (h : w.ownsRow base 27 2 sv (U.length + (givL b word k).length + 1) (tagCells (U ++ givL b word k) ++ [.string (rn k), .string V])) :
    w.ownsRow base 27 2 sv (U ++ givL b word (k + 1)).length (tagCells (U ++ givL b word (k + 1))) := by
  rw [givL_yes word hb, hV, ← List.append_assoc, tagCells_append, List.length_append, List.length_append]
  exact h
theorem giv_len {U : List Tag} {b : Nat → Bool} {word : ByteArray} {k : Nat} (hb : b k = true) : (U ++ givL b word (k + 1)).length = U.length + (givL b word k).length + 1 := by
  rw [givL_yes word hb, ← List.append_assoc, List.length_append, List.length_append]
  rfl
theorem givL_length (b : Nat → Bool) (word : ByteArray) (k : Nat) : (givL b word k).length ≤ k := by
  unfold givL
  rw [List.length_map]
  exact Nat.le_trans (List.length_filter_le _ _) (by simp)

theorem missL_length (b : Nat → Bool) (word : ByteArray) (k : Nat) : (missL b word k).length ≤ k := by
  unfold missL
  rw [List.length_map]
  exact Nat.le_trans (List.length_filter_le _ _) (by simp)
theorem bytes_up {x y : ByteArray} (h : bts x < bts y) : Op.bytesLess x.toList y.toList = true := by
  rw [Go.Proofs.bytesLess_eq, toList_data, toList_data]
  exact decide_eq_true h
/-- tag.Normal at the tags, in whatever order. -/
theorem tgs_call {U : List Tag} (hU : Ok U) (hU1 : U.length ≤ 15) {r : Nat} (hr : r < 4) {b : Nat → Bool} {L : List Tag} (hL : L.Perm (tgs U b (rs r))) (oa : Option Addr) (c : Nat) (W : World) (hg : Glob W) (h : (oa = none ∧ c = 0 ∧ L = []) ∨ ∃ g, oa = some ⟨g, 0, none⟩ ∧ g < W.heap.size ∧ TagRead W g 0 L) :
    Calls Tryz.prog 22 #[.slice oa L.length c, .int .i64 r] W (NormPost W (.ok (nrm U b (rs r)))) := by
  rw [← norm_tgs hU hU1 b (rs r) hL]
  rcases h with ⟨rfl, rfl, rfl⟩ | ⟨g, rfl, hlt, hrd⟩
  · exact normal_nil r hr W hg
  · have hf := (tgs_fine hU hr b).perm hL
    have hlen : L.length ≤ 22 := by
      have := givL_length b (rs r) 7
      rw [hL.length_eq]
      unfold tgs
      rw [List.length_append]
      omega
    exact normal_any L r hr g 0 c W hg hrd hlt (by omega) hf.2 hf.1 (((hL.map _).nodup_iff).2 (tgs_dif hU b (rs r))) (fun e => by rw [(perm_has hL nFen).trans (tgs_other hU b (rs r)).1] at e; cases e)
theorem nrm_fen {U : List Tag} (hU : Ok U) {b : Nat → Bool} {word : ByteArray} : hasN (nrm U b word) nFen = false := by
  unfold nrm
  rw [hasN_append, perm_has (sortTags_perm U), hU.xy.fen, (ros_none b word).1]
  rfl
/-- tag.Normal at normal tags. -/
theorem nrm_call {U : List Tag} (hU : Ok U) (hU1 : U.length ≤ 15) {r : Nat} (hr : r < 4) (b : Nat → Bool) (g c : Nat) (W : World) (hg : Glob W) (hrd : TagRead W g 0 (nrm U b (rs r))) (hlt : g < W.heap.size) :
    Calls Tryz.prog 22 #[.slice (some ⟨g, 0, none⟩) (nrm U b (rs r)).length c, .int .i64 r] W (NormPost W (.ok (nrm U b (rs r)))) := by
  have hf := nrm_fine hU hr b
  have hl := nrm_length U b (rs r)
  have h := norm_nrm hU hU1 b (rs r)
  have hfen : hasN (nrm U b (rs r)) nFen = true → (valOf (nrm U b (rs r)) nFen).size < 4294967281 ∧ ((((Lib.countB (valOf (nrm U b (rs r)) nFen) spc : Nat) : Int) + 1) != 6) = true := fun e => by
    rw [nrm_fen hU] at e
    cases e
  have hc := normal_any (nrm U b (rs r)) r hr g 0 c W hg hrd hlt (by omega) hf.2 hf.1 (nrm_dif hU b (rs r)) hfen
  rwa [h] at hc

set_option maxRecDepth 100000 in
set_option maxHeartbeats 8000000 in
theorem normal_law (l : List Wd) (a : Option Addr) (c : Nat) (given result turn : Int) (w : World) (hg : Glob w) (hr : WRead w a l) (hgv : 0 ≤ given ∧ given < 256) (hres : 0 ≤ result ∧ result < 256) (htn : 0 ≤ turn ∧ turn < 256) (h20 : l.length ≤ 20) (hs : Short l) :
    Calls Tryz.prog 7 #[.slice a l.length c, .int .u8 given, .int .u8 result, .int .u8 turn] w fun e w' => e = .returned (.bool true) ∧ Below w.heap.size w w' := by
  obtain ⟨hg0, hg1⟩ := hgv
  obtain ⟨hr0, hr1⟩ := hres
  obtain ⟨ht0, ht1⟩ := htn
  have n20 : ¬ (20 : Int) < (l.length : Int) := by omega
  go_enter Tryz.func7, Tryz.ntmps7
  go_wp2
  clear n20
  go_loopw [9] (fun i wr => ∃ k : Nat, k ≤ l.length ∧ i = .int .i64 k ∧ w = wr) (fun i _ => l.length - (intOf i).toNat)
  case atStart => exact ⟨0, by omega, rfl, rfl⟩
  case round =>
    obtain ⟨k, hk, rfl, rfl⟩ := hrel
    by_cases hk1 : k < l.length
    · obtain ⟨x, hx⟩ : ∃ x, l[k]? = some x := ⟨_, List.getElem?_eq_getElem hk1⟩
      obtain ⟨p, e, hc⟩ := hr.2 (fun e => by rw [e] at hk1; exact absurd hk1 (Nat.not_lt_zero _))
      subst e
      obtain ⟨d1, d2⟩ := hc k x hx
      have d2' : w.cell? ⟨(p.add (k * 2)).block, (p.add (k * 2)).off + 1, none⟩ = some (.slice x.a2 x.l2.length x.c2) := d2
      obtain ⟨s1, s2⟩ := hs x (List.mem_of_getElem? hx)
      have k0 : (0 : Int) ≤ (k : Int) := by omega
      have k1 : (k : Int) < (l.length : Int) := by omega
      have s3 : ¬ (150 : Int) < (x.l1.length : Int) := by omega
      have s4 : ¬ (150 : Int) < (x.l2.length : Int) := by omega
      clear hr hc hx hs
      go_wp2
      exact ⟨⟨k + 1, by omega, by go_num, trivial⟩, by simp [intOf]; omega⟩
    · obtain ⟨r, hrm, hr4⟩ : ∃ r : Nat, result.tmod 4 = (r : Int) ∧ r < 4 := by
        refine ⟨(result % 4).toNat, ?_, by omega⟩
        rw [Int.tmod_eq_emod_of_nonneg hr0]
        omega
      go_wp2_with fail
      go_fit (word_ok r w hr4 hg)
      rintro e w0 ⟨rfl, rfl⟩
      go_wp2_with fail
      go_fit (unique_any l a c w hr (by omega) hs)
      rintro e w1 ⟨sv, rfl, hown, hb1, hform⟩
      have hU := Ok.uni (most := 15) l [] ok_nil
      have hU1 := (uni_length (most := 15) l [] (by decide)).1
      generalize uni 15 l [] = U at *
      clear hr hs hk hk1 hrm
      have HG := Lib.hid hg
      go_wp2_with fail
      go_fit (roster_any w1 (hg.below hb1))
      rintro e w2 ⟨g14, cap14, rfl, hge, hlt14, hros, hb2⟩
      have hb := hb1.trans (hb2.mono hb1.size)
      have hown2 := hown.kept (row := none) ⟨hb2.os, hb2.tape, hb2.output, hb2.size, fun k hk _ => hb2.block k hk⟩ (Classical.em _)
      have hne14 : sv.ownBlock ≠ some g14 := fun e => by have := (hown.lt g14 e).2; omega
      clear hg hb1 hb2 hown
      go_upto_block 2 with fail
      obtain ⟨b, hbit⟩ : ∃ b : Nat → Bool, b = bitB given := ⟨_, rfl⟩
      go_cut [13] from 77 to 99 (fun s13 wx => ((s13 = .slice none 0 0 ∧ tgs U b (rs r) = []) ∨ ∃ g cap, s13 = .slice (some ⟨g, 0, none⟩) (tgs U b (rs r)).length cap) ∧ wx.ownsRow w.heap.size 27 2 s13 (tgs U b (rs r)).length (tagCells (tgs U b (rs r))) ∧ Below w.heap.size w wx ∧ s13.ownBlock ≠ some g14 ∧ ∀ k, k < 7 → wx.cell? ⟨g14, k, none⟩ = some (.string (rn k)))
      case first =>
        go_wp2
        go_loopw [13, 15] (fun sv i wr => ∃ k : Nat, k ≤ 7 ∧ i = .int .i64 k ∧ ((sv = .slice none 0 0 ∧ U ++ givL b (rs r) k = []) ∨ ∃ g cap, sv = .slice (some ⟨g, 0, none⟩) (U ++ givL b (rs r) k).length cap) ∧ wr.ownsRow w.heap.size 27 2 sv (U ++ givL b (rs r) k).length (tagCells (U ++ givL b (rs r) k)) ∧ Below w.heap.size w wr ∧ sv.ownBlock ≠ some g14 ∧ (∀ k, k < 7 → wr.cell? ⟨g14, k, none⟩ = some (.string (rn k))) ∧ g14 < wr.heap.size) (fun _ i _ => 7 - (intOf i).toNat)
        case atStart => exact ⟨0, by omega, rfl, by rw [givL_zero, List.append_nil]; exact hform, by rw [givL_zero, List.append_nil]; exact hown2, hb, hne14, hros, hlt14⟩
        case round =>
          clear hform hown2 hb hne14 hros hlt14
          obtain ⟨k, hk, rfl, hform, own, hb, hne, hros, hlt14⟩ := hrel
          by_cases hk7 : k < 7
          · have hk7' : (k : Int) < 7 := by omega
            have hn := hros k hk7
            have HR := Lib.hid hros
            have hzz := hb.size
            have hgl := givL_length b (rs r) k
            have hUk : (U ++ givL b (rs r) k).length ≤ 22 := by rw [List.length_append]; omega
            clear hros hgl
            cases hbk : b k with
            | false =>
              have hv : bits .and .u8 (given / 2 ^ k) 1 = 0 := (bit_val hg0 hg1 k).2 (by rw [← hbit]; exact hbk)
              have HE := Lib.hid (givL_no (rs r) hbk)
              have HF := Lib.hid hform
              have HO := Lib.hid own
              have HN := Lib.hid hne
              clear hbk hform own hne hbit
              go_wp2
              exact ⟨⟨k + 1, by omega, by go_num, by rw [HE.out]; exact HF.out, by rw [HE.out]; exact HO.out, hb, HN.out, HR.out, hlt14⟩, by simp [intOf]; omega⟩
            | true =>
              have hv : bits .and .u8 (given / 2 ^ k) 1 = 1 := (bit_val hg0 hg1 k).1 (by rw [← hbit]; exact hbk)
              have hrl := own.lt
              have HBK := Lib.hid hbk
              have HN := Lib.hid hne
              obtain ⟨i0, hi0, hz0, hz1, hz2⟩ := info_parts infoTag
              clear hbk hform hbit hne
              by_cases hk6 : k = 6
              · have hk6' : ((k : Int) == 6) = true := by rw [hk6]; rfl
                have HV : Hid (gv (rs r) k = rs r) := Lib.hid (by rw [hk6]; rfl)
                clear hk6
                have own1 := (own.alloc (.cells #[.string (rn k), .string (rs r)] 27)).alloc (.cells #[.string (rn k), .string (rs r)] 27)
                go_wp2_with (at_builtin; refine wpList_append_own_at _ rfl _ _ 39 rfl w.heap.size 27 i0 (.agg #[.string ⟨#[]⟩, .string ⟨#[]⟩]) 2 32 Tryz.underlying39 hi0 hz0 hz1 hz2 rfl (by decide) _ _ _ rfl own1 ⟨wr.heap.size + 1, 0, none⟩ 1 1 [.string (rn k), .string (rs r)] rfl rfl (World.news_of_block (cs := #[.string (rn k), .string (rs r)]) (t := 27) (fr := (0, 0)) (heap_alloc2_new wr _ _)) (fun u hu => by simp at hu; rcases hu with rfl | rfl <;> rfl) (by unfold maxLen; omega) (by omega) (by simp; omega) ?_)
                intro vv w6 hown6 hg6 hnil hloc
                have HO7 := Lib.hid (giv_own HBK.out HV.out hown6)
                have HB7 := Lib.hid (((hb.alloc hzz _).alloc (by simp; omega) _).grown hg6 (by simp; omega) (fun k e => (hrl k e).1))
                have HN7 : Hid (vv.ownBlock ≠ some g14) := Lib.hid (by
                  rcases hloc with e | e
                  · rw [e]; exact HN.out
                  · rw [e]; intro e2; simp at e2; omega)
                have HR7 : Hid (∀ k, k < 7 → w6.cell? ⟨g14, k, none⟩ = some (.string (rn k))) := Lib.hid (fun k' hk' => by
                  rw [hg6.cell_far ⟨g14, k', none⟩ (by simp; omega) (fun e => HN.out e.symm), World.cell?_alloc_past _ _ _ (by first | omega | (simp; omega)), World.cell?_alloc_past _ _ _ (by first | omega | (simp; omega))]
                  exact HR.out k' hk')
                have hlt7 : g14 < w6.heap.size := by have := hg6.size; simp at this; omega
                have HL7 := Lib.hid (giv_len (U := U) (word := rs r) HBK.out)
                obtain ⟨gn, cn, hvv⟩ := Joins.ownsRow_form hown6 (by omega)
                clear hown6 hg6 hnil hloc own own1 hb hrl hn
                subst hvv
                go_wp2
                exact ⟨⟨k + 1, by omega, by go_num, Or.inr ⟨gn, cn, by rw [HL7.out]⟩, HO7.out, HB7.out, HN7.out, HR7.out, hlt7⟩, by simp [intOf]; omega⟩
              · have hk6' : ((k : Int) == 6) = false := beq_eq_false_iff_ne.2 (by omega)
                have HV : Hid (gv (rs r) k = sGiven) := Lib.hid (by unfold gv; rw [if_neg hk6])
                clear hk6
                have own1 := (own.alloc (.cells #[.string (rn k), .string sGiven] 27)).alloc (.cells #[.string (rn k), .string sGiven] 27)
                go_wp2_with (at_builtin; refine wpList_append_own_at _ rfl _ _ 39 rfl w.heap.size 27 i0 (.agg #[.string ⟨#[]⟩, .string ⟨#[]⟩]) 2 32 Tryz.underlying39 hi0 hz0 hz1 hz2 rfl (by decide) _ _ _ rfl own1 ⟨wr.heap.size + 1, 0, none⟩ 1 1 [.string (rn k), .string sGiven] rfl rfl (World.news_of_block (cs := #[.string (rn k), .string sGiven]) (t := 27) (fr := (0, 0)) (heap_alloc2_new wr _ _)) (fun u hu => by simp at hu; rcases hu with rfl | rfl <;> rfl) (by unfold maxLen; omega) (by omega) (by simp; omega) ?_)
                intro vv w6 hown6 hg6 hnil hloc
                have HO7 := Lib.hid (giv_own HBK.out HV.out hown6)
                have HB7 := Lib.hid (((hb.alloc hzz _).alloc (by simp; omega) _).grown hg6 (by simp; omega) (fun k e => (hrl k e).1))
                have HN7 : Hid (vv.ownBlock ≠ some g14) := Lib.hid (by
                  rcases hloc with e | e
                  · rw [e]; exact HN.out
                  · rw [e]; intro e2; simp at e2; omega)
                have HR7 : Hid (∀ k, k < 7 → w6.cell? ⟨g14, k, none⟩ = some (.string (rn k))) := Lib.hid (fun k' hk' => by
                  rw [hg6.cell_far ⟨g14, k', none⟩ (by simp; omega) (fun e => HN.out e.symm), World.cell?_alloc_past _ _ _ (by first | omega | (simp; omega)), World.cell?_alloc_past _ _ _ (by first | omega | (simp; omega))]
                  exact HR.out k' hk')
                have hlt7 : g14 < w6.heap.size := by have := hg6.size; simp at this; omega
                have HL7 := Lib.hid (giv_len (U := U) (word := rs r) HBK.out)
                obtain ⟨gn, cn, hvv⟩ := Joins.ownsRow_form hown6 (by omega)
                clear hown6 hg6 hnil hloc own own1 hb hrl hn
                subst hvv
                go_wp2
                exact ⟨⟨k + 1, by omega, by go_num, Or.inr ⟨gn, cn, by rw [HL7.out]⟩, HO7.out, HB7.out, HN7.out, HR7.out, hlt7⟩, by simp [intOf]; omega⟩
          · obtain rfl : k = 7 := by omega
            have HF := Lib.hid hform
            have HO := Lib.hid own
            have HN := Lib.hid hne
            have HR := Lib.hid hros
            clear hform own hne hros hbit
            go_wp2
            go_meet
            exact ⟨HF.out, HO.out, hb, HN.out, HR.out⟩
      case rest =>
        obtain ⟨hform, hown, hb, hne, hros⟩ := hcut
        have hU3 : (tgs U b (rs r)).length ≤ 22 := by
          have := givL_length b (rs r) 7
          unfold tgs
          rw [List.length_append]
          omega
        obtain ⟨oa, cap13, rfl, hoa⟩ : ∃ oa cap13, u13 = .slice oa (tgs U b (rs r)).length cap13 ∧ ((oa = none ∧ cap13 = 0 ∧ tgs U b (rs r) = []) ∨ ∃ g, oa = some ⟨g, 0, none⟩ ∧ g < wc.heap.size ∧ TagRead wc g 0 (tgs U b (rs r))) := by
          rcases hform with ⟨e1, e2⟩ | ⟨g, cap, rfl⟩
          · exact ⟨none, 0, by rw [e1, e2]; rfl, Or.inl ⟨rfl, rfl, e2⟩⟩
          · exact ⟨some ⟨g, 0, none⟩, cap, rfl, Or.inr ⟨g, rfl, (hown.lt g rfl).2, read_row (row_of_own hown)⟩⟩
        have hgw := HG.out.below hb
        have hcall := tgs_call hU hU1 hr4 (b := b) (L := tgs U b (rs r)) (List.Perm.refl _) oa cap13 wc hgw hoa
        generalize hT : tgs U b (rs r) = T at hown hcall hoa hU3 ⊢
        generalize hN : nrm U b (rs r) = N at hcall
        have hNl : N.length = U.length + 7 := by rw [← hN]; exact nrm_length U b (rs r)
        have hNa : 7 ≤ N.length := by omega
        have hNb : N.length ≤ 22 := by omega
        clear hNl
        have HOA := Lib.hid hoa
        have HRS := Lib.hid hros
        have HB := Lib.hid hb
        have HT := Lib.hid hT
        have HN := Lib.hid hN
        clear hform hown hne hoa hros hb hT hN hown2 hne14
        go_wp2_with fail
        go_fit hcall
        clear hcall
        rintro e w3 ⟨hb3, g17, cap17, rfl, hge17, hlt17, hrow17⟩
        have HRO := Lib.hid (read_row hrow17)
        have HB3 := Lib.hid (HB.out.trans (hb3.mono HB.out.size))
        have HBIT := Lib.hid hbit
        have HR3 : Hid (∀ k, k < 7 → w3.cell? ⟨g14, k, none⟩ = some (.string (rn k))) := Lib.hid (fun k hk => cell_later hb3 (HRS.out k hk))
        have HOA3 : Hid ((oa = none ∧ cap13 = 0 ∧ T = []) ∨ ∃ g, oa = some ⟨g, 0, none⟩ ∧ g < w3.heap.size ∧ TagRead w3 g 0 T) := Lib.hid (by
          rcases HOA.out with h | ⟨g, e, hlt, hrd⟩
          · exact Or.inl h
          · exact Or.inr ⟨g, e, Nat.lt_of_lt_of_le hlt hb3.size, hrd.below hb3 hlt⟩)
        clear hb3 hrow17 HOA HRS HB hgw hbit hge17
        clear hform hros hb
        have hN7 : ¬ (N.length : Int) < 7 := by omega
        go_upto_block 4 with fail
        clear hN7
        go_cut [19] from 115 to 165 (fun s19 wx => s19 = .int .i64 (N.length : Int) ∧ Below w3.heap.size w3 wx)
        case first =>
          go_wp2
          go_loopw [19, 20] (fun s19 i wr => ∃ k : Nat, k ≤ 7 ∧ i = .int .i64 k ∧ (∃ m : Nat, m = T.length + (missL b (rs r) k).length ∧ s19 = .int .i64 (m : Int)) ∧ Below w3.heap.size w3 wr) (fun _ i _ => 7 - (intOf i).toNat)
          case atStart => exact ⟨0, by omega, rfl, ⟨T.length, rfl, rfl⟩, Below.refl _ _⟩
          case round =>
            obtain ⟨k, hk, rfl, ⟨m, hm, rfl⟩, hb⟩ := hrel
            have hm30 : m ≤ 30 := by
              have := missL_length b (rs r) k
              omega
            by_cases hk7 : k < 7
            · obtain ⟨e1, e2⟩ := (HRO.out.below hb hlt17) k _ (by rw [← HN.out]; exact nrm_ros b (rs r) hk7)
              rw [Nat.zero_add] at e1 e2
              simp only at e1 e2
              have e3 := cell_later hb (HR3.out k hk7)
              have k7 : (k : Int) < 7 := by omega
              have k0 : (0 : Int) ≤ (k : Int) := by omega
              have kN : (k : Int) < (N.length : Int) := by omega
              cases hbk : b k with
              | true =>
                have hv : bits .and .u8 (given / 2 ^ k) 1 = 1 := (bit_val hg0 hg1 k).1 (by rw [← HBIT.out]; exact hbk)
                have HM := Lib.hid (missL_yes (rs r) hbk)
                have HMM := Lib.hid hm
                clear hbk hm
                generalize wv b (rs r) k = V at e2
                go_wp2_with fail
                go_quiet (fail)
                go_wp2
                exact ⟨⟨k + 1, by omega, by go_num, ⟨m, by rw [HM.out]; exact HMM.out, rfl⟩, below_drewN' hb _⟩, by simp [intOf]; omega⟩
              | false =>
                have hv : bits .and .u8 (given / 2 ^ k) 1 = 0 := (bit_val hg0 hg1 k).2 (by rw [← HBIT.out]; exact hbk)
                have HM : Hid (m + 1 = T.length + (missL b (rs r) (k + 1)).length) := Lib.hid (by rw [missL_no (rs r) hbk, List.length_append, hm]; rfl)
                by_cases hk6 : k < 6
                · obtain ⟨q1, q2⟩ := wv_mark hk6 hbk (rs r)
                  have k6 : (k : Int) < 6 := by omega
                  clear hbk hm
                  generalize wv b (rs r) k = V at e2 q1 q2
                  have he := nonempty_toList V q1
                  have hv0 : (V[0].toNat : Int) = 63 := (byt_eq V 0 q1).trans q2
                  have hvs : (0 : Int) < (V.size : Int) := by omega
                  clear q2
                  go_wp2_with fail
                  go_quiet (fail)
                  go_wp2
                  exact ⟨⟨k + 1, by omega, by go_num, ⟨m + 1, HM.out, by go_num⟩, below_drewN' hb _⟩, by simp [intOf]; omega⟩
                · have k6 : ¬ (k : Int) < 6 := by omega
                  have k6' : decide ((k : Int) < 6) = false := decide_eq_false k6
                  clear hbk hm
                  generalize wv b (rs r) k = V at e2
                  go_wp2_with fail
                  go_quiet (fail)
                  go_wp2
                  exact ⟨⟨k + 1, by omega, by go_num, ⟨m + 1, HM.out, by go_num⟩, below_drewN' hb _⟩, by simp [intOf]; omega⟩
            · obtain rfl : k = 7 := by omega
              have hmN : m = N.length := by
                rw [hm, ← HT.out, ← HN.out]
                exact nrm_count U b (rs r)
              subst hmN
              go_wp2
              go_meet
              exact ⟨rfl, hb⟩
        case rest =>
          obtain ⟨rfl, hb4⟩ := hcut
          have hN6 : (6 : Int) < (N.length : Int) := by omega
          obtain ⟨_, e6⟩ := (HRO.out.below hb4 hlt17) 6 _ (by rw [← HN.out]; exact nrm_ros b (rs r) (by decide))
          simp only [wv_res] at e6
          have HB4 := Lib.hid hb4
          clear hb4
          go_upto_block 6 with fail
          clear hN6 e6
          go_cut [] from 178 to 195 (fun wx => Below w3.heap.size w3 wx)
          case first =>
            go_wp2
            go_loopw [21] (fun i wr => ∃ j : Nat, 7 ≤ j ∧ i = .int .i64 ((j : Int) + 1) ∧ Below w3.heap.size w3 wr) (fun i _ => N.length - (intOf i).toNat)
            case atStart => exact ⟨7, by omega, rfl, HB4.out⟩
            case round =>
              obtain ⟨j, hj, rfl, hb⟩ := hrel
              by_cases hjN : j + 1 < N.length
              · obtain ⟨x, hx⟩ : ∃ x, N[j]? = some x := ⟨_, List.getElem?_eq_getElem (by omega)⟩
                obtain ⟨y, hy⟩ : ∃ y, N[j + 1]? = some y := ⟨_, List.getElem?_eq_getElem hjN⟩
                have hup := bytes_up (nrm_up (i := j + 1) hU b (rs r) (by omega) (by rw [HN.out]; exact hx) (by rw [HN.out]; exact hy))
                obtain ⟨e1, _⟩ := (HRO.out.below hb hlt17) j _ hx
                obtain ⟨e2, _⟩ := (HRO.out.below hb hlt17) (j + 1) _ hy
                rw [Nat.zero_add] at e1 e2
                have j0 : (0 : Int) ≤ (j : Int) := by omega
                have j1 : (j : Int) < (N.length : Int) := by omega
                have j2 : (0 : Int) ≤ (j : Int) + 1 := by omega
                have j3 : (j : Int) + 1 < (N.length : Int) := by omega
                clear hx hy
                go_wp2_with fail
                go_quiet (fail)
                go_wp2
                exact ⟨⟨j + 1, by omega, by go_num, below_drewN' hb _⟩, by simp [intOf]; omega⟩
              · have j3 : ¬ (j : Int) + 1 < (N.length : Int) := by omega
                go_wp2
                go_meet
                exact hb
          case rest =>
            have HB5 : Hid (Below w3.heap.size w3 wc) := Lib.hid hcut
            clear hcut HB4
            go_upto_block 8 with fail
            go_cut [] from 196 to 222 (fun wx => Below w3.heap.size w3 wx)
            case first =>
              go_wp2
              go_loopw [22] (fun i wr => ∃ k : Nat, k ≤ T.length ∧ i = .int .i64 k ∧ Below w3.heap.size w3 wr) (fun i _ => T.length - (intOf i).toNat)
              case atStart => exact ⟨0, by omega, rfl, HB5.out⟩
              case round =>
                obtain ⟨k, hk, rfl, hb⟩ := hrel
                by_cases hkT : k < T.length
                · obtain ⟨t, ht⟩ : ∃ t, T[k]? = some t := ⟨_, List.getElem?_eq_getElem hkT⟩
                  obtain ⟨g13, rfl, hl13, hrd⟩ : ∃ g, oa = some ⟨g, 0, none⟩ ∧ g < w3.heap.size ∧ TagRead w3 g 0 T := by
                    rcases HOA3.out with ⟨_, _, e⟩ | h
                    · rw [e] at hkT; exact absurd hkT (Nat.not_lt_zero _)
                    · exact h
                  obtain ⟨e1, e2⟩ := (hrd.below hb hl13) k _ ht
                  rw [Nat.zero_add] at e1 e2
                  have k0 : (0 : Int) ≤ (k : Int) := by omega
                  have k1 : (k : Int) < (T.length : Int) := by omega
                  have hval : Calls Tryz.prog 23 #[.slice (some ⟨g17, 0, none⟩) N.length cap17, .string t.1] wr fun e w' => e = .returned (.tuple #[.string t.2, .bool true]) ∧ Below wr.heap.size wr w' := by
                    have h := value_any N t.1 g17 0 cap17 wr (HRO.out.below hb hlt17) (Nat.lt_of_lt_of_le hlt17 hb.size) (by omega)
                    obtain ⟨q1, q2⟩ := nrm_val hU b (rs r) (t := t) (by rw [HT.out]; exact List.mem_of_getElem? ht)
                    rw [HN.out] at q1 q2
                    rw [q1, q2] at h
                    exact h
                  clear ht hrd HOA3
                  go_wp2_with fail
                  go_fit hval
                  clear hval
                  rintro e w5 ⟨rfl, hb5⟩
                  have e2' := cell_later hb5 e2
                  have HB6 := Lib.hid (hb.trans (hb5.mono hb.size))
                  clear hb hb5 e1 e2
                  go_wp2
                  exact ⟨⟨k + 1, by omega, by go_num, HB6.out⟩, by simp [intOf]; omega⟩
                · have k1 : ¬ (k : Int) < (T.length : Int) := by omega
                  go_wp2
                  go_meet
                  exact hb
            case rest =>
              have HB6 : Hid (Below w3.heap.size w3 wc) := Lib.hid hcut
              obtain ⟨tn, rfl⟩ : ∃ tn : Nat, turn = (tn : Int) := ⟨turn.toNat, by omega⟩
              clear hcut HB5
              go_upto_block 10 with fail
              go_cut [25] from 223 to 241 (fun s25 wx => ∃ ob c25, s25 = .slice ob T.length c25 ∧ ((ob = none ∧ c25 = 0 ∧ turnK T tn T.length = []) ∨ ∃ g, ob = some ⟨g, 0, none⟩ ∧ g < wx.heap.size ∧ TagRead wx g 0 (turnK T tn T.length)) ∧ Below wc.heap.size wc wx)
              case first =>
                go_wp2
                go_loopw [25, 26] (fun sv i wr => ∃ k : Nat, k ≤ T.length ∧ i = .int .i64 k ∧ ((sv = .slice none 0 0 ∧ k = 0) ∨ ∃ g cap, sv = .slice (some ⟨g, 0, none⟩) k cap) ∧ wr.ownsRow wc.heap.size 27 2 sv k (tagCells (turnK T tn k)) ∧ Below wc.heap.size wc wr) (fun _ i _ => T.length - (intOf i).toNat)
                case atStart => exact ⟨0, by omega, rfl, Or.inl ⟨rfl, rfl⟩, World.ownsRow_nil _ _ _ _, Below.refl _ _⟩
                case round =>
                  obtain ⟨k, hk, rfl, hform, own, hb⟩ := hrel
                  by_cases hkT : k < T.length
                  · obtain ⟨g13, rfl, hl13, hrd⟩ : ∃ g, oa = some ⟨g, 0, none⟩ ∧ g < w3.heap.size ∧ TagRead w3 g 0 T := by
                      rcases HOA3.out with ⟨_, _, e⟩ | h
                      · rw [e] at hkT; exact absurd hkT (Nat.not_lt_zero _)
                      · exact h
                    have hp : (k + tn) % T.length < T.length := Nat.mod_lt _ (by omega)
                    obtain ⟨t, ht⟩ : ∃ t, T[(k + tn) % T.length]? = some t := ⟨_, List.getElem?_eq_getElem hp⟩
                    have HTK : Hid (turnK T tn (k + 1) = turnK T tn k ++ [t]) := Lib.hid (by rw [turnK_succ, List.getD_eq_getElem?_getD, ht]; rfl)
                    obtain ⟨e1, e2⟩ := ((hrd.below HB6.out hl13).below hb (Nat.lt_of_lt_of_le hl13 HB6.out.size)) _ _ ht
                    rw [Nat.zero_add] at e1 e2
                    have hrem : ((k : Int) + (tn : Int)).tmod (T.length : Int) = (((k + tn) % T.length : Nat) : Int) := by
                      rw [← Int.natCast_add, Int.tmod_eq_emod_of_nonneg (by omega), Int.natCast_emod]
                    generalize (k + tn) % T.length = p at hp ht e1 e2 hrem
                    have p0 : (0 : Int) ≤ (p : Int) := by omega
                    have p1 : (p : Int) < (T.length : Int) := by omega
                    have k1 : (k : Int) < (T.length : Int) := by omega
                    have hz : ¬ (T.length : Int) = 0 := by omega
                    have hzz := hb.size
                    have hrl := own.lt
                    obtain ⟨n, v⟩ := t
                    simp only at e1 e2
                    obtain ⟨i0, hi0, hz0, hz1, hz2⟩ := info_parts infoTag
                    have own1 := own.alloc (.cells #[.string n, .string v] 27)
                    clear ht hrd HOA3 hform
                    go_wp2_with (at_builtin; refine wpList_append_own_at _ rfl _ _ 39 rfl wc.heap.size 27 i0 (.agg #[.string ⟨#[]⟩, .string ⟨#[]⟩]) 2 32 Tryz.underlying39 hi0 hz0 hz1 hz2 rfl (by decide) _ _ _ rfl own1 ⟨wr.heap.size, 0, none⟩ 1 1 [.string n, .string v] rfl rfl (World.news_of_block (cs := #[.string n, .string v]) (t := 27) (fr := (0, 0)) (heap_alloc_new wr _)) (fun u hu => by simp at hu; rcases hu with rfl | rfl <;> rfl) (by unfold maxLen; omega) (by omega) (by simp; omega) ?_)
                    intro vv w6 hown6 hg6 hnil hloc
                    have HO7 : Hid (w6.ownsRow wc.heap.size 27 2 vv (k + 1) (tagCells (turnK T tn (k + 1)))) := Lib.hid (by rw [HTK.out, tagCells_append]; exact hown6)
                    have HB7 := Lib.hid ((hb.alloc hzz _).grown hg6 (by simp; omega) (fun k e => (hrl k e).1))
                    obtain ⟨gn, cn, hvv⟩ := Joins.ownsRow_form hown6 (by omega)
                    clear hown6 hg6 hnil hloc own own1 hb hrl
                    subst hvv
                    go_wp2
                    exact ⟨⟨k + 1, by omega, by go_num, Or.inr ⟨gn, cn, rfl⟩, HO7.out, HB7.out⟩, by simp [intOf]; omega⟩
                  · obtain rfl : k = T.length := by omega
                    have k1 : ¬ (T.length : Int) < (T.length : Int) := by omega
                    have HF := Lib.hid hform
                    have HO := Lib.hid own
                    clear hform own
                    go_wp2
                    go_meet
                    rcases HF.out with ⟨rfl, e⟩ | ⟨g, cap, rfl⟩
                    · exact ⟨none, 0, by rw [e], Or.inl ⟨rfl, rfl, by rw [e]; rfl⟩, hb⟩
                    · exact ⟨some ⟨g, 0, none⟩, cap, rfl, Or.inr ⟨g, rfl, (HO.out.lt g rfl).2, read_row (row_of_own (l := turnK T tn T.length) (by rw [turnK_length]; exact HO.out))⟩, hb⟩
              case rest =>
                obtain ⟨ob, c25, rfl, hob, hb⟩ := hcut
                have HB7 := Lib.hid (HB6.out.trans (hb.mono HB6.out.size))
                have hg7 := HG.out.below (HB3.out.trans (HB7.out.mono HB3.out.size))
                have hro7 := HRO.out.below HB7.out hlt17
                have hlt7 : g17 < wc.heap.size := Nat.lt_of_lt_of_le hlt17 HB7.out.size
                have hc1 := nrm_call hU hU1 hr4 b g17 cap17 wc hg7 (by rw [HN.out]; exact hro7) hlt7
                rw [HN.out] at hc1
                have hl7 := turnK_length T tn T.length
                go_wp2_with fail
                go_fit hc1
                clear hc1
                rintro e w8 ⟨hb8, g27, c27, rfl, hge27, hlt27, hrow27⟩
                have hob8 : (ob = none ∧ c25 = 0 ∧ turnK T tn T.length = []) ∨ ∃ g, ob = some ⟨g, 0, none⟩ ∧ g < w8.heap.size ∧ TagRead w8 g 0 (turnK T tn T.length) := by
                  rcases hob with h | ⟨g, e, hlt, hrd⟩
                  · exact Or.inl h
                  · exact Or.inr ⟨g, e, Nat.lt_of_lt_of_le hlt hb8.size, hrd.below hb8 hlt⟩
                have hc2 := tgs_call hU hU1 hr4 (b := b) (L := turnK T tn T.length) (by rw [HT.out]; exact turn_perm T tn) ob c25 w8 (hg7.below hb8) hob8
                rw [hl7, HN.out] at hc2
                clear hob hob8 hl7
                go_wp2_with fail
                go_fit hc2
                clear hc2
                rintro e w9 ⟨hb9, g29, c29, rfl, hge29, hlt29, hrow29⟩
                have HR17 := Lib.hid ((hro7.below hb8 hlt7).below hb9 (Nat.lt_of_lt_of_le hlt7 hb8.size))
                have HR27 := Lib.hid ((read_row hrow27).below hb9 hlt27)
                have HR29 := Lib.hid (read_row hrow29)
                have h17 : g17 < w9.heap.size := Nat.lt_of_lt_of_le hlt7 (Nat.le_trans hb8.size hb9.size)
                have h27 : g27 < w9.heap.size := Nat.lt_of_lt_of_le hlt27 hb9.size
                have hb89 := hb8.trans (hb9.mono hb8.size)
                have HG9 := Lib.hid (hg7.below hb89)
                have HB9 := Lib.hid (HB3.out.trans ((HB7.out.trans (hb89.mono HB7.out.size)).mono HB3.out.size))
                clear hb hb8 hb9 hb89 hro7 hg7 hrow27 hrow29 HR3 HOA3 HB6 HB7 HRO
                go_upto_block 12 with fail
                go_cut [] from 272 to 296 (fun wx => Below w9.heap.size w9 wx)
                case first =>
                  go_wp2
                  go_loopw [31] (fun i wr => ∃ k : Nat, k ≤ N.length ∧ i = .int .i64 k ∧ Below w9.heap.size w9 wr) (fun i _ => N.length - (intOf i).toNat)
                  case atStart => exact ⟨0, by omega, rfl, Below.refl _ _⟩
                  case round =>
                    obtain ⟨k, hk, rfl, hb⟩ := hrel
                    by_cases hkN : k < N.length
                    · obtain ⟨t, ht⟩ : ∃ t, N[k]? = some t := ⟨_, List.getElem?_eq_getElem hkN⟩
                      obtain ⟨a1, a2⟩ := (HR17.out.below hb h17) k _ ht
                      obtain ⟨b1, b2⟩ := (HR27.out.below hb h27) k _ ht
                      obtain ⟨c1, c2⟩ := (HR29.out.below hb hlt29) k _ ht
                      rw [Nat.zero_add] at a1 a2 b1 b2 c1 c2
                      have k0 : (0 : Int) ≤ (k : Int) := by omega
                      have k1 : (k : Int) < (N.length : Int) := by omega
                      have hne := fun W => tag_neq_same W t
                      clear ht
                      go_wp2_with fail
                      go_quiet (fail)
                      go_wp2
                      exact ⟨⟨k + 1, by omega, by go_num, below_drewN' hb _⟩, by simp [intOf]; omega⟩
                    · have k1 : ¬ (k : Int) < (N.length : Int) := by omega
                      go_wp2
                      go_meet
                      exact hb
                case rest =>
                  have hgx := HG9.out.below hcut
                  have hbx := HB9.out.trans (hcut.mono HB9.out.size)
                  clear hcut HR17 HR27 HR29
                  go_wp2_with fail
                  go_fit (works_any _ hgx)
                  rintro e wz ⟨rfl, hbz⟩
                  have hfin := hbx.trans (hbz.mono hbx.size)
                  clear hbx hbz
                  go_wp2_with fail
                  go_ret
                  exact ⟨rfl, hfin⟩
end Go.Proofs.YtogcepiofpmabaaGreatDoor
