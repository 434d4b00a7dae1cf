/- Contract of the reference's Check. -/
import Derived.Test.YtogcepiofpmabaaGreatDoorAscii
import Derived.Outline
namespace Go.Proofs.YtogcepiofpmabaaGreatDoor
open Go.RowKit Go.Lib

set_option maxHeartbeats 400000 in
theorem rletter_any (c : Int) (w : World) :
    Calls Tryz.prog 29 #[.int .u8 c] w fun e w' => e = .returned (.bool (letB c)) ∧ w = w' := by
  unfold letB
  by_cases h1 : 65 ≤ c <;> by_cases h2 : c ≤ 90 <;> by_cases h3 : 97 ≤ c <;> by_cases h4 : c ≤ 122 <;> first | omega | skip
  all_goals
    go_enter Tryz.func29, Tryz.ntmps29
    go_wp2
    go_ret
    exact ⟨by simp [h1, h2, h3, h4], rfl⟩

/-- All bytes ahead of a place pass a test. -/
def upTo (p : Int → Bool) (s : ByteArray) (k : Nat) : Prop := ∀ j, j < k → p (byt s j) = true
theorem upTo_zero (p : Int → Bool) (s : ByteArray) : upTo p s 0 := fun j h => absurd h (Nat.not_lt_zero j)
theorem upTo_succ {p : Int → Bool} {s : ByteArray} {k : Nat} (h : upTo p s k) (hk : p (byt s k) = true) : upTo p s (k + 1) := fun j hj => by
  rcases Nat.lt_succ_iff_lt_or_eq.1 hj with h' | rfl
  · exact h j h'
  · exact hk
theorem checkE_name {n v : ByteArray} (h : nameB n = false) : checkE n v = 2 := by unfold checkE; rw [h]; rfl
theorem checkE_val {n v : ByteArray} (h : printB v = false) : checkE n v = 2 := by unfold checkE; rw [h, Bool.and_false]; rfl
theorem checkE_long {n v : ByteArray} (h1 : nameB n = true) (h2 : printB v = true) (h : 32 < n.size ∨ 120 < v.size) : checkE n v = 9 := by unfold checkE; rw [h1, h2, Bool.and_self, if_pos rfl, if_pos h]
theorem checkE_ok {n v : ByteArray} (h1 : nameB n = true) (h2 : printB v = true) (h : ¬ (32 < n.size ∨ 120 < v.size)) : checkE n v = 0 := by unfold checkE; rw [h1, h2, Bool.and_self, if_pos rfl, if_neg h]
theorem ret_e {a b : Int} (h : a = b) : Ending.returned (.int .i64 a) = .returned (.int .i64 b) := by rw [h]

set_option maxRecDepth 100000 in
set_option maxHeartbeats 4000000 in
theorem rcheck_any (n v : ByteArray) (w : World) (hn : n.size ≤ maxLen) (hv : v.size ≤ maxLen) :
    Calls Tryz.prog 20 #[.agg #[.string n, .string v]] w fun e w' => e = .returned (.int .i64 (checkE n v)) ∧ Below w.heap.size w w' := by
  unfold maxLen at hn hv
  have hbw : ∀ o, Below w.heap.size w (w.alloc o) := fun o => (Below.refl _ _).alloc (Nat.le_refl _) _
  by_cases hn0 : n.size = 0
  · have HE := Lib.hid (checkE_name (v := v) (nameB_none n hn0))
    have he := empty_toList n hn0
    clear hn0
    go_enter Tryz.func20, Tryz.ntmps20
    go_wp2
    go_ret
    exact ⟨ret_e HE.out.symm, hbw _⟩
  have he := nonempty_toList n (by omega)
  have hp0 : 0 < n.size := by omega
  have b0 := byt_eq n 0 hp0
  cases hl0 : letB (byt n 0) with
  | false =>
    have HE := Lib.hid (checkE_name (v := v) (nameB_first n hp0 hl0))
    go_enter Tryz.func20, Tryz.ntmps20
    go_wp2_with (go_at_call 29; refine (rletter_any _ _).mono ?_; (first | rw [hl0] | rw [b0, hl0]); rintro e w' ⟨rfl, rfl⟩)
    go_ret
    exact ⟨ret_e HE.out.symm, hbw _⟩
  | true =>
    go_enter Tryz.func20, Tryz.ntmps20
    go_wp2_with (go_at_call 29; refine (rletter_any _ _).mono ?_; (first | rw [hl0] | rw [b0, hl0]); rintro e w' ⟨rfl, rfl⟩)
    clear b0
    go_loop [3] (fun i => ∃ k : Nat, k ≤ n.size ∧ i = .int .i64 k ∧ upTo okR n k) (fun i => n.size - (intOf i).toNat)
    case atStart => exact ⟨0, Nat.zero_le _, rfl, upTo_zero _ n⟩
    case round =>
      obtain ⟨k, hk, rfl, hgood⟩ := hrel
      have HG := Lib.hid hgood
      clear hgood
      by_cases hlt : k < n.size
      · have HC := Lib.hid (byt_eq n k hlt)
        have hb0 : 0 ≤ (n[k].toNat : Int) := by omega
        have hb1 : (n[k].toNat : Int) < 256 := by have := n[k].toNat_lt; omega
        by_cases hl : letB (n[k].toNat : Int) = true
        · have HG2 := Lib.hid (upTo_succ HG.out (by rw [← byt_eq n k hlt]; unfold okR; rw [hl]; rfl))
          go_wp2_with (go_at_call 29; refine (rletter_any _ _).mono ?_; rintro e w' ⟨rfl, rfl⟩)
          exact ⟨⟨k + 1, by omega, by go_num, HG2.out⟩, by simp [intOf]; omega⟩
        · simp only [Bool.not_eq_true] at hl
          by_cases h1 : (n[k].toNat : Int) < 48
          · have h2 : ((n[k].toNat : Int) != 95) = true := by rw [bne_iff_ne]; omega
            have HE := Lib.hid (checkE_name (v := v) (nameB_later n k hlt (by rw [← byt_eq n k hlt]; unfold okR; rw [hl]; simp; omega)))
            go_wp2_with (go_at_call 29; refine (rletter_any _ _).mono ?_; rintro e w' ⟨rfl, rfl⟩)
            go_ret
            exact ⟨ret_e HE.out.symm, hbw _⟩
          · by_cases h2 : 57 < (n[k].toNat : Int)
            · by_cases h3 : (n[k].toNat : Int) = 95
              · have h4 : ((n[k].toNat : Int) != 95) = false := by rw [bne_eq_false_iff_eq]; exact h3
                have HG2 := Lib.hid (upTo_succ HG.out (by rw [← byt_eq n k hlt]; unfold okR; rw [hl]; simp; omega))
                clear h3
                go_wp2_with (go_at_call 29; refine (rletter_any _ _).mono ?_; rintro e w' ⟨rfl, rfl⟩)
                exact ⟨⟨k + 1, by omega, by go_num, HG2.out⟩, by simp [intOf]; omega⟩
              · have h4 : ((n[k].toNat : Int) != 95) = true := by rw [bne_iff_ne]; exact h3
                have HE := Lib.hid (checkE_name (v := v) (nameB_later n k hlt (by rw [← byt_eq n k hlt]; unfold okR; rw [hl]; simp; omega)))
                clear h3
                go_wp2_with (go_at_call 29; refine (rletter_any _ _).mono ?_; rintro e w' ⟨rfl, rfl⟩)
                go_ret
                exact ⟨ret_e HE.out.symm, hbw _⟩
            · have HG2 := Lib.hid (upTo_succ HG.out (by rw [← byt_eq n k hlt]; unfold okR; rw [hl]; simp; omega))
              go_wp2_with (go_at_call 29; refine (rletter_any _ _).mono ?_; rintro e w' ⟨rfl, rfl⟩)
              exact ⟨⟨k + 1, by omega, by go_num, HG2.out⟩, by simp [intOf]; omega⟩
      · have hkn : k = n.size := by omega
        subst hkn
        have HN := Lib.hid (nameB_all n hp0 hl0 HG.out)
        go_wp2
        go_loop [5] (fun i => ∃ k : Nat, k ≤ v.size ∧ i = .int .i64 k ∧ upTo okP v k) (fun i => v.size - (intOf i).toNat)
        case atStart => exact ⟨0, Nat.zero_le _, rfl, upTo_zero _ v⟩
        case round =>
          obtain ⟨k, hk, rfl, hgood⟩ := hrel
          have HV := Lib.hid hgood
          clear hgood
          by_cases hlt : k < v.size
          · have HC := Lib.hid (byt_eq v k hlt)
            have hb0 : 0 ≤ (v[k].toNat : Int) := by omega
            by_cases h1 : (v[k].toNat : Int) < 32
            · have HE := Lib.hid (checkE_val (n := n) (printB_bad v k hlt (by rw [← byt_eq v k hlt, okP_false]; omega) HV.out))
              go_wp2
              go_ret
              exact ⟨ret_e HE.out.symm, hbw _⟩
            · by_cases h2 : 126 < (v[k].toNat : Int)
              · have HE := Lib.hid (checkE_val (n := n) (printB_bad v k hlt (by rw [← byt_eq v k hlt, okP_false]; omega) HV.out))
                go_wp2
                go_ret
                exact ⟨ret_e HE.out.symm, hbw _⟩
              · have HV2 := Lib.hid (upTo_succ HV.out (by rw [← byt_eq v k hlt, okP_iff]; omega))
                go_wp2
                exact ⟨⟨k + 1, by omega, by go_num, HV2.out⟩, by simp [intOf]; omega⟩
          · have hkv : k = v.size := by omega
            subst hkv
            have HP := Lib.hid (printB_good v HV.out)
            by_cases h3 : (32 : Int) < (n.size : Int)
            · have HE := Lib.hid (checkE_long HN.out HP.out (Or.inl (by omega)))
              go_wp2
              go_ret
              exact ⟨ret_e HE.out.symm, hbw _⟩
            · by_cases h4 : (120 : Int) < (v.size : Int)
              · have HE := Lib.hid (checkE_long HN.out HP.out (Or.inr (by omega)))
                go_wp2
                go_ret
                exact ⟨ret_e HE.out.symm, hbw _⟩
              · have HE := Lib.hid (checkE_ok HN.out HP.out (by omega))
                go_wp2
                go_ret
                exact ⟨ret_e HE.out.symm, hbw _⟩
end Go.Proofs.YtogcepiofpmabaaGreatDoor
