/- A string's bytes are printable exactly if its runes are. -/
import Derived.Test.YtogcepiofpmabaaGreatDoorCheck
import Derived.Laws.RangeString
import Derived.Laws.RangeAny
namespace Go.Proofs.YtogcepiofpmabaaGreatDoor
open Go.RowKit Go.Lib

/-- Is a byte printable? -/
def okP (c : Int) : Bool := decide (32 ≤ c) && decide (c ≤ 126)
theorem okP_iff (c : Int) : okP c = true ↔ 32 ≤ c ∧ c ≤ 126 := by unfold okP; simp
theorem okP_false (c : Int) : okP c = false ↔ c < 32 ∨ 126 < c := by
  rw [← Bool.not_eq_true, okP_iff]; omega
theorem oddR_iff (r : Nat) : oddR r = true ↔ (r : Int) < 32 ∨ 126 < (r : Int) := by unfold oddR; simp

theorem odd_good (s : ByteArray) (pos : Nat) (h : pos < s.size) (hg : okP (byt s pos) = true) : oddR (Utf8.decode s pos).1 = false ∧ (Utf8.decode s pos).2 = 1 := by
  rw [okP_iff, ← byt_eq s pos h] at hg
  rw [decode_ascii s pos h (by omega)]
  refine ⟨?_, rfl⟩
  rw [← Bool.not_eq_true, oddR_iff]
  simp only
  omega
theorem odd_bad (s : ByteArray) (pos : Nat) (h : pos < s.size) (hg : okP (byt s pos) = false) : oddR (Utf8.decode s pos).1 = true := by
  rw [okP_false, ← byt_eq s pos h] at hg
  rw [oddR_iff]
  by_cases ha : (s[pos]'h).toNat < 128
  · rw [decode_ascii s pos h ha]
    simp only
    omega
  · have := (decode_high s pos h (by omega)).1
    omega
theorem idx_good (s : ByteArray) (hg : ∀ j, j < s.size → okP (byt s j) = true) : ∀ f pos, idxFuncFrom oddR true s f pos = -1
  | 0, _ => rfl
  | f + 1, pos => by
    unfold idxFuncFrom
    by_cases h : pos < s.size
    · obtain ⟨h1, _⟩ := odd_good s pos h (hg pos h)
      rw [if_pos h, h1, if_neg (by decide)]
      exact idx_good s hg f _
    · rw [if_neg h]
theorem idx_bad (s : ByteArray) (k : Nat) (hk : k < s.size) (hb : okP (byt s k) = false) (hg : ∀ j, j < k → okP (byt s j) = true) : ∀ f pos, pos ≤ k → k < pos + f → idxFuncFrom oddR true s f pos = k
  | 0, _, h1, h2 => absurd h2 (by omega)
  | f + 1, pos, h1, h2 => by
    unfold idxFuncFrom
    rw [if_pos (show pos < s.size by omega)]
    by_cases h : pos = k
    · subst h
      rw [odd_bad s pos hk hb, if_pos rfl]
    · obtain ⟨e1, e2⟩ := odd_good s pos (by omega) (hg pos (by omega))
      rw [e1, if_neg (by decide), e2]
      exact idx_bad s k hk hb hg f (pos + 1) (by omega) (by omega)
theorem printB_good (s : ByteArray) (hg : ∀ j, j < s.size → okP (byt s j) = true) : printB s = true := by
  unfold printB idxFunc
  rw [idx_good s hg]
  rfl
theorem printB_bad (s : ByteArray) (k : Nat) (hk : k < s.size) (hb : okP (byt s k) = false) (hg : ∀ j, j < k → okP (byt s j) = true) : printB s = false := by
  unfold printB idxFunc
  rw [idx_bad s k hk hb hg s.size 0 (Nat.zero_le _) (by omega)]
  simp
/-- What the reference looks at in a name. -/
def okR (c : Int) : Bool := letB c || (decide (48 ≤ c) && decide (c ≤ 57)) || decide (c = 95)
theorem nameB_first (s : ByteArray) (h : 0 < s.size) (hl : letB (byt s 0) = false) : nameB s = false :=
  nameB_bad s 0 h (by unfold okC; rw [hl]; simp)
theorem nameB_later (s : ByteArray) (k : Nat) (hk : k < s.size) (hb : okR (byt s k) = false) : nameB s = false := by
  refine nameB_bad s k hk ?_
  unfold okR at hb
  unfold okC
  generalize letB (byt s k) = a at hb ⊢
  cases a <;> simp at hb ⊢
  intro _
  exact hb
theorem nameB_all (s : ByteArray) (h0 : 0 < s.size) (hl : letB (byt s 0) = true) (h : ∀ j, j < s.size → okR (byt s j) = true) : nameB s = true := by
  refine nameB_good s (fun j hj => ?_) h0
  by_cases h1 : j = 0
  · subst h1
    unfold okC
    rw [hl]
    rfl
  · have := h j hj
    unfold okR at this
    unfold okC
    simp only [h1, not_false_eq_true, decide_true, Bool.true_and, ne_eq]
    rw [← Bool.or_assoc]
    exact this
end Go.Proofs.YtogcepiofpmabaaGreatDoor
