/- Closed facts: what tag.Normal answers at the examples of the law's function works. -/
import Derived.Test.YtogcepiofpmabaaGreatDoorNormal
import Derived.Test.YtogcepiofpmabaaGreatDoorPrint
namespace Go.Proofs.YtogcepiofpmabaaGreatDoor
open Go.RowKit Go.Lib

abbrev nZZ : ByteArray := ⟨#[90, 90]⟩
abbrev nWhite : ByteArray := ⟨#[87, 104, 105, 116, 101]⟩
abbrev nAnn : ByteArray := ⟨#[65, 110, 110, 111, 116, 97, 116, 111, 114]⟩
abbrev vMe : ByteArray := ⟨#[109, 101]⟩
abbrev vYou : ByteArray := ⟨#[121, 111, 117]⟩
def l1 : List Tag := [(nZZ, sOne), (nWhite, vMe), (nAnn, vYou)]
/-- The tags wanted. -/
def lw : List Tag := [(⟨#[69, 118, 101, 110, 116]⟩, ⟨#[63]⟩), (⟨#[83, 105, 116, 101]⟩, ⟨#[63]⟩), (⟨#[68, 97, 116, 101]⟩, ⟨#[63, 63, 63, 63, 46, 63, 63, 46, 63, 63]⟩), (⟨#[82, 111, 117, 110, 100]⟩, ⟨#[63]⟩), (⟨#[87, 104, 105, 116, 101]⟩, ⟨#[109, 101]⟩), (⟨#[66, 108, 97, 99, 107]⟩, ⟨#[63]⟩), (⟨#[82, 101, 115, 117, 108, 116]⟩, ⟨#[49, 45, 48]⟩), (⟨#[65, 110, 110, 111, 116, 97, 116, 111, 114]⟩, ⟨#[121, 111, 117]⟩), (⟨#[90, 90]⟩, ⟨#[49]⟩)]

/-- The order, for the list's laws. -/
def leT (x y : Tag) : Prop := (!tlt y.1 x.1) = true
/-- A row of tags with different names, in the order of their names, is what the sort leaves. -/
theorem sort_eq (l m : List Tag) (hn : (l.map (·.1)).Nodup) (hp : m.Perm l) (hs : List.Pairwise leT m) : sortTags l = m := by
  unfold sortTags
  refine List.Perm.eq_of_pairwise (le := leT) ?_ ?_ hs ((List.mergeSort_perm _ _).trans hp.symm)
  · intro a b ha hb h1 h2
    unfold leT at h1 h2
    simp only [Bool.not_eq_true'] at h1 h2
    have e : a.1 = b.1 := tlt_total _ _ h2 h1
    have e1 := valOf_mem l hn a ((List.mergeSort_perm _ _).mem_iff.1 ha)
    have e2 := valOf_mem l hn b (hp.mem_iff.1 hb)
    rw [e] at e1
    exact Prod.ext e (e1.symm.trans e2)
  · refine List.pairwise_mergeSort ?_ ?_ _
    · intro a b c h1 h2
      simp only [Bool.not_eq_true'] at h1 h2 ⊢
      exact tlt_swo.ntrans _ _ _ h2 h1
    · intro a b
      cases h : tlt b.1 a.1 with
      | false => simp
      | true => simp [tlt_swo.asymmA h]

/-- A list is sorted, told by a test. -/
def ordB : List Tag → Bool
  | [] => true
  | x :: r => (r.all fun y => !tlt y.1 x.1) && ordB r
theorem ord_of_b : ∀ {m : List Tag}, ordB m = true → m.Pairwise leT
  | [], _ => List.Pairwise.nil
  | x :: r, h => by
    unfold ordB at h
    rw [Bool.and_eq_true, List.all_eq_true] at h
    exact List.Pairwise.cons h.1 (ord_of_b h.2)
def difB : List Tag → Bool
  | [] => true
  | x :: r => !hasN r x.1 && difB r
theorem dif_of_b : ∀ {l : List Tag}, difB l = true → (l.map (·.1)).Nodup
  | [], _ => List.nodup_nil
  | x :: r, h => by
    unfold difB at h
    rw [Bool.and_eq_true, Bool.not_eq_true'] at h
    rw [List.map_cons, List.nodup_cons]
    refine ⟨fun hm => ?_, dif_of_b h.2⟩
    have := (hasN_iff r x.1).2 hm
    rw [h.1] at this
    exact Bool.noConfusion this
def goodB (l : List Tag) : Bool := l.all fun t => checkE t.1 t.2 == 0
theorem good_of_b {l : List Tag} (h : goodB l = true) : Good l := fun t ht => by
  unfold goodB at h
  rw [List.all_eq_true] at h
  exact eq_of_beq (h t ht)
def smallB (l : List Tag) : Bool := l.all fun t => decide (t.1.size ≤ 300) && decide (t.2.size ≤ 300)
theorem sized_of_b {l : List Tag} (h : smallB l = true) : Sized l := fun t ht => by
  unfold smallB at h
  rw [List.all_eq_true] at h
  have := h t ht
  rw [Bool.and_eq_true, decide_eq_true_iff, decide_eq_true_iff] at this
  unfold maxLen
  omega

theorem f1 : goodB l1 = true := by kernel_rfl
theorem f2 : smallB l1 = true := by kernel_rfl
theorem f3 : difB l1 = true := by kernel_rfl
theorem f4 : (full l1 (rs 1)).length = 9 := by kernel_rfl
theorem f5 : stateB l1 (rs 1) = false := by kernel_rfl
theorem f6 : hasN l1 nFen = false := by kernel_rfl
theorem f7 : difB (full l1 (rs 1)) = true := by kernel_rfl
theorem f8 : ordB lw = true := by kernel_rfl
theorem f9 : @List.isPerm Tag instBEqOfDecidableEq lw (full l1 (rs 1)) = true := by kernel_rfl
/-- The first example. -/
theorem norm1 : normS l1 (rs 1) = .ok lw := by
  unfold normS
  rw [f4, if_neg (by decide), f5, if_neg Bool.false_ne_true, f6, if_neg Bool.false_ne_true, sort_eq _ lw (dif_of_b f7) ((@List.isPerm_iff Tag instBEqOfDecidableEq inferInstance _ _).1 f9) (ord_of_b f8)]

/-- The other examples. -/
def l2 : List Tag := [(nRes, ⟨#[49, 45, 48]⟩)]
def l3 : List Tag := [(nSet, sOne)]
def l4 : List Tag := [(nFen, ⟨#[120]⟩)]
abbrev nA : ByteArray := ⟨#[65]⟩
def l5 : List Tag := [(nA, sOne), (nA, sOne)]
theorem g2 : (goodB l2 && smallB l2 && difB l2 && !hasN l2 nFen) = true := by kernel_rfl
theorem g3 : (goodB l3 && smallB l3 && difB l3 && !hasN l3 nFen) = true := by kernel_rfl
theorem g4 : (goodB l4 && smallB l4 && difB l4) = true := by kernel_rfl
theorem g4' : ((((Lib.countB (valOf l4 nFen) spc : Nat) : Int) + 1) != 6) = true := by kernel_rfl
theorem g4'' : (valOf l4 nFen).size = 1 := by kernel_rfl
theorem g5 : (goodB l5 && smallB l5 && !difB l5) = true := by kernel_rfl
theorem norm2 : normS l2 (rs 3) = .err 7 := by kernel_rfl
theorem norm3 : normS l3 (rs 0) = .err 7 := by kernel_rfl
theorem norm4 : normS l4 (rs 0) = .err 15 := by kernel_rfl
theorem chk1 : checkE ⟨#[49, 115, 116]⟩ ⟨#[]⟩ = 2 := by kernel_rfl
theorem chk2 : checkE nWhite ⟨#[97, 32, 34, 98, 34]⟩ = 0 := by kernel_rfl
theorem prt1 : tagS nWhite ⟨#[97, 32, 34, 98, 34]⟩ = ⟨#[91, 87, 104, 105, 116, 101, 32, 34, 97, 32, 92, 34, 98, 92, 34, 34, 93]⟩ := by kernel_rfl
end Go.Proofs.YtogcepiofpmabaaGreatDoor
