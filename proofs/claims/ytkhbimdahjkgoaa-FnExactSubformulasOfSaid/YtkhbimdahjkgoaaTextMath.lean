/- Plain theory: the text of a formula's tree. No program is named here. -/
import Derived.Test.YtkhbimdahjkgoaaPlain
namespace Go.Proofs.Ytkhbimdahjkgoaa
open Go.RowKit Go.Deep

def falsT : Tr → Bool
  | .nil => false
  | .node _ _ n _ _ => decide (n.1 = 1)
/-- The level of the grammar at which a tree's text stands. -/
def ownT : Tr → Int
  | .nil => 3
  | .node _ _ n _ r => if n.1 = 4 then (if falsT r then 3 else 0) else if n.1 = 3 then 1 else if n.1 = 2 then 2 else 3
def letter (y : Int) : ByteArray := (ByteArray.mk #[112, 113, 114, 115, 116, 117]).extract y.toNat (y.toNat + 1)
def wrapS (b : Bool) (s : ByteArray) : ByteArray := if b then ByteArray.mk #[40] ++ s ++ ByteArray.mk #[41] else s
def txtB : Tr → ByteArray
  | .nil => ByteArray.mk #[]
  | .node _ _ n l r =>
    if n.1 = 0 then letter n.2
    else if n.1 = 1 then ByteArray.mk #[70]
    else if n.1 = 2 then wrapS (decide (ownT l < 2)) (txtB l) ++ ByteArray.mk #[38] ++ wrapS (decide (ownT r < 3)) (txtB r)
    else if n.1 = 3 then wrapS (decide (ownT l < 1)) (txtB l) ++ ByteArray.mk #[124] ++ wrapS (decide (ownT r < 2)) (txtB r)
    else if n.1 = 5 then ByteArray.mk #[91, 93] ++ wrapS (decide (ownT l < 3)) (txtB l)
    else if n.1 = 6 then ByteArray.mk #[60, 62] ++ wrapS (decide (ownT l < 3)) (txtB l)
    else if falsT r then (if falsT l then ByteArray.mk #[84] else ByteArray.mk #[126] ++ wrapS (decide (ownT l < 3)) (txtB l))
    else wrapS (decide (ownT l < 1)) (txtB l) ++ ByteArray.mk #[62] ++ wrapS (decide (ownT r < 0)) (txtB r)
/-- The text of a tree at a level. -/
def txt (t : Tr) (lev : Int) : ByteArray := wrapS (decide (ownT t < lev)) (txtB t)

def goodT (t : Tr) : Prop := ∀ n ∈ flat t, nodeB n = true
theorem goodT_left {b o : Nat} {n : Nd} {l r : Tr} (h : goodT (.node b o n l r)) : goodT l := fun m hm => h m (by simp [flat, hm])
theorem goodT_right {b o : Nat} {n : Nd} {l r : Tr} (h : goodT (.node b o n l r)) : goodT r := fun m hm => h m (by simp [flat, hm])

/-- A good tree's cases. -/
theorem good_cases {b o : Nat} {x y : Int} {l r : Tr} (ht : okT (.node b o (x, y) l r)) (h : goodT (.node b o (x, y) l r)) :
    (x = 0 ∧ l = .nil ∧ r = .nil ∧ 0 ≤ y ∧ y ≤ 5) ∨ (x = 1 ∧ y = 0 ∧ l = .nil ∧ r = .nil) ∨ ((x = 2 ∨ x = 3 ∨ x = 4) ∧ y = 0 ∧ okT l ∧ okT r) ∨ ((x = 5 ∨ x = 6) ∧ y = 0 ∧ okT l ∧ r = .nil) := by
  have h1 := h (x, y) (by simp [flat])
  unfold nodeB at h1
  by_cases hx : x = 0
  · subst hx
    simp at h1
    rcases ht with ⟨_, a, b⟩ | ⟨a, _⟩ | ⟨a, _⟩
    · exact .inl ⟨rfl, a, b, h1⟩
    · simp [ar] at a
    · simp [ar] at a
  · simp [hx] at h1
    have hx : x = 1 ∨ x = 2 ∨ x = 3 ∨ x = 4 ∨ x = 5 ∨ x = 6 := by omega
    rcases hx with rfl | rfl | rfl | rfl | rfl | rfl
    · rcases ht with ⟨_, a, b⟩ | ⟨a, _⟩ | ⟨a, _⟩
      · exact .inr (.inl ⟨rfl, h1.2, a, b⟩)
      · simp [ar] at a
      · simp [ar] at a
    iterate 3
      rcases ht with ⟨a, _⟩ | ⟨a, _⟩ | ⟨_, a, b⟩
      · simp [ar] at a
      · simp [ar] at a
      · exact .inr (.inr (.inl ⟨by omega, h1.2, a, b⟩))
    iterate 2
      rcases ht with ⟨a, _⟩ | ⟨_, a, b⟩ | ⟨a, _⟩
      · simp [ar] at a
      · exact .inr (.inr (.inr ⟨by omega, h1.2, a, b⟩))
      · simp [ar] at a

theorem good_tree {ns : List Nd} (h : formB ns = true) : okT (treeOf ns) ∧ flat (treeOf ns) = ns ∧ goodT (treeOf ns) ∧ ns.length ≤ 40 := by
  obtain ⟨h3, h4⟩ := treeOf_spec h
  simp only [formB, Bool.and_eq_true, decide_eq_true_eq] at h
  exact ⟨h3, h4, fun n hn => List.all_eq_true.1 h.1.2 n (h4 ▸ hn), h.1.1.2⟩

theorem bsz (a : Array UInt8) : (ByteArray.mk a).size = a.size := rfl
theorem wrapS_size (b : Bool) (s : ByteArray) : (wrapS b s).size ≤ s.size + 2 := by
  unfold wrapS
  split
  · simp [bsz]; omega
  · omega

theorem letter_size (y : Int) (h0 : 0 ≤ y) (h5 : y ≤ 5) : (letter y).size = 1 := by
  have : y = 0 ∨ y = 1 ∨ y = 2 ∨ y = 3 ∨ y = 4 ∨ y = 5 := by omega
  rcases this with rfl | rfl | rfl | rfl | rfl | rfl <;> decide

theorem txtB_size (t : Tr) (ht : okT t) (hg : goodT t) : (txtB t).size + 2 ≤ 4 * (flat t).length := by
  induction t with
  | nil => exact ht.elim
  | node b o n l r ihl ihr =>
    obtain ⟨x, y⟩ := n
    have hlen : (flat (.node b o (x, y) l r)).length = 1 + (flat l).length + (flat r).length := by simp [flat]; omega
    rw [hlen]
    rcases good_cases ht hg with ⟨rfl, rfl, rfl, y0, y5⟩ | ⟨rfl, rfl, rfl, rfl⟩ | ⟨hx, rfl, h2, h3⟩ | ⟨hx, rfl, h2, rfl⟩
    · have := letter_size y y0 y5
      simp [txtB, flat, bsz]; omega
    · simp [txtB, flat, bsz]
    · have h4 := ihl h2 (goodT_left hg)
      have h5 := ihr h3 (goodT_right hg)
      have w1 := fun b => wrapS_size b (txtB l)
      have w2 := fun b => wrapS_size b (txtB r)
      rcases hx with rfl | rfl | rfl
      · have := w1 (decide (ownT l < 2)); have := w2 (decide (ownT r < 3))
        simp [txtB, bsz]; omega
      · have := w1 (decide (ownT l < 1)); have := w2 (decide (ownT r < 2))
        simp [txtB, bsz]; omega
      · have := w1 (decide (ownT l < 1)); have := w2 (decide (ownT r < 0)); have := w1 (decide (ownT l < 3))
        simp only [txtB]
        rw [if_neg (by omega), if_neg (by omega), if_neg (by omega), if_neg (by omega), if_neg (by omega), if_neg (by omega)]
        split
        · split
          · simp [bsz]; omega
          · simp [bsz]; omega
        · simp [bsz]; omega
    · have h4 := ihl h2 (goodT_left hg)
      have w1 := wrapS_size (decide (ownT l < 3)) (txtB l)
      rcases hx with rfl | rfl <;> (simp [txtB, bsz]; omega)

theorem txt_size (t : Tr) (lev : Int) (ht : okT t) (hg : goodT t) : (txt t lev).size ≤ 4 * (flat t).length := by
  have h1 := txtB_size t ht hg
  have h2 := wrapS_size (decide (ownT t < lev)) (txtB t)
  unfold txt
  omega

theorem ownT_bounds (t : Tr) : 0 ≤ ownT t ∧ ownT t ≤ 3 := by
  cases t with
  | nil => simp [ownT]
  | node b o n l r => simp only [ownT]; split <;> (try split) <;> (try split) <;> omega

theorem txt_in {t : Tr} {lev : Int} (h : ¬ ownT t < lev) : txt t lev = txtB t := by simp [txt, wrapS, h]
theorem txt_out {t : Tr} {lev : Int} (h : ownT t < lev) : txt t lev = ByteArray.mk #[40] ++ txtB t ++ ByteArray.mk #[41] := by simp [txt, wrapS, h]
theorem txt_zero (t : Tr) : txt t 0 = txtB t := txt_in (by have := ownT_bounds t; omega)

section
variable {b o : Nat} {y : Int} {l r : Tr}
theorem txtB_var : txtB (.node b o (0, y) l r) = letter y := by simp [txtB]
theorem txtB_false : txtB (.node b o (1, y) l r) = ByteArray.mk #[70] := by simp [txtB]
theorem txtB_and : txtB (.node b o (2, y) l r) = txt l 2 ++ ByteArray.mk #[38] ++ txt r 3 := by simp [txtB, txt]
theorem txtB_or : txtB (.node b o (3, y) l r) = txt l 1 ++ ByteArray.mk #[124] ++ txt r 2 := by simp [txtB, txt]
theorem txtB_box : txtB (.node b o (5, y) l r) = ByteArray.mk #[91, 93] ++ txt l 3 := by simp [txtB, txt]
theorem txtB_dia : txtB (.node b o (6, y) l r) = ByteArray.mk #[60, 62] ++ txt l 3 := by simp [txtB, txt]
theorem txtB_true (h : falsT r = true) (h2 : falsT l = true) : txtB (.node b o (4, y) l r) = ByteArray.mk #[84] := by simp [txtB, h, h2]
theorem txtB_not (h : falsT r = true) (h2 : falsT l = false) : txtB (.node b o (4, y) l r) = ByteArray.mk #[126] ++ txt l 3 := by simp [txtB, txt, h, h2]
theorem txtB_imp (h : falsT r = false) : txtB (.node b o (4, y) l r) = txt l 1 ++ ByteArray.mk #[62] ++ txt r 0 := by simp [txtB, txt, h]
end
end Go.Proofs.Ytkhbimdahjkgoaa
