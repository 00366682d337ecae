/- LogicAxioms, of both: the reference's lists; a row of strings that begins inside its block (written by genlogic.py). -/
import Derived.Test.YtkhbimdahjkgoaaDoorLogicAx
namespace Go.Proofs.YtkhbimdahjkgoaaDoor
open Go.RowKit Go.Sort
set_option linter.unusedVariables false
set_option linter.unusedSimpArgs false

def laR (S : ByteArray) : List Bs := if findI lgN (byS S) < 0 then [] else lgA.getD (findI lgN (byS S)).toNat []
def laCode (S : ByteArray) : Int := if findI lgN (byS S) < 0 then 4 else 0
theorem la_cases (S : ByteArray) : (findI lgN (byS S) = -1 ∧ laR S = [] ∧ laCode S = 4) ∨ ∃ k : Nat, k < 16 ∧ findI lgN (byS S) = (k : Int) ∧ laR S = lgA.getD k [] ∧ laCode S = 0 := by
  rcases findI_range lgN (byS S) with h | ⟨k, hk, h⟩
  · left; unfold laR laCode; rw [h]; exact ⟨rfl, rfl, rfl⟩
  · right
    refine ⟨k, hk, h, ?_, ?_⟩
    · unfold laR; rw [h, if_neg (by omega), Int.toNat_natCast]
    · unfold laCode; rw [h, if_neg (by omega)]
theorem alloc_size9 (w : World) (o : Obj) : (w.alloc o).heap.size = w.heap.size + 1 := by simp
theorem below_alloc9 (w : World) (o : Obj) : RowKit.Below w.heap.size w (w.alloc o) := (RowKit.Below.refl w.heap.size w).alloc (Nat.le_refl _) o

def ax1 (w : World) : World := (w).alloc (.cells #[.string ⟨#[68]⟩] 9)
def ax2 (w : World) : World := (ax1 w).alloc (.cells #[.string ⟨#[52]⟩, .string ⟨#[68]⟩] 9)
def ax3 (w : World) : World := (ax2 w).alloc (.cells #[.string ⟨#[76]⟩] 9)
def ax4 (w : World) : World := (ax3 w).alloc (.cells #[.string ⟨#[90]⟩] 9)
def ax5 (w : World) : World := (ax4 w).alloc (.cells #[] 9)
def ax6 (w : World) : World := (ax5 w).alloc (.cells #[.string ⟨#[52]⟩] 9)
def ax7 (w : World) : World := (ax6 w).alloc (.cells #[.string ⟨#[52]⟩, .string ⟨#[53]⟩] 9)
def ax8 (w : World) : World := (ax7 w).alloc (.cells #[.string ⟨#[66]⟩] 9)
def ax9 (w : World) : World := (ax8 w).alloc (.cells #[.string ⟨#[52]⟩, .string ⟨#[53]⟩, .string ⟨#[68]⟩] 9)
def ax10 (w : World) : World := (ax9 w).alloc (.cells #[.string ⟨#[52]⟩, .string ⟨#[84]⟩] 9)
def ax11 (w : World) : World := (ax10 w).alloc (.cells #[.string ⟨#[52]⟩, .string ⟨#[71]⟩, .string ⟨#[84]⟩] 9)
def ax12 (w : World) : World := (ax11 w).alloc (.cells #[.string ⟨#[52]⟩, .string ⟨#[72]⟩, .string ⟨#[84]⟩] 9)
def ax13 (w : World) : World := (ax12 w).alloc (.cells #[.string ⟨#[53]⟩, .string ⟨#[84]⟩] 9)
def ax14 (w : World) : World := (ax13 w).alloc (.cells #[.string ⟨#[84]⟩] 9)
def ax15 (w : World) : World := (ax14 w).alloc (.cells #[.string ⟨#[84]⟩, .string ⟨#[88]⟩] 9)
def ax16 (w : World) : World := (ax15 w).alloc (.cells #[.string ⟨#[86]⟩] 9)
def ax17 (w : World) : World := (ax16 w).alloc (.cells #[.slice (some ⟨w.heap.size, 0, none⟩) 1 1, .slice (some ⟨w.heap.size + 1, 0, none⟩) 2 2, .slice (some ⟨w.heap.size + 1 + 1, 0, none⟩) 1 1, .slice (some ⟨w.heap.size + 1 + 1 + 1, 0, none⟩) 1 1, .slice (some ⟨w.heap.size + 1 + 1 + 1 + 1, 0, none⟩) 0 0, .slice (some ⟨w.heap.size + 1 + 1 + 1 + 1 + 1, 0, none⟩) 1 1, .slice (some ⟨w.heap.size + 1 + 1 + 1 + 1 + 1 + 1, 0, none⟩) 2 2, .slice (some ⟨w.heap.size + 1 + 1 + 1 + 1 + 1 + 1 + 1, 0, none⟩) 1 1, .slice (some ⟨w.heap.size + 1 + 1 + 1 + 1 + 1 + 1 + 1 + 1, 0, none⟩) 3 3, .slice (some ⟨w.heap.size + 1 + 1 + 1 + 1 + 1 + 1 + 1 + 1 + 1, 0, none⟩) 2 2, .slice (some ⟨w.heap.size + 1 + 1 + 1 + 1 + 1 + 1 + 1 + 1 + 1 + 1, 0, none⟩) 3 3, .slice (some ⟨w.heap.size + 1 + 1 + 1 + 1 + 1 + 1 + 1 + 1 + 1 + 1 + 1, 0, none⟩) 3 3, .slice (some ⟨w.heap.size + 1 + 1 + 1 + 1 + 1 + 1 + 1 + 1 + 1 + 1 + 1 + 1, 0, none⟩) 2 2, .slice (some ⟨w.heap.size + 1 + 1 + 1 + 1 + 1 + 1 + 1 + 1 + 1 + 1 + 1 + 1 + 1, 0, none⟩) 1 1, .slice (some ⟨w.heap.size + 1 + 1 + 1 + 1 + 1 + 1 + 1 + 1 + 1 + 1 + 1 + 1 + 1 + 1, 0, none⟩) 2 2, .slice (some ⟨w.heap.size + 1 + 1 + 1 + 1 + 1 + 1 + 1 + 1 + 1 + 1 + 1 + 1 + 1 + 1 + 1, 0, none⟩) 1 1] 25)
theorem ax_all (w : World) : (∀ k, k < 16 → ∃ va, (ax17 w).cell? ⟨w.heap.size + 1 + 1 + 1 + 1 + 1 + 1 + 1 + 1 + 1 + 1 + 1 + 1 + 1 + 1 + 1 + 1, k, none⟩ = some va ∧ StrL (ax17 w) va (lgA.getD k [])) ∧ RowKit.Below w.heap.size w (ax17 w) := by
  have s0 : w.heap.size = w.heap.size := rfl
  have s1 : (ax1 w).heap.size = w.heap.size + 1 := by unfold ax1; rw [alloc_size9]
  have s2 : (ax2 w).heap.size = w.heap.size + 1 + 1 := by unfold ax2; rw [alloc_size9, s1]
  have s3 : (ax3 w).heap.size = w.heap.size + 1 + 1 + 1 := by unfold ax3; rw [alloc_size9, s2]
  have s4 : (ax4 w).heap.size = w.heap.size + 1 + 1 + 1 + 1 := by unfold ax4; rw [alloc_size9, s3]
  have s5 : (ax5 w).heap.size = w.heap.size + 1 + 1 + 1 + 1 + 1 := by unfold ax5; rw [alloc_size9, s4]
  have s6 : (ax6 w).heap.size = w.heap.size + 1 + 1 + 1 + 1 + 1 + 1 := by unfold ax6; rw [alloc_size9, s5]
  have s7 : (ax7 w).heap.size = w.heap.size + 1 + 1 + 1 + 1 + 1 + 1 + 1 := by unfold ax7; rw [alloc_size9, s6]
  have s8 : (ax8 w).heap.size = w.heap.size + 1 + 1 + 1 + 1 + 1 + 1 + 1 + 1 := by unfold ax8; rw [alloc_size9, s7]
  have s9 : (ax9 w).heap.size = w.heap.size + 1 + 1 + 1 + 1 + 1 + 1 + 1 + 1 + 1 := by unfold ax9; rw [alloc_size9, s8]
  have s10 : (ax10 w).heap.size = w.heap.size + 1 + 1 + 1 + 1 + 1 + 1 + 1 + 1 + 1 + 1 := by unfold ax10; rw [alloc_size9, s9]
  have s11 : (ax11 w).heap.size = w.heap.size + 1 + 1 + 1 + 1 + 1 + 1 + 1 + 1 + 1 + 1 + 1 := by unfold ax11; rw [alloc_size9, s10]
  have s12 : (ax12 w).heap.size = w.heap.size + 1 + 1 + 1 + 1 + 1 + 1 + 1 + 1 + 1 + 1 + 1 + 1 := by unfold ax12; rw [alloc_size9, s11]
  have s13 : (ax13 w).heap.size = w.heap.size + 1 + 1 + 1 + 1 + 1 + 1 + 1 + 1 + 1 + 1 + 1 + 1 + 1 := by unfold ax13; rw [alloc_size9, s12]
  have s14 : (ax14 w).heap.size = w.heap.size + 1 + 1 + 1 + 1 + 1 + 1 + 1 + 1 + 1 + 1 + 1 + 1 + 1 + 1 := by unfold ax14; rw [alloc_size9, s13]
  have s15 : (ax15 w).heap.size = w.heap.size + 1 + 1 + 1 + 1 + 1 + 1 + 1 + 1 + 1 + 1 + 1 + 1 + 1 + 1 + 1 := by unfold ax15; rw [alloc_size9, s14]
  have s16 : (ax16 w).heap.size = w.heap.size + 1 + 1 + 1 + 1 + 1 + 1 + 1 + 1 + 1 + 1 + 1 + 1 + 1 + 1 + 1 + 1 := by unfold ax16; rw [alloc_size9, s15]
  have b1 : RowKit.Below (w).heap.size (w) (ax1 w) := below_alloc9 _ _
  have b2 : RowKit.Below (ax1 w).heap.size (ax1 w) (ax2 w) := below_alloc9 _ _
  have b3 : RowKit.Below (ax2 w).heap.size (ax2 w) (ax3 w) := below_alloc9 _ _
  have b4 : RowKit.Below (ax3 w).heap.size (ax3 w) (ax4 w) := below_alloc9 _ _
  have b5 : RowKit.Below (ax4 w).heap.size (ax4 w) (ax5 w) := below_alloc9 _ _
  have b6 : RowKit.Below (ax5 w).heap.size (ax5 w) (ax6 w) := below_alloc9 _ _
  have b7 : RowKit.Below (ax6 w).heap.size (ax6 w) (ax7 w) := below_alloc9 _ _
  have b8 : RowKit.Below (ax7 w).heap.size (ax7 w) (ax8 w) := below_alloc9 _ _
  have b9 : RowKit.Below (ax8 w).heap.size (ax8 w) (ax9 w) := below_alloc9 _ _
  have b10 : RowKit.Below (ax9 w).heap.size (ax9 w) (ax10 w) := below_alloc9 _ _
  have b11 : RowKit.Below (ax10 w).heap.size (ax10 w) (ax11 w) := below_alloc9 _ _
  have b12 : RowKit.Below (ax11 w).heap.size (ax11 w) (ax12 w) := below_alloc9 _ _
  have b13 : RowKit.Below (ax12 w).heap.size (ax12 w) (ax13 w) := below_alloc9 _ _
  have b14 : RowKit.Below (ax13 w).heap.size (ax13 w) (ax14 w) := below_alloc9 _ _
  have b15 : RowKit.Below (ax14 w).heap.size (ax14 w) (ax15 w) := below_alloc9 _ _
  have b16 : RowKit.Below (ax15 w).heap.size (ax15 w) (ax16 w) := below_alloc9 _ _
  have b17 : RowKit.Below (ax16 w).heap.size (ax16 w) (ax17 w) := below_alloc9 _ _
  have c17 : RowKit.Below (ax17 w).heap.size (ax17 w) (ax17 w) := RowKit.Below.refl _ _
  have c16 := keep_step c17 b17
  have c15 := keep_step c16 b16
  have c14 := keep_step c15 b15
  have c13 := keep_step c14 b14
  have c12 := keep_step c13 b13
  have c11 := keep_step c12 b12
  have c10 := keep_step c11 b11
  have c9 := keep_step c10 b10
  have c8 := keep_step c9 b9
  have c7 := keep_step c8 b8
  have c6 := keep_step c7 b7
  have c5 := keep_step c6 b6
  have c4 := keep_step c5 b5
  have c3 := keep_step c4 b4
  have c2 := keep_step c3 b3
  have c1 := keep_step c2 b2
  have c0 := keep_step c1 b1
  have n0 : StrL (ax17 w) (.slice (some ⟨w.heap.size, 0, none⟩) 1 1) [[68]] := by
    have h9 := strL_of_own (ss := [[68]]) (World.ownsRow_lit (e := 9) (base := w.heap.size) (size := 1) w #[.string ⟨#[68]⟩] 1 (Nat.le_refl _) (by simp [maxLen]) rfl)
    exact StrL.below (w := ax1 w) h9 c1 (Nat.le_refl _)
  have n1 : StrL (ax17 w) (.slice (some ⟨w.heap.size + 1, 0, none⟩) 2 2) [[52], [68]] := by
    have h9 := strL_of_own (ss := [[52], [68]]) (World.ownsRow_lit (e := 9) (base := (ax1 w).heap.size) (size := 1) (ax1 w) #[.string ⟨#[52]⟩, .string ⟨#[68]⟩] 2 (Nat.le_refl _) (by simp [maxLen]) rfl)
    rw [s1] at h9
    exact StrL.below (w := ax2 w) h9 c2 (Nat.le_refl _)
  have n2 : StrL (ax17 w) (.slice (some ⟨w.heap.size + 1 + 1, 0, none⟩) 1 1) [[76]] := by
    have h9 := strL_of_own (ss := [[76]]) (World.ownsRow_lit (e := 9) (base := (ax2 w).heap.size) (size := 1) (ax2 w) #[.string ⟨#[76]⟩] 1 (Nat.le_refl _) (by simp [maxLen]) rfl)
    rw [s2] at h9
    exact StrL.below (w := ax3 w) h9 c3 (Nat.le_refl _)
  have n3 : StrL (ax17 w) (.slice (some ⟨w.heap.size + 1 + 1 + 1, 0, none⟩) 1 1) [[90]] := by
    have h9 := strL_of_own (ss := [[90]]) (World.ownsRow_lit (e := 9) (base := (ax3 w).heap.size) (size := 1) (ax3 w) #[.string ⟨#[90]⟩] 1 (Nat.le_refl _) (by simp [maxLen]) rfl)
    rw [s3] at h9
    exact StrL.below (w := ax4 w) h9 c4 (Nat.le_refl _)
  have n4 : StrL (ax17 w) (.slice (some ⟨w.heap.size + 1 + 1 + 1 + 1, 0, none⟩) 0 0) [] := by
    have h9 := strL_of_own (ss := []) (World.ownsRow_lit (e := 9) (base := (ax4 w).heap.size) (size := 1) (ax4 w) #[] 0 (Nat.le_refl _) (by simp [maxLen]) rfl)
    rw [s4] at h9
    exact StrL.below (w := ax5 w) h9 c5 (Nat.le_refl _)
  have n5 : StrL (ax17 w) (.slice (some ⟨w.heap.size + 1 + 1 + 1 + 1 + 1, 0, none⟩) 1 1) [[52]] := by
    have h9 := strL_of_own (ss := [[52]]) (World.ownsRow_lit (e := 9) (base := (ax5 w).heap.size) (size := 1) (ax5 w) #[.string ⟨#[52]⟩] 1 (Nat.le_refl _) (by simp [maxLen]) rfl)
    rw [s5] at h9
    exact StrL.below (w := ax6 w) h9 c6 (Nat.le_refl _)
  have n6 : StrL (ax17 w) (.slice (some ⟨w.heap.size + 1 + 1 + 1 + 1 + 1 + 1, 0, none⟩) 2 2) [[52], [53]] := by
    have h9 := strL_of_own (ss := [[52], [53]]) (World.ownsRow_lit (e := 9) (base := (ax6 w).heap.size) (size := 1) (ax6 w) #[.string ⟨#[52]⟩, .string ⟨#[53]⟩] 2 (Nat.le_refl _) (by simp [maxLen]) rfl)
    rw [s6] at h9
    exact StrL.below (w := ax7 w) h9 c7 (Nat.le_refl _)
  have n7 : StrL (ax17 w) (.slice (some ⟨w.heap.size + 1 + 1 + 1 + 1 + 1 + 1 + 1, 0, none⟩) 1 1) [[66]] := by
    have h9 := strL_of_own (ss := [[66]]) (World.ownsRow_lit (e := 9) (base := (ax7 w).heap.size) (size := 1) (ax7 w) #[.string ⟨#[66]⟩] 1 (Nat.le_refl _) (by simp [maxLen]) rfl)
    rw [s7] at h9
    exact StrL.below (w := ax8 w) h9 c8 (Nat.le_refl _)
  have n8 : StrL (ax17 w) (.slice (some ⟨w.heap.size + 1 + 1 + 1 + 1 + 1 + 1 + 1 + 1, 0, none⟩) 3 3) [[52], [53], [68]] := by
    have h9 := strL_of_own (ss := [[52], [53], [68]]) (World.ownsRow_lit (e := 9) (base := (ax8 w).heap.size) (size := 1) (ax8 w) #[.string ⟨#[52]⟩, .string ⟨#[53]⟩, .string ⟨#[68]⟩] 3 (Nat.le_refl _) (by simp [maxLen]) rfl)
    rw [s8] at h9
    exact StrL.below (w := ax9 w) h9 c9 (Nat.le_refl _)
  have n9 : StrL (ax17 w) (.slice (some ⟨w.heap.size + 1 + 1 + 1 + 1 + 1 + 1 + 1 + 1 + 1, 0, none⟩) 2 2) [[52], [84]] := by
    have h9 := strL_of_own (ss := [[52], [84]]) (World.ownsRow_lit (e := 9) (base := (ax9 w).heap.size) (size := 1) (ax9 w) #[.string ⟨#[52]⟩, .string ⟨#[84]⟩] 2 (Nat.le_refl _) (by simp [maxLen]) rfl)
    rw [s9] at h9
    exact StrL.below (w := ax10 w) h9 c10 (Nat.le_refl _)
  have n10 : StrL (ax17 w) (.slice (some ⟨w.heap.size + 1 + 1 + 1 + 1 + 1 + 1 + 1 + 1 + 1 + 1, 0, none⟩) 3 3) [[52], [71], [84]] := by
    have h9 := strL_of_own (ss := [[52], [71], [84]]) (World.ownsRow_lit (e := 9) (base := (ax10 w).heap.size) (size := 1) (ax10 w) #[.string ⟨#[52]⟩, .string ⟨#[71]⟩, .string ⟨#[84]⟩] 3 (Nat.le_refl _) (by simp [maxLen]) rfl)
    rw [s10] at h9
    exact StrL.below (w := ax11 w) h9 c11 (Nat.le_refl _)
  have n11 : StrL (ax17 w) (.slice (some ⟨w.heap.size + 1 + 1 + 1 + 1 + 1 + 1 + 1 + 1 + 1 + 1 + 1, 0, none⟩) 3 3) [[52], [72], [84]] := by
    have h9 := strL_of_own (ss := [[52], [72], [84]]) (World.ownsRow_lit (e := 9) (base := (ax11 w).heap.size) (size := 1) (ax11 w) #[.string ⟨#[52]⟩, .string ⟨#[72]⟩, .string ⟨#[84]⟩] 3 (Nat.le_refl _) (by simp [maxLen]) rfl)
    rw [s11] at h9
    exact StrL.below (w := ax12 w) h9 c12 (Nat.le_refl _)
  have n12 : StrL (ax17 w) (.slice (some ⟨w.heap.size + 1 + 1 + 1 + 1 + 1 + 1 + 1 + 1 + 1 + 1 + 1 + 1, 0, none⟩) 2 2) [[53], [84]] := by
    have h9 := strL_of_own (ss := [[53], [84]]) (World.ownsRow_lit (e := 9) (base := (ax12 w).heap.size) (size := 1) (ax12 w) #[.string ⟨#[53]⟩, .string ⟨#[84]⟩] 2 (Nat.le_refl _) (by simp [maxLen]) rfl)
    rw [s12] at h9
    exact StrL.below (w := ax13 w) h9 c13 (Nat.le_refl _)
  have n13 : StrL (ax17 w) (.slice (some ⟨w.heap.size + 1 + 1 + 1 + 1 + 1 + 1 + 1 + 1 + 1 + 1 + 1 + 1 + 1, 0, none⟩) 1 1) [[84]] := by
    have h9 := strL_of_own (ss := [[84]]) (World.ownsRow_lit (e := 9) (base := (ax13 w).heap.size) (size := 1) (ax13 w) #[.string ⟨#[84]⟩] 1 (Nat.le_refl _) (by simp [maxLen]) rfl)
    rw [s13] at h9
    exact StrL.below (w := ax14 w) h9 c14 (Nat.le_refl _)
  have n14 : StrL (ax17 w) (.slice (some ⟨w.heap.size + 1 + 1 + 1 + 1 + 1 + 1 + 1 + 1 + 1 + 1 + 1 + 1 + 1 + 1, 0, none⟩) 2 2) [[84], [88]] := by
    have h9 := strL_of_own (ss := [[84], [88]]) (World.ownsRow_lit (e := 9) (base := (ax14 w).heap.size) (size := 1) (ax14 w) #[.string ⟨#[84]⟩, .string ⟨#[88]⟩] 2 (Nat.le_refl _) (by simp [maxLen]) rfl)
    rw [s14] at h9
    exact StrL.below (w := ax15 w) h9 c15 (Nat.le_refl _)
  have n15 : StrL (ax17 w) (.slice (some ⟨w.heap.size + 1 + 1 + 1 + 1 + 1 + 1 + 1 + 1 + 1 + 1 + 1 + 1 + 1 + 1 + 1, 0, none⟩) 1 1) [[86]] := by
    have h9 := strL_of_own (ss := [[86]]) (World.ownsRow_lit (e := 9) (base := (ax15 w).heap.size) (size := 1) (ax15 w) #[.string ⟨#[86]⟩] 1 (Nat.le_refl _) (by simp [maxLen]) rfl)
    rw [s15] at h9
    exact StrL.below (w := ax16 w) h9 c16 (Nat.le_refl _)
  refine ⟨fun k hk => ?_, c0⟩
  have hcell : ∀ j, (ax17 w).cell? ⟨w.heap.size + 1 + 1 + 1 + 1 + 1 + 1 + 1 + 1 + 1 + 1 + 1 + 1 + 1 + 1 + 1 + 1, j, none⟩ = (#[.slice (some ⟨w.heap.size, 0, none⟩) 1 1, .slice (some ⟨w.heap.size + 1, 0, none⟩) 2 2, .slice (some ⟨w.heap.size + 1 + 1, 0, none⟩) 1 1, .slice (some ⟨w.heap.size + 1 + 1 + 1, 0, none⟩) 1 1, .slice (some ⟨w.heap.size + 1 + 1 + 1 + 1, 0, none⟩) 0 0, .slice (some ⟨w.heap.size + 1 + 1 + 1 + 1 + 1, 0, none⟩) 1 1, .slice (some ⟨w.heap.size + 1 + 1 + 1 + 1 + 1 + 1, 0, none⟩) 2 2, .slice (some ⟨w.heap.size + 1 + 1 + 1 + 1 + 1 + 1 + 1, 0, none⟩) 1 1, .slice (some ⟨w.heap.size + 1 + 1 + 1 + 1 + 1 + 1 + 1 + 1, 0, none⟩) 3 3, .slice (some ⟨w.heap.size + 1 + 1 + 1 + 1 + 1 + 1 + 1 + 1 + 1, 0, none⟩) 2 2, .slice (some ⟨w.heap.size + 1 + 1 + 1 + 1 + 1 + 1 + 1 + 1 + 1 + 1, 0, none⟩) 3 3, .slice (some ⟨w.heap.size + 1 + 1 + 1 + 1 + 1 + 1 + 1 + 1 + 1 + 1 + 1, 0, none⟩) 3 3, .slice (some ⟨w.heap.size + 1 + 1 + 1 + 1 + 1 + 1 + 1 + 1 + 1 + 1 + 1 + 1, 0, none⟩) 2 2, .slice (some ⟨w.heap.size + 1 + 1 + 1 + 1 + 1 + 1 + 1 + 1 + 1 + 1 + 1 + 1 + 1, 0, none⟩) 1 1, .slice (some ⟨w.heap.size + 1 + 1 + 1 + 1 + 1 + 1 + 1 + 1 + 1 + 1 + 1 + 1 + 1 + 1, 0, none⟩) 2 2, .slice (some ⟨w.heap.size + 1 + 1 + 1 + 1 + 1 + 1 + 1 + 1 + 1 + 1 + 1 + 1 + 1 + 1 + 1, 0, none⟩) 1 1] : Array Value)[j]? := fun j => by
    unfold ax17
    exact World.cell?_alloc_at _ _ _ _ s16.symm
  match k, hk with
  | 0, _ => exact ⟨_, (hcell 0).trans rfl, n0⟩
  | 1, _ => exact ⟨_, (hcell 1).trans rfl, n1⟩
  | 2, _ => exact ⟨_, (hcell 2).trans rfl, n2⟩
  | 3, _ => exact ⟨_, (hcell 3).trans rfl, n3⟩
  | 4, _ => exact ⟨_, (hcell 4).trans rfl, n4⟩
  | 5, _ => exact ⟨_, (hcell 5).trans rfl, n5⟩
  | 6, _ => exact ⟨_, (hcell 6).trans rfl, n6⟩
  | 7, _ => exact ⟨_, (hcell 7).trans rfl, n7⟩
  | 8, _ => exact ⟨_, (hcell 8).trans rfl, n8⟩
  | 9, _ => exact ⟨_, (hcell 9).trans rfl, n9⟩
  | 10, _ => exact ⟨_, (hcell 10).trans rfl, n10⟩
  | 11, _ => exact ⟨_, (hcell 11).trans rfl, n11⟩
  | 12, _ => exact ⟨_, (hcell 12).trans rfl, n12⟩
  | 13, _ => exact ⟨_, (hcell 13).trans rfl, n13⟩
  | 14, _ => exact ⟨_, (hcell 14).trans rfl, n14⟩
  | 15, _ => exact ⟨_, (hcell 15).trans rfl, n15⟩
  | k + 16, hk => omega

theorem logics_strL {w : World} {g : Nat} (h : ∀ (k : Nat) (l : Bs), lgN[k]? = some l → w.cell? ⟨g, k, none⟩ = some (encStr l)) : StrL w (.slice (some ⟨g, 0, none⟩) 16 16) lgN := by
  refine ⟨by simp, by show 16 ≤ maxLen; unfold maxLen; omega, _, 16, g, 0, rfl, by show 16 ≤ 16; omega, fun _ => rfl, fun i u hu => ?_⟩
  rw [List.getElem?_map, Option.map_eq_some_iff] at hu
  obtain ⟨x, hx, rfl⟩ := hu
  rw [Nat.zero_add]
  exact h i x hx
set_option maxHeartbeats 4000000 in
set_option maxRecDepth 100000 in
theorem l09Axioms_any (S : ByteArray) (k : Nat) (hk : k < 16) (hf : findI lgN (byS S) = (k : Int)) (w : World) :
    Calls Tryd.prog 17 #[.string S] w fun e w' => ∃ v', e = .returned v' ∧ StrL w' v' (lgA.getD k []) ∧ RowKit.Below w.heap.size w w' := by
  obtain ⟨hex, hb⟩ := ax_all w
  obtain ⟨va, hc, hs⟩ := hex k hk
  have hs := Lib.hid hs
  have hb := Lib.hid hb
  have hlog := Lib.hid (l09Logics_any (ax17 w))
  have hki : (k : Int) < 16 := by omega
  have hfh := Lib.hid hf
  clear hex hf
  go_enter Tryd.func17, Tryd.ntmps17
  go_wp2_with fail
  refine hlog.out.mono ?_
  rintro e w2 ⟨rfl, hn, b2⟩
  have hc2 := keep_cell b2 hc
  have B2 := Lib.hid (keep_step b2 hb.out)
  have hs2 := Lib.hid (hs.out.below b2 (Nat.le_refl _))
  have hfi := Lib.hid (l09Find_any _ lgN S w2 (logics_strL hn.out))
  rw [hfh.out] at hfi
  clear hc hs hb hlog hn b2
  go_wp2_with fail
  refine hfi.out.mono ?_
  rintro e w3 ⟨rfl, rfl⟩
  go_wp2_with fail
  go_ret
  exact ⟨va, rfl, hs2.out, B2.out⟩

theorem specLogicAxioms_any (S : ByteArray) (w : World) :
    Calls Tryd.prog 7 #[.string S] w fun e w' => ∃ v', e = .returned (.tuple #[v', .int .i64 (laCode S)]) ∧ StrL w' v' (laR S) ∧ RowKit.Below w.heap.size w w' := by
  rcases la_cases S with ⟨h1, h2, h3⟩ | ⟨k, hk, h1, h2, h3⟩
  · have h1 := Lib.hid h1
    have h2 := Lib.hid h2
    have h3 := Lib.hid h3
    rename_i h1' h2' h3'
    clear h1' h2' h3'
    go_enter Tryd.func7, Tryd.ntmps7
    go_wp2_with fail
    refine (l09Logics_any _).mono ?_
    rintro e w2 ⟨rfl, hn, b2⟩
    have hfi := Lib.hid (l09Find_any _ lgN S w2 (logics_strL hn.out))
    rw [h1.out] at hfi
    clear hn
    go_wp2_with fail
    refine hfi.out.mono ?_
    rintro e w3 ⟨rfl, rfl⟩
    go_wp2_with fail
    go_ret2
    exact ⟨_, by rw [h3.out]; rfl, by rw [h2.out]; exact strL_of_own (World.ownsRow_nil (e := 9) (base := 0) (size := 1) _), b2⟩
  · have hax := Lib.hid (fun W => l09Axioms_any S k hk h1 W)
    have h1 := Lib.hid h1
    have h2 := Lib.hid h2
    have h3 := Lib.hid h3
    rename_i h1' h2' h3'
    clear h1' h2' h3'
    go_enter Tryd.func7, Tryd.ntmps7
    go_wp2_with fail
    refine (l09Logics_any _).mono ?_
    rintro e w2 ⟨rfl, hn, b2⟩
    have hfi := Lib.hid (l09Find_any _ lgN S w2 (logics_strL hn.out))
    rw [h1.out] at hfi
    clear hn
    go_wp2_with fail
    refine hfi.out.mono ?_
    rintro e w3 ⟨rfl, rfl⟩
    go_wp2_with fail
    refine (hax.out _).mono ?_
    rintro e w4 ⟨v4, rfl, h4, b4⟩
    have B4 := keep_step b4 b2
    go_wp2_with fail
    go_ret2
    exact ⟨_, by rw [h3.out]; rfl, by rw [h2.out]; exact h4, B4⟩

/-- A row of strings in a block of one's own, perhaps not from its beginning. -/
def RowAt (B : Nat) (w : World) (v : Value) (ss : List Bs) : Prop := (v = .slice none 0 0 ∧ ss = []) ∨ ∃ g o cap cur, v = .slice (some ⟨g, o, none⟩) ss.length cap ∧ ss.length ≤ cap ∧ ss.length ≤ 1000 ∧ B ≤ g ∧ w.heap[g]? = some (.cells cur 9 (0, 0)) ∧ ∀ (j : Nat) (x : Bs), ss[j]? = some x → cur[o + j]? = some (encStr x)
theorem RowAt.strL {B : Nat} {w : World} {v : Value} {ss : List Bs} (h : RowAt B w v ss) : StrL w v ss := by
  rcases h with ⟨rfl, rfl⟩ | ⟨g, o, cap, cur, rfl, hc, hl, hB, hg, hcell⟩
  · exact strL_of_own (World.ownsRow_nil (e := 9) (base := 0) (size := 1) _)
  · refine ⟨by simp, by unfold maxLen; omega, _, cap, g, o, rfl, hc, fun _ => rfl, fun i u hu => ?_⟩
    rw [List.getElem?_map, Option.map_eq_some_iff] at hu
    obtain ⟨x, hx, rfl⟩ := hu
    simpa [World.cell?, hg] using hcell i x hx
theorem RowAt.below {B K : Nat} {w w' : World} {v : Value} {ss : List Bs} (h : RowAt B w v ss) (hb : RowKit.Below K w w') (hk : w.heap.size ≤ K) : RowAt B w' v ss := by
  rcases h with h | ⟨g, o, cap, cur, hv, hc, hl, hB, hg, hcell⟩
  · exact .inl h
  · refine .inr ⟨g, o, cap, cur, hv, hc, hl, hB, ?_, hcell⟩
    rw [hb.block g (by have := (Array.getElem?_eq_some_iff.1 hg).1; omega)]
    exact hg
theorem RowAt.store {B g o cap n k : Nat} {w : World} {ss : List Bs} {x : Bs} (hl : ss.length = n) (h : RowAt B w (.slice (some ⟨g, o, none⟩) n cap) ss) (hk : k < n) : w.frozen? ⟨g, o + k, none⟩ = false ∧ (∃ z, w.cell? ⟨g, o + k, none⟩ = some z) ∧ RowAt B (w.setCell ⟨g, o + k, none⟩ (encStr x)) (.slice (some ⟨g, o, none⟩) n cap) (ss.set k x) := by
  subst hl
  rcases h with ⟨h, _⟩ | ⟨g', o', cap', cur, hv, hc, hl, hB, hg, hcell⟩
  · cases h
  · obtain ⟨⟨rfl, rfl⟩, rfl⟩ : (g = g' ∧ o = o') ∧ cap = cap' := by simpa using hv
    have h0 := hcell k _ (List.getElem?_eq_getElem hk)
    have hks : o + k < cur.size := (Array.getElem?_eq_some_iff.1 h0).1
    refine ⟨by simp [World.frozen?, hg], ⟨_, by simpa [World.cell?, hg] using h0⟩, .inr ⟨g, o, cap, cur.set (o + k) (encStr x), by rw [List.length_set], by rw [List.length_set]; exact hc, by rw [List.length_set]; exact hl, hB, ?_, fun j y hy => ?_⟩⟩
    · simp [World.setCell, Array.getElem?_modify, hg, Array.setIfInBounds, hks]
    · rw [List.getElem?_set] at hy
      rw [Array.getElem?_set]
      by_cases hj : k = j
      · subst hj
        rw [if_pos rfl, if_pos hk] at hy
        rw [if_pos rfl]
        rw [Option.some.inj hy]
      · rw [if_neg hj] at hy
        rw [if_neg (by omega)]
        exact hcell j y hy

set_option maxHeartbeats 2000000 in
theorem markAt_any (v : Value) (B : Nat) (ss : List Bs) (w : World) (h : RowAt B w v ss) (hl : ss.length ≤ 1000) :
    Calls Tryd.prog 10 #[v, .int .i64 1] w fun e w' => e = .returned (.int .i64 (1 + (ss.length : Int))) ∧ RowAt B w' v (marksS 1 ss.length) ∧ w.grownBy w' v.ownBlock := by
  have h0 := h
  rcases h0 with ⟨rfl, rfl⟩ | ⟨g, o, cap, cur, rfl, hc, _, hB, hg, hcell⟩
  · go_enter Tryd.func10, Tryd.ntmps10
    go_wp2
    refine wp_loop_rounds 1 ?_
    rw [rounds_succ]
    go_wp2
    go_ret
    exact ⟨ret_int (by simp), .inl ⟨rfl, rfl⟩, World.grownBy.refl _ _⟩
  · have hgw := (Array.getElem?_eq_some_iff.1 hg).1
    have hh := Lib.hid h
    clear hg hcell h
    generalize hn : ss.length = n at *
    replace hn := Lib.hid hn
    go_enter Tryd.func10, Tryd.ntmps10
    go_wp2
    go_loopw [1, 5] (fun j i wr => ∃ k : Nat, k ≤ n ∧ i = .int .i64 k ∧ j = .int .i64 ((1 + k : Nat) : Int) ∧ Hid (RowAt B wr (.slice (some ⟨g, o, none⟩) n cap) ((marksS 1 n).take k ++ ss.drop k)) ∧ w.grownBy wr (some g)) (fun _ i _ => n - (intOf i).toNat)
    case atStart => exact ⟨0, Nat.zero_le _, rfl, rfl, by simpa using hh, World.grownBy.refl _ _⟩
    case round =>
      obtain ⟨k, hk', rfl, rfl, ho, hb⟩ := hrel
      by_cases hlt : k < n
      · have hm := marksS_get 1 n k hlt
        have hmk := Lib.hid (markText_any (1 + k))
        have hzb := hb.size
        have hset := Lib.hid (set_take_drop (marksS 1 n) ss k _ hm (by rw [hn.out]; exact hlt))
        have hll := Lib.hid (show ((marksS 1 n).take k ++ ss.drop k).length = n by rw [List.length_append, List.length_take, List.length_drop, marksS_length, hn.out]; omega)
        generalize hkk : 1 + k = kk at *
        go_wp2_with fail
        refine (hmk.out _ (by omega)).mono ?_
        rintro e w2 ⟨rfl, b2⟩
        obtain ⟨hf, ⟨z, hz⟩, hst⟩ := RowAt.store (x := byS (markT kk)) hll.out (ho.out.below b2 (Nat.le_refl _)) hlt
        rw [hset.out, enc_byS] at hst
        have hst := Lib.hid hst
        have hgr : w.grownBy w2 (some g) := ⟨b2.os.trans hb.os, b2.tape.trans hb.tape, b2.output.trans hb.output, Nat.le_trans hb.size b2.size, fun j hj hne => (b2.block j (by omega)).trans (hb.block j hj hne)⟩
        have hgr := Lib.hid hgr
        clear ho b2 hb hm hset
        generalize markT kk = MK at *
        go_wp2_with fail
        go_roundw
        case rel => exact ⟨k + 1, by omega, by go_num, by rw [← hkk]; go_num, hst, ⟨hgr.out.os, hgr.out.tape, hgr.out.output, by simpa using hgr.out.size, fun j hj hne => by rw [RowKit.Below.heap_setCell _ _ _ _ (by simpa using hne)]; exact hgr.out.block j hj hne⟩⟩
        case measure => simp [intOf]; omega
      · obtain rfl : k = n := by omega
        have hfin := Lib.hid (show RowAt B wr (.slice (some ⟨g, o, none⟩) k cap) (marksS 1 k) from by
          have := ho.out
          rw [List.drop_of_length_le (by rw [hn.out]; exact Nat.le_refl _), List.append_nil, List.take_of_length_le (by rw [marksS_length]; exact Nat.le_refl _)] at this
          exact this)
        go_wp2_with fail
        go_ret
        exact ⟨ret_int (by omega), hfin.out, hb⟩

theorem rowAt_one (w : World) (k : Nat) (hk : k < 16) (hb : 1 ≤ (lgRow k).length) : RowAt w.heap.size (w.alloc (.cells ((lgRow k).map encStr).toArray 9)) (.slice (if (lgRow k).length = 1 then some ⟨w.heap.size, 0, none⟩ else some ⟨w.heap.size, 1, none⟩) ((lgRow k).length - 1) ((lgRow k).length - 1)) (lgA.getD k []) := by
  have hl : (lgRow k).length = (lgA.getD k []).length + 1 := rfl
  have h4 := (lgRow_len hk).2
  rw [hl, Nat.add_sub_cancel]
  by_cases h1 : (lgA.getD k []).length + 1 = 1
  · rw [if_pos h1]
    refine .inr ⟨w.heap.size, 0, _, ((lgRow k).map encStr).toArray, rfl, Nat.le_refl _, by omega, Nat.le_refl _, heap_alloc_new _ _, fun j x hx => ?_⟩
    have := (List.getElem?_eq_some_iff.1 hx).1
    omega
  · rw [if_neg h1]
    refine .inr ⟨w.heap.size, 1, _, ((lgRow k).map encStr).toArray, rfl, Nat.le_refl _, by omega, Nat.le_refl _, heap_alloc_new _ _, fun j x hx => ?_⟩
    rw [List.getElem?_toArray, List.getElem?_map, Nat.add_comm]
    show Option.map encStr ((lgN.getD k [] :: lgA.getD k [])[j + 1]?) = _
    rw [List.getElem?_cons_succ, hx]; rfl
set_option maxHeartbeats 1000000 in
theorem axiomsOf_any (S : ByteArray) (w : World) (ht : LgTab w) (hM : MaxL w) :
    Calls Tryd.prog 18 #[.string S] w fun e w' => ∃ v', e = .returned (.tuple #[v', .bool (decide (laCode S = 0))]) ∧ RowAt w.heap.size w' v' (laR S) ∧ RowKit.Below w.heap.size w w' := by
  have hnames := Lib.hid (logicNames_any w ht hM)
  rcases la_cases S with ⟨h1, h2, h3⟩ | ⟨k, hk, h1, h2, h3⟩
  · have h1 := Lib.hid h1
    have h2 := Lib.hid h2
    have h3 := Lib.hid h3
    rename_i h1' h2' h3'
    clear h1' h2' h3' ht hM
    go_enter Tryd.func18, Tryd.ntmps18
    go_wp2_with fail
    refine hnames.out.mono ?_
    rintro e w2 ⟨v2, rfl, hs, b2⟩
    have hfi := Lib.hid (indexS_any v2 lgN S w2 hs)
    rw [h1.out] at hfi
    clear hs
    go_wp2_with fail
    refine hfi.out.mono ?_
    rintro e w3 ⟨rfl, rfl⟩
    go_wp2_with fail
    go_ret2
    exact ⟨_, by rw [h3.out]; rfl, by rw [h2.out]; exact .inl ⟨rfl, rfl⟩, b2⟩
  · have hrow := Lib.hid (fun (W : World) (hW : RowKit.Below w.heap.size w W) => logicRow_any k hk W (ht.below hW (Nat.le_refl _)) (hM.below hW (Nat.le_refl _)))
    have hra := Lib.hid (fun W => rowAt_one W k hk (lgRow_len hk).1)
    have hnl := (lgRow_len hk).1
    have h1 := Lib.hid h1
    have h2 := Lib.hid h2
    have h3 := Lib.hid h3
    rename_i h1' h2' h3'
    clear h1' h2' h3' ht hM
    generalize hn9 : (lgRow k).length = n at *
    replace hn9 := Lib.hid hn9
    go_enter Tryd.func18, Tryd.ntmps18
    go_wp2_with fail
    refine hnames.out.mono ?_
    rintro e w2 ⟨v2, rfl, hs, b2⟩
    have hfi := Lib.hid (indexS_any v2 lgN S w2 hs)
    rw [h1.out] at hfi
    have hr2 := Lib.hid (hrow.out w2 b2)
    have hra2 := hra.out w2
    have B3 := Lib.hid (b2.alloc b2.size (.cells ((lgRow k).map encStr).toArray 9))
    have hzz := b2.size
    generalize hW3 : w2.alloc (.cells ((lgRow k).map encStr).toArray 9) = W3 at *
    generalize hva : (if n = 1 then (some ⟨w2.heap.size, 0, none⟩ : Option Addr) else some ⟨w2.heap.size, 1, none⟩) = va at *
    have hra3 := Lib.hid hra2
    have hn1i : (1 : Int) ≤ (n : Int) := by omega
    clear hs hW3 hra2 b2 hrow hra
    go_wp2_with fail
    refine hfi.out.mono ?_
    rintro e w3 ⟨rfl, rfl⟩
    go_wp2_with fail
    refine hr2.out.mono ?_
    rintro e w3 ⟨rfl, rfl⟩
    go_wp2_with fail
    go_ret2
    refine ⟨.slice va (n - 1) (n - 1), by rw [h3.out]; rfl, ?_, B3.out⟩
    rw [h2.out]
    rcases hra3.out with h | ⟨g, o, cap, cur, q1, q2, q3, q4, q5⟩
    · exact .inl h
    · exact .inr ⟨g, o, cap, cur, q1, q2, q3, by omega, q5⟩

theorem implLogicAxioms_any (S : ByteArray) (w : World) (ht : LgTab w) (hM : MaxL w) :
    Calls Tryd.prog 8 #[.string S] w fun e w' => ∃ v', e = .returned (.tuple #[v', .int .i64 (laCode S)]) ∧ RowAt w.heap.size w' v' (laR S) ∧ RowKit.Below w.heap.size w w' := by
  have hax := Lib.hid (axiomsOf_any S w ht hM)
  clear ht hM
  have hcs : laCode S = 0 ∨ (laCode S = 4 ∧ laR S = []) := by
    rcases la_cases S with ⟨_, h2, h3⟩ | ⟨_, _, _, _, h3⟩
    · exact .inr ⟨h3, h2⟩
    · exact .inl h3
  rcases hcs with h3 | ⟨h3, h2⟩
  · rw [h3] at hax ⊢
    generalize laR S = R at *
    clear h3
    go_enter Tryd.func8, Tryd.ntmps8
    go_wp2_with fail
    refine hax.out.mono ?_
    rintro e w2 ⟨v2, rfl, hr, b2⟩
    have hr := Lib.hid hr
    go_wp2_with fail
    go_ret2
    exact ⟨v2, rfl, hr.out, b2⟩
  · rw [h3, h2] at hax ⊢
    clear h3 h2
    go_enter Tryd.func8, Tryd.ntmps8
    go_wp2_with fail
    refine hax.out.mono ?_
    rintro e w2 ⟨v2, rfl, hr, b2⟩
    clear hr
    go_wp2_with fail
    go_ret2
    exact ⟨_, rfl, .inl ⟨rfl, rfl⟩, b2⟩
theorem laR_length (S : ByteArray) : (laR S).length ≤ 16 := by
  rcases la_cases S with ⟨_, h, _⟩ | ⟨k, hk, _, h, _⟩
  · rw [h]; simp
  · rw [h]
    have h9 := (lgRow_len hk).2
    have hl : (lgRow k).length = (lgA.getD k []).length + 1 := rfl
    omega

set_option maxHeartbeats 2000000 in
theorem w_FnExactLogicAxioms (S : ByteArray) (w : World) (_hs : S.size ≤ maxLen) (ht : LgTab w ∧ MaxL w) :
    Calls Tryd.prog 4 #[.string S] w fun e w' => e = .returned (.bool true) ∧ RowKit.Below w.heap.size w w' := by
  have hlen := laR_length S
  have himpl := Lib.hid (fun W (hb : RowKit.Below w.heap.size w W) => implLogicAxioms_any S W (ht.1.below hb (Nat.le_refl _)) (ht.2.below hb (Nat.le_refl _)))
  have hspec := Lib.hid (specLogicAxioms_any S)
  unfold maxLen at _hs
  clear ht
  generalize laCode S = C at *
  generalize laR S = R at *
  go_enter Tryd.func4, Tryd.ntmps4
  by_cases hl : 1048576 < S.size
  · go_wp2_with fail
    go_ret
    exact ⟨rfl, RowKit.Below.refl _ _⟩
  go_wp2_with fail
  refine (hspec.out _).mono ?_
  rintro e w1 ⟨vw, rfl, fw, b1⟩
  have B1 := b1
  go_wp2_with fail
  refine (himpl.out _ B1).mono ?_
  rintro e w2 ⟨vg, rfl, og, b2⟩
  have A2 := b2
  have B2 := keep_step b2 B1
  go_wp2_with fail
  refine (eqStringS_same _ _ R _ og.strL (fw.below A2 (Nat.le_refl _))).mono ?_
  rintro e w3 ⟨rfl, b3⟩
  have og := og.below b3 (Nat.le_refl _)
  have A3 := A2.trans (b3.mono A2.size)
  have B3 := keep_step b3 B2
  go_wp2_with fail
  refine (markAt_any _ _ R _ og (by omega)).mono ?_
  rintro e w4 ⟨rfl, om, g4⟩
  have hown : ∀ j, vg.ownBlock = some j → w1.heap.size ≤ j := by
    intro j hj
    rcases og with ⟨rfl, _⟩ | ⟨g, o, cap, cur, rfl, _, _, hB, _⟩
    · simp [Value.ownBlock] at hj
    · obtain rfl : g = j := by simpa [Value.ownBlock] using hj
      exact hB
  have s1 := B1.size
  have A4 := A3.grown g4 A3.size hown
  have B4 := B3.grown g4 B3.size (fun j hj => Nat.le_trans s1 (hown j hj))
  clear og g4 hown
  go_wp2_with fail
  refine (heldStringS_one _ _ _ om.strL (by omega)).mono ?_
  rintro e w5 ⟨rfl, b5⟩
  have om := om.below b5 (Nat.le_refl _)
  have A5 := A4.trans (b5.mono A4.size)
  have B5 := keep_step b5 B4
  go_wp2_with fail
  refine (himpl.out _ B5).mono ?_
  rintro e w6 ⟨vh, rfl, oh, b6⟩
  have om := om.below b6 (Nat.le_refl _)
  have A6 := A5.trans (b6.mono A5.size)
  have B6 := keep_step b6 B5
  go_wp2_with fail
  refine (eqStringS_same _ _ R _ oh.strL (fw.below A6 (Nat.le_refl _))).mono ?_
  rintro e w7 ⟨rfl, b7⟩
  have om := om.below b7 (Nat.le_refl _)
  have B7 := keep_step b7 B6
  go_wp2_with fail
  refine (heldStringS_one _ _ _ om.strL (by omega)).mono ?_
  rintro e w8 ⟨rfl, b8⟩
  have B8 := keep_step b8 B7
  go_wp2_with fail
  go_ret
  exact ⟨rfl, B8⟩
end Go.Proofs.YtkhbimdahjkgoaaDoor
