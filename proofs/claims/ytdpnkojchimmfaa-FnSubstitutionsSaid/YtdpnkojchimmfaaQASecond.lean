/- A substitution of six formulas of one node each, made of literals. -/
import Derived.Test.YtdpnkojchimmfaaQASubLaw

namespace Go.Proofs.Ytdpnkojchimmfaa
open Go.RowKit

theorem one_new (w : World) (x y : Int) : Nodes (w.alloc (.cells #[.int .i64 x, .int .i64 y] 41)) (.slice (some ⟨w.heap.size, 0, none⟩) 1 1) [(x, y)] :=
  nodes_of_own (World.ownsRow_lit (e := 41) (base := w.heap.size) (size := 2) w #[.int .i64 x, .int .i64 y] 1 (Nat.le_refl _) (by simp [maxLen]) rfl)
def six1 (w : World) : World := w.alloc (.cells #[.int .i64 0, .int .i64 1] 41)
def six2 (w : World) : World := (six1 w).alloc (.cells #[.int .i64 0, .int .i64 0] 41)
def six3 (w : World) : World := (six2 w).alloc (.cells #[.int .i64 1, .int .i64 0] 41)
def six4 (w : World) : World := (six3 w).alloc (.cells #[.int .i64 0, .int .i64 3] 41)
def six5 (w : World) : World := (six4 w).alloc (.cells #[.int .i64 0, .int .i64 4] 41)
def six6 (w : World) : World := (six5 w).alloc (.cells #[.int .i64 0, .int .i64 5] 41)
def oneV (n : Nat) : Value := .slice (some ⟨n, 0, none⟩) 1 1
def six7 (w : World) : World := (six6 w).alloc (.cells #[oneV w.heap.size, oneV (w.heap.size + 1), oneV (w.heap.size + 2), oneV (w.heap.size + 3), oneV (w.heap.size + 4), oneV (w.heap.size + 5)] 27)
theorem alloc_size (w : World) (o : Obj) : (w.alloc o).heap.size = w.heap.size + 1 := by simp
theorem below_alloc1 (w : World) (o : Obj) : Below w.heap.size w (w.alloc o) := (Below.refl w.heap.size w).alloc (Nat.le_refl _) o

theorem second_fs (w : World) : Fs (six7 w) (.slice (some ⟨w.heap.size + 6, 0, none⟩) 6 6) secondL ∧ Below w.heap.size w (six7 w) := by
  have s1 : (six1 w).heap.size = w.heap.size + 1 := alloc_size _ _
  have s2 : (six2 w).heap.size = w.heap.size + 2 := by unfold six2; rw [alloc_size, s1]
  have s3 : (six3 w).heap.size = w.heap.size + 3 := by unfold six3; rw [alloc_size, s2]
  have s4 : (six4 w).heap.size = w.heap.size + 4 := by unfold six4; rw [alloc_size, s3]
  have s5 : (six5 w).heap.size = w.heap.size + 5 := by unfold six5; rw [alloc_size, s4]
  have s6 : (six6 w).heap.size = w.heap.size + 6 := by unfold six6; rw [alloc_size, s5]
  have b1 : Below w.heap.size w (six1 w) := below_alloc1 _ _
  have b2 : Below (six1 w).heap.size (six1 w) (six2 w) := below_alloc1 _ _
  have b3 : Below (six2 w).heap.size (six2 w) (six3 w) := below_alloc1 _ _
  have b4 : Below (six3 w).heap.size (six3 w) (six4 w) := below_alloc1 _ _
  have b5 : Below (six4 w).heap.size (six4 w) (six5 w) := below_alloc1 _ _
  have b6 : Below (six5 w).heap.size (six5 w) (six6 w) := below_alloc1 _ _
  have b7 : Below (six6 w).heap.size (six6 w) (six7 w) := below_alloc1 _ _
  have c6 := keep_step b7 b6
  have c5 := keep_step c6 b5
  have c4 := keep_step c5 b4
  have c3 := keep_step c4 b3
  have c2 := keep_step c3 b2
  have c1 := keep_step c2 b1
  have n1 : Nodes (six1 w) (oneV w.heap.size) [(0, 1)] := one_new w 0 1
  have n2 : Nodes (six2 w) (oneV (w.heap.size + 1)) [(0, 0)] := by have := one_new (six1 w) 0 0; rw [s1] at this; exact this
  have n3 : Nodes (six3 w) (oneV (w.heap.size + 2)) [(1, 0)] := by have := one_new (six2 w) 1 0; rw [s2] at this; exact this
  have n4 : Nodes (six4 w) (oneV (w.heap.size + 3)) [(0, 3)] := by have := one_new (six3 w) 0 3; rw [s3] at this; exact this
  have n5 : Nodes (six5 w) (oneV (w.heap.size + 4)) [(0, 4)] := by have := one_new (six4 w) 0 4; rw [s4] at this; exact this
  have n6 : Nodes (six6 w) (oneV (w.heap.size + 5)) [(0, 5)] := by have := one_new (six5 w) 0 5; rw [s5] at this; exact this
  refine ⟨⟨[((some ⟨w.heap.size, 0, none⟩, 1, 1), [(0, 1)]), ((some ⟨w.heap.size + 1, 0, none⟩, 1, 1), [(0, 0)]), ((some ⟨w.heap.size + 2, 0, none⟩, 1, 1), [(1, 0)]), ((some ⟨w.heap.size + 3, 0, none⟩, 1, 1), [(0, 3)]), ((some ⟨w.heap.size + 4, 0, none⟩, 1, 1), [(0, 4)]), ((some ⟨w.heap.size + 5, 0, none⟩, 1, 1), [(0, 5)])], ?_, ?_, rfl⟩, c1⟩
  · refine ⟨rfl, by show 6 ≤ maxLen; unfold maxLen; omega, _, 6, w.heap.size + 6, 0, rfl, by show 6 ≤ 6; omega, fun _ => rfl, fun i u hu => ?_⟩
    unfold six7
    rw [World.cell?_alloc_at _ _ _ _ s6.symm]
    match i, hu with
    | 0, hu => simpa [slV, oneV] using hu
    | 1, hu => simpa [slV, oneV] using hu
    | 2, hu => simpa [slV, oneV] using hu
    | 3, hu => simpa [slV, oneV] using hu
    | 4, hu => simpa [slV, oneV] using hu
    | 5, hu => simpa [slV, oneV] using hu
    | i + 6, hu => simp at hu
  · intro s hs
    simp only [List.mem_cons, List.not_mem_nil, or_false] at hs
    rcases hs with rfl | rfl | rfl | rfl | rfl | rfl
    · exact n1.below c2 (Nat.le_refl _)
    · exact n2.below c3 (Nat.le_refl _)
    · exact n3.below c4 (Nat.le_refl _)
    · exact n4.below c5 (Nat.le_refl _)
    · exact n5.below c6 (Nat.le_refl _)
    · exact n6.below b7 (Nat.le_refl _)
end Go.Proofs.Ytdpnkojchimmfaa
