/- The decimal text of a digit. -/
import Derived.Test.YtfedipeabbaccaaDoorInts
namespace Go.Proofs.YtfedipeabbaccaaDoor
open Go.RowKit

def dec1 (n : Int) : ByteArray := ⟨#[UInt8.ofNat (48 + n.toNat)]⟩
theorem digit_cases {n : Int} (h0 : 0 ≤ n) (h1 : n ≤ 9) : n = 0 ∨ n = 1 ∨ n = 2 ∨ n = 3 ∨ n = 4 ∨ n = 5 ∨ n = 6 ∨ n = 7 ∨ n = 8 ∨ n = 9 := by omega

theorem decimal_any (n : Int) (h0 : 0 ≤ n) (h1 : n ≤ 9) (w : World) :
    Calls Tryd.prog 63 #[.int .i64 n] w fun e w' => e = .returned (.string (dec1 n)) ∧ w = w' := by
  rcases digit_cases h0 h1 with rfl | rfl | rfl | rfl | rfl | rfl | rfl | rfl | rfl | rfl
  all_goals
    go_enter Tryd.func63, Tryd.ntmps63
    go_wp2
    go_ret
    exact ⟨rfl, rfl⟩

theorem conv_digit (w : World) (c : Nat) (hc : c < 256) : (convert 90 9 (.slice (some ⟨w.heap.size, 0, none⟩) 1 1)).run Tryd.prog (w.alloc (.cells #[.int .u8 (c : Int)] 5)) = .ok (.string ⟨#[UInt8.ofNat c]⟩) (w.alloc (.cells #[.int .u8 (c : Int)] 5)) := by
  refine run_convert_bytes_back (P := Tryd.prog) (w.alloc (.cells #[.int .u8 (c : Int)] 5)) 90 9 5 ⟨w.heap.size, 0, none⟩ 1 [UInt8.ofNat c] Tryd.underlying90 Tryd.underlying5 Tryd.underlying9 fun j hj => ?_
  obtain rfl : j = 0 := by simpa using hj
  rw [Addr.add_lit, World.cell?_alloc_at _ _ _ _ rfl]
  have h9 : (UInt8.ofNat c).toNat = c := by simp; omega
  simp [h9]
set_option maxRecDepth 100000 in
theorem l01Dec_any (n : Int) (h0 : 0 ≤ n) (h1 : n ≤ 9) (w : World) :
    Calls Tryd.prog 53 #[.int .i64 n] w fun e w' => e = .returned (.string (dec1 n)) ∧ Below w.heap.size w w' := by
  rcases digit_cases h0 h1 with rfl | rfl | rfl | rfl | rfl | rfl | rfl | rfl | rfl | rfl
  · have hconv : (convert 90 9 (.slice (some ⟨w.heap.size, 0, none⟩) 1 1)).run Tryd.prog (w.alloc (.cells #[.int .u8 48] 5)) = .ok (.string (dec1 0)) (w.alloc (.cells #[.int .u8 48] 5)) := conv_digit w 48 (by omega)
    generalize dec1 0 = S at *
    go_enter Tryd.func53, Tryd.ntmps53
    go_wp2_with fail
    go_ret
    exact ⟨rfl, (Below.refl _ _).alloc (Nat.le_refl _) _⟩
  · have hconv : (convert 90 9 (.slice (some ⟨w.heap.size, 0, none⟩) 1 1)).run Tryd.prog (w.alloc (.cells #[.int .u8 49] 5)) = .ok (.string (dec1 1)) (w.alloc (.cells #[.int .u8 49] 5)) := conv_digit w 49 (by omega)
    generalize dec1 1 = S at *
    go_enter Tryd.func53, Tryd.ntmps53
    go_wp2_with fail
    go_ret
    exact ⟨rfl, (Below.refl _ _).alloc (Nat.le_refl _) _⟩
  · have hconv : (convert 90 9 (.slice (some ⟨w.heap.size, 0, none⟩) 1 1)).run Tryd.prog (w.alloc (.cells #[.int .u8 50] 5)) = .ok (.string (dec1 2)) (w.alloc (.cells #[.int .u8 50] 5)) := conv_digit w 50 (by omega)
    generalize dec1 2 = S at *
    go_enter Tryd.func53, Tryd.ntmps53
    go_wp2_with fail
    go_ret
    exact ⟨rfl, (Below.refl _ _).alloc (Nat.le_refl _) _⟩
  · have hconv : (convert 90 9 (.slice (some ⟨w.heap.size, 0, none⟩) 1 1)).run Tryd.prog (w.alloc (.cells #[.int .u8 51] 5)) = .ok (.string (dec1 3)) (w.alloc (.cells #[.int .u8 51] 5)) := conv_digit w 51 (by omega)
    generalize dec1 3 = S at *
    go_enter Tryd.func53, Tryd.ntmps53
    go_wp2_with fail
    go_ret
    exact ⟨rfl, (Below.refl _ _).alloc (Nat.le_refl _) _⟩
  · have hconv : (convert 90 9 (.slice (some ⟨w.heap.size, 0, none⟩) 1 1)).run Tryd.prog (w.alloc (.cells #[.int .u8 52] 5)) = .ok (.string (dec1 4)) (w.alloc (.cells #[.int .u8 52] 5)) := conv_digit w 52 (by omega)
    generalize dec1 4 = S at *
    go_enter Tryd.func53, Tryd.ntmps53
    go_wp2_with fail
    go_ret
    exact ⟨rfl, (Below.refl _ _).alloc (Nat.le_refl _) _⟩
  · have hconv : (convert 90 9 (.slice (some ⟨w.heap.size, 0, none⟩) 1 1)).run Tryd.prog (w.alloc (.cells #[.int .u8 53] 5)) = .ok (.string (dec1 5)) (w.alloc (.cells #[.int .u8 53] 5)) := conv_digit w 53 (by omega)
    generalize dec1 5 = S at *
    go_enter Tryd.func53, Tryd.ntmps53
    go_wp2_with fail
    go_ret
    exact ⟨rfl, (Below.refl _ _).alloc (Nat.le_refl _) _⟩
  · have hconv : (convert 90 9 (.slice (some ⟨w.heap.size, 0, none⟩) 1 1)).run Tryd.prog (w.alloc (.cells #[.int .u8 54] 5)) = .ok (.string (dec1 6)) (w.alloc (.cells #[.int .u8 54] 5)) := conv_digit w 54 (by omega)
    generalize dec1 6 = S at *
    go_enter Tryd.func53, Tryd.ntmps53
    go_wp2_with fail
    go_ret
    exact ⟨rfl, (Below.refl _ _).alloc (Nat.le_refl _) _⟩
  · have hconv : (convert 90 9 (.slice (some ⟨w.heap.size, 0, none⟩) 1 1)).run Tryd.prog (w.alloc (.cells #[.int .u8 55] 5)) = .ok (.string (dec1 7)) (w.alloc (.cells #[.int .u8 55] 5)) := conv_digit w 55 (by omega)
    generalize dec1 7 = S at *
    go_enter Tryd.func53, Tryd.ntmps53
    go_wp2_with fail
    go_ret
    exact ⟨rfl, (Below.refl _ _).alloc (Nat.le_refl _) _⟩
  · have hconv : (convert 90 9 (.slice (some ⟨w.heap.size, 0, none⟩) 1 1)).run Tryd.prog (w.alloc (.cells #[.int .u8 56] 5)) = .ok (.string (dec1 8)) (w.alloc (.cells #[.int .u8 56] 5)) := conv_digit w 56 (by omega)
    generalize dec1 8 = S at *
    go_enter Tryd.func53, Tryd.ntmps53
    go_wp2_with fail
    go_ret
    exact ⟨rfl, (Below.refl _ _).alloc (Nat.le_refl _) _⟩
  · have hconv : (convert 90 9 (.slice (some ⟨w.heap.size, 0, none⟩) 1 1)).run Tryd.prog (w.alloc (.cells #[.int .u8 57] 5)) = .ok (.string (dec1 9)) (w.alloc (.cells #[.int .u8 57] 5)) := conv_digit w 57 (by omega)
    generalize dec1 9 = S at *
    go_enter Tryd.func53, Tryd.ntmps53
    go_wp2_with fail
    go_ret
    exact ⟨rfl, (Below.refl _ _).alloc (Nat.le_refl _) _⟩
end Go.Proofs.YtfedipeabbaccaaDoor
