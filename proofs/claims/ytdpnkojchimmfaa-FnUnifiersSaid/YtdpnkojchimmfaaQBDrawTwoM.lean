/- Formulas that differ compare as different. -/
import Derived.Test.YtdpnkojchimmfaaQBCompareM
import Derived.Test.YtdpnkojchimmfaaQBTextInj
import Derived.Test.YtdpnkojchimmfaaQBDraw

namespace Go.Proofs.Ytdpnkojchimmfaa
open Go.RowKit

theorem bytes_same : ∀ (x y : List UInt8), Lib.compareBytes x y = 0 → x = y := by
  intro x
  induction x with
  | nil => intro y h; cases y with
           | nil => rfl
           | cons b y => simp [Lib.compareBytes] at h
  | cons a x ih =>
    intro y h
    cases y with
    | nil => simp [Lib.compareBytes] at h
    | cons b y =>
      simp only [Lib.compareBytes] at h
      by_cases h1 : a < b
      · simp [h1] at h
      · by_cases h2 : b < a
        · simp [h1, h2] at h
        · have he : a = b := UInt8.le_antisymm (UInt8.not_lt.1 h2) (UInt8.not_lt.1 h1)
          subst he
          simp [h1] at h
          rw [ih y h]
theorem cmp_ne {a b : List Nd} (hf : form2 a b = true) (hne : a ≠ b) : cmpR a b ≠ 0 := by
  intro h
  unfold cmpR at h
  rw [if_pos hf] at h
  unfold cmpS at h
  unfold form2 at hf
  have hab := (Bool.and_eq_true _ _).mp hf
  exact hne (text_tells hab.1 hab.2 (by4_inj (bytes_same _ _ h)))
theorem cmp_call {f : FuncId} {args : Array Value} {W : World} {a b : List Nd} (h : Calls Try.prog f args W fun e w' => e = .returned (.tuple #[.int .i64 (cmpR a b), .int .i64 (form2Code a b)]) ∧ Below W.heap.size W w') (hf : form2 a b = true) :
    Calls Try.prog f args W fun e w' => e = .returned (.tuple #[.int .i64 (cmpR a b), .int .i64 0]) ∧ Below W.heap.size W w' := by
  have e : form2Code a b = 0 := by unfold form2Code; rw [if_pos hf]
  rw [e] at h
  exact h
end Go.Proofs.Ytdpnkojchimmfaa

/- DrawSubMasks: two numbers are drawn. -/
namespace Go.Proofs.Ytdpnkojchimmfaa
open Go.RowKit

theorem St.below {w0 w w' : World} {b L K : Nat} {cv : Value} (h : St w0 b cv L w) (hb : Below K w w') (hk : w.heap.size ≤ K) : St w0 b cv L w' := by
  obtain ⟨t, x, hs, r⟩ := h.src
  exact ⟨⟨t, x, hs.below hb (by have := hs.lt; omega), r⟩, h.bel.trans (hb.mono (by have := h.bel.size; omega)), h.le⟩
theorem St.lt {w0 w : World} {b L : Nat} {cv : Value} (h : St w0 b cv L w) : b < w.heap.size := by
  obtain ⟨t, x, hs, _⟩ := h.src
  exact hs.lt

set_option maxHeartbeats 1000000 in
theorem l01Pick_any (w0 : World) (b : Nat) (cv : Value) (zs : List Int) (g k : Nat) (w : World) (hB : Bytes w0 cv zs) (hs : St w0 b cv zs.length w) (hL : zs.length ≤ 4096) (hk0 : 1 ≤ k) (hk1 : k ≤ 100) (hg : b < g) (hc : ∀ j, j < k → ∃ y : Int, w.cell? ⟨g, j, none⟩ = some (.int .i64 y)) :
    Calls Try.prog 90 #[.pointer (some ⟨b, 0, none⟩), .slice (some ⟨g, 0, none⟩) k k] w fun e w' => (∃ x : Int, e = .returned (.int .i64 x)) ∧ St w0 b cv zs.length w' ∧ Turned b (b + 1) w w' := by
  have hcall := Lib.hid (l01Next_any w0 b cv zs (k : Int) w hB hs (by omega) (by omega) hL)
  have hc := Lib.hid hc
  clear hB hs
  go_enter Try.func90, Try.ntmps90
  go_wp2_with fail
  refine hcall.out.mono ?_
  rintro e w1 ⟨⟨x, rfl, x0, x1⟩, hs1, t1⟩
  obtain ⟨X, rfl⟩ := Int.eq_ofNat_of_zero_le x0
  obtain ⟨y, hy⟩ := hc.out X (by omega)
  have hy := t1.cell hy (.inr (by omega))
  have hs1 := Lib.hid hs1
  have t1 := Lib.hid t1
  go_wp2_with fail
  go_ret
  exact ⟨⟨y, rfl⟩, hs1.out, t1.out⟩

theorem four_cells (w : World) (a b c d : Int) (t : TypeId) : ∀ j, j < 4 → ∃ y : Int, (w.alloc (.cells #[.int .i64 a, .int .i64 b, .int .i64 c, .int .i64 d] t)).cell? ⟨w.heap.size, j, none⟩ = some (.int .i64 y) := by
  intro j hj
  rw [World.cell?_alloc_at _ _ _ _ rfl]
  match j, hj with
  | 0, _ => exact ⟨a, rfl⟩
  | 1, _ => exact ⟨b, rfl⟩
  | 2, _ => exact ⟨c, rfl⟩
  | 3, _ => exact ⟨d, rfl⟩
theorem three_cells (w : World) (a b c : Int) (t : TypeId) : ∀ j, j < 3 → ∃ y : Int, (w.alloc (.cells #[.int .i64 a, .int .i64 b, .int .i64 c] t)).cell? ⟨w.heap.size, j, none⟩ = some (.int .i64 y) := by
  intro j hj
  rw [World.cell?_alloc_at _ _ _ _ rfl]
  match j, hj with
  | 0, _ => exact ⟨a, rfl⟩
  | 1, _ => exact ⟨b, rfl⟩
  | 2, _ => exact ⟨c, rfl⟩



end Go.Proofs.Ytdpnkojchimmfaa
