/- Worlds that differ in an interval of blocks only. -/
import Derived.Test.YtdpnkojchimmfaaQBKit
import Derived.Test.YtdpnkojchimmfaaQBMasks

namespace Go.Proofs.Ytdpnkojchimmfaa
open Go.RowKit

/-- Blocks outside lo .. hi are as they were. -/
structure Turned (lo hi : Nat) (w w' : World) : Prop where
  os : w'.os = w.os
  tape : w'.tape = w.tape
  output : w'.output = w.output
  size : w.heap.size ≤ w'.heap.size
  block : ∀ k, k < w.heap.size → (k < lo ∨ hi ≤ k) → w'.heap[k]? = w.heap[k]?

theorem Turned.refl (lo hi : Nat) (w : World) : Turned lo hi w w := ⟨rfl, rfl, rfl, Nat.le_refl _, fun _ _ _ => rfl⟩
theorem Turned.trans {lo hi : Nat} {a b c : World} (h : Turned lo hi a b) (k : Turned lo hi b c) : Turned lo hi a c :=
  ⟨k.os.trans h.os, k.tape.trans h.tape, k.output.trans h.output, Nat.le_trans h.size k.size, fun i hi h2 => (k.block i (Nat.lt_of_lt_of_le hi h.size) h2).trans (h.block i hi h2)⟩
theorem Turned.below {lo hi K : Nat} {w w' : World} (h : Turned lo hi w w') (hk : K ≤ lo) (hs : K ≤ w.heap.size) : Below K w w' :=
  ⟨h.os, h.tape, h.output, h.size, fun k hk' => h.block k (by omega) (.inl (by omega))⟩
theorem Turned.of_grown {lo hi : Nat} {w w' : World} {row : Option Nat} (hg : w.grownBy w' row) (hr : ∀ k, row = some k → lo ≤ k ∧ k < hi) : Turned lo hi w w' :=
  ⟨hg.os, hg.tape, hg.output, hg.size, fun k hk h2 => hg.block k hk (fun e => by have := hr k e.symm; omega)⟩

theorem row_same {w w' : World} {B : Nat} {e : TypeId} {s : Nat} {v : Value} {n : Nat} {xs : List Value} (h : w.ownsRow B e s v n xs) (hb : ∀ k, v.ownBlock = some k → B ≤ k → k < w.heap.size → w'.heap[k]? = w.heap[k]?) : w'.ownsRow B e s v n xs := by
  refine ⟨h.1, ?_⟩
  rcases h.2 with h2 | ⟨g, cap, cur, rfl, hB, hg, r⟩
  · exact .inl h2
  · refine .inr ⟨g, cap, cur, rfl, hB, ?_, r⟩
    rw [hb g rfl hB (Array.getElem?_eq_some_iff.1 hg).1]
    exact hg

theorem turned_row {lo hi B H : Nat} {w w' : World} {e : TypeId} {s : Nat} {v : Value} {n : Nat} {xs : List Value} (h : w.ownsRow B e s v n xs) (hl : ∀ k, v.ownBlock = some k → k < H) (ht : Turned lo hi w w') (hd : H ≤ lo ∨ hi ≤ B) : w'.ownsRow B e s v n xs :=
  row_same h fun k hk hB hlt => ht.block k hlt (by have := hl k hk; omega)

theorem reads_same {w w' : World} {k : Nat} {v : Value} {n : Nat} {cs : List Value} (h : Reads w k v n cs) (hb : ∀ b, v.ownBlock = some b → b < w.heap.size → w'.heap[b]? = w.heap[b]?) : Reads w' k v n cs := by
  obtain ⟨h1, h2, a, c, b, o, rfl, hc, ha, hcell⟩ := h
  refine ⟨h1, h2, a, c, b, o, rfl, hc, ha, fun i u hu => ?_⟩
  have hn : 0 < n := by
    rcases Nat.eq_zero_or_pos n with h0 | h0
    · have hi := (List.getElem?_eq_some_iff.1 hu).1
      rw [h1, h0] at hi; omega
    · exact h0
  obtain rfl := ha hn
  have h3 := hcell i u hu
  exact (World.cell?_of_block (hb b rfl (World.block_lt_of_cell? w _ h3))).trans h3

end Go.Proofs.Ytdpnkojchimmfaa

/- Walks of the functions on a mask's members: the lists and the counts, of the program and of the reference. -/
namespace Go.Proofs.Ytdpnkojchimmfaa
open Go.RowKit

theorem bits63 (m : Int) (h0 : 0 ≤ m) (h1 : m < 9223372036854775808) : m.toNat < 2 ^ 63 := by omega

/-- The members of a mask as the program lists them. -/
def mem (m : Int) : List Int := membersL m.toNat

theorem mem_length_le (m : Int) : (mem m).length ≤ 63 := bitsUpto_length _ _

theorem shr_zero (m : Int) (k : Nat) (h0 : 0 ≤ m) (h : m / 2 ^ k ≤ 0) : m.toNat / 2 ^ k = 0 := by
  rw [← toNat_shr m k h0]; omega

theorem shr_pos63 (m : Int) (k : Nat) (h0 : 0 ≤ m) (h1 : m < 9223372036854775808) (h : 0 < m / 2 ^ k) : k < 63 := by
  rcases Nat.lt_or_ge k 63 with h2 | h2
  · exact h2
  · have h3 : m.toNat / 2 ^ k = 0 := Nat.div_eq_of_lt (Nat.lt_of_lt_of_le (bits63 m h0 h1) (Nat.pow_le_pow_right (by omega) h2))
    rw [← toNat_shr m k h0] at h3
    omega


theorem half_step (m : Int) (k : Nat) (x : Int) (hx : x = m / 2 ^ k) (h0 : 0 ≤ m) : x / 2 = m / 2 ^ (k + 1) := by
  obtain ⟨M, rfl⟩ := Int.eq_ofNat_of_zero_le h0
  subst hx
  rw [Int.ediv_ediv_of_nonneg (by exact Int.le_of_lt (Int.pow_pos (by omega))), Int.pow_succ]

theorem half_bit (m : Int) (k : Nat) (x : Int) (hx : x = m / 2 ^ k) (h0 : 0 ≤ m) : (x % 2 == 1) = m.toNat.testBit k := by
  have h := toNat_shr m k h0
  rw [← hx] at h
  have h2 : 0 ≤ x := by rw [hx]; exact Int.ediv_nonneg h0 (Int.le_of_lt (Int.pow_pos (by omega)))
  rw [Nat.testBit_eq_decide_div_mod_eq, ← h, Bool.eq_iff_iff]
  simp only [beq_iff_eq, decide_eq_true_eq]
  omega

theorem half_le (m : Int) (k : Nat) (x : Int) (hx : x = m / 2 ^ k) (h0 : 0 ≤ m) : 0 ≤ x ∧ x ≤ m := by
  subst hx
  exact ⟨Int.ediv_nonneg h0 (Int.le_of_lt (Int.pow_pos (by omega))), Int.ediv_le_self _ h0⟩

theorem half_zero (m : Int) (k : Nat) (x : Int) (hx : x = m / 2 ^ k) (h0 : 0 ≤ m) (h : x ≤ 0) : m.toNat / 2 ^ k = 0 := shr_zero m k h0 (by omega)
theorem half_pos (m : Int) (k : Nat) (x : Int) (hx : x = m / 2 ^ k) (h0 : 0 ≤ m) (h1 : m < 9223372036854775808) (h : 0 < x) : k < 63 := shr_pos63 m k h0 h1 (by omega)

set_option maxHeartbeats 400000 in
theorem l01List_any (m : Int) (h0 : 0 ≤ m) (h1 : m < 9223372036854775808) (w : World) :
    Calls Try.prog 86 #[.int .i64 m] w fun e w' => ∃ v, e = .returned v ∧ w'.ownsRow w.heap.size 2 1 v (mem m).length ((mem m).map (Value.int .i64)) ∧ Below w.heap.size w w' := by
  obtain ⟨i0, hi, hz0, hz1, hz2⟩ := info_parts info_i64
  have hdone := Lib.hid (bitsUpto_done m.toNat)
  go_enter Try.func86, Try.ntmps86
  go_wp2
  go_loopw [0, 3, 4] (fun x v i wr => ∃ (k : Nat) (y : Int), k ≤ 63 ∧ i = .int .i64 k ∧ x = .int .i64 y ∧ Hid (y = m / 2 ^ k) ∧ wr.ownsRow w.heap.size 2 1 v (bitsUpto m.toNat k).length ((bitsUpto m.toNat k).map (Value.int .i64)) ∧ Below w.heap.size w wr) (fun _ _ i _ => 63 - (intOf i).toNat)
  case atStart => exact ⟨0, m, by omega, rfl, rfl, by show m = m / 2 ^ 0; simp, World.ownsRow_lit w #[] 0 (Nat.le_refl _) (by simp [maxLen]) rfl, (Below.refl _ _).alloc (Nat.le_refl _) _⟩
  case round =>
    obtain ⟨k, y, hk, rfl, rfl, hy, ho, hb⟩ := hrel
    obtain ⟨y0, y1⟩ := half_le m k y hy.out h0
    by_cases hlt : 0 < y
    · have hk2 := half_pos m k y hy.out h0 h1 hlt
      have hl := bitsUpto_length m.toNat k
      have hs := Lib.hid (bitsUpto_succ m.toNat k)
      have hbit := half_bit m k y hy.out h0
      cases hh : m.toNat.testBit k
      · rw [hh] at hbit
        go_wp2
        go_roundw
        case rel =>
          have e : bitsUpto m.toNat (k + 1) = bitsUpto m.toNat k := by rw [hs.out]; simp [hh]
          exact ⟨k + 1, y / 2, by omega, by go_num, rfl, half_step m k y hy.out h0, by rw [e]; exact ho, hb⟩
        case measure => simp [intOf]; omega
      · rw [hh] at hbit
        have hsz := hb.size
        go_wp2_with (at_builtin; refine wpList_append_own _ rfl _ _ 74 rfl w.heap.size 2 i0 (.int .i64 0) 1 8 Try.underlying74 hi hz0 hz1 hz2 rfl (by decide) _ _ _ rfl (ho.alloc _) ⟨wr.heap.size, 0, none⟩ 1 1 [.int .i64 (k : Int)] rfl rfl (cell_one_new _ _ _) (ints_oneCell .i64 [(k : Int)]) (by unfold maxLen; omega) (by omega) (by simp; omega) ?_; intro v' w1 hown' hgrow _)
        go_roundw
        case rel =>
          have e : bitsUpto m.toNat (k + 1) = bitsUpto m.toNat k ++ [(k : Int)] := by rw [hs.out]; simp [hh]
          refine ⟨k + 1, y / 2, by omega, by go_num, rfl, half_step m k y hy.out h0, ?_, ?_⟩
          · rw [e]; simpa using hown'
          · exact (hb.alloc (by omega) _).grown hgrow (by simp; omega) (fun j hj => (ho.lt j hj).1)
        case measure => simp [intOf]; omega
    · have hd := Lib.hid (hdone.out k (half_zero m k y hy.out h0 (by omega)) (bits63 m h0 h1))
      have ho := Lib.hid ho
      go_wp2
      go_ret
      have ho := ho.out
      rw [hd.out] at ho
      exact ⟨_, rfl, ho, hb⟩

theorem ones_done (m k : Nat) (h : m / 2 ^ k = 0) (hk : k ≤ 64) : ones k m = ones 64 m := by
  rw [show 64 = k + (64 - k) by omega, ones_split, h, ones_zero]; omega

theorem ones_succ (m : Int) (k : Nat) (y : Int) (hy : y = m / 2 ^ k) (h0 : 0 ≤ m) : ((ones (k + 1) m.toNat : Nat) : Int) = (ones k m.toNat : Nat) + y % 2 := by
  have h := toNat_shr m k h0
  rw [← hy] at h
  have := half_le m k y hy h0
  rw [ones_split, ← h]
  simp only [ones]
  omega

theorem mem_popInt (m : Int) (h0 : 0 ≤ m) (h1 : m < 9223372036854775808) : ((mem m).length : Int) = popInt m := by
  unfold mem membersL popInt
  rw [bitsUpto_ones]
  have : ones 63 m.toNat = ones 64 m.toNat := ones_done _ _ (Nat.div_eq_of_lt (bits63 m h0 h1)) (by omega)
  rw [this]

theorem popInt_bounds (m : Int) : 0 ≤ popInt m ∧ popInt m ≤ 64 := by
  have := ones_le 64 m.toNat
  unfold popInt
  omega



theorem maskCode_bounds {n m : Int} (h : maskCode n m = 0) : 0 ≤ n ∧ n ≤ 30 ∧ 0 ≤ m ∧ m < 1073741824 := by
  unfold maskCode at h
  split at h
  · rename_i h1
    split at h
    · rename_i h2
      have h1 := inR_iff.1 h1
      have h2 := inR_iff.1 h2
      have := pow_bounds n 30 (by omega)
      rw [show (2 : Int) ^ 30 = 1073741824 by decide] at this
      unfold full at h2
      omega
    · cases h
  · cases h

def membersR (n m : Int) : List Int := if maskCode n m = 0 then mem m else []
def countR (n m : Int) : Int := if maskCode n m = 0 then popInt m else 0

theorem maskCode_ne {n m : Int} (h : ¬ maskCode n m = 0) : (maskCode n m != 0) = true := by simpa using h
theorem maskCode_eq {n m : Int} (h : maskCode n m = 0) : (maskCode n m != 0) = false := by simpa using h




end Go.Proofs.Ytdpnkojchimmfaa

/- The reference's test of a bit. -/
namespace Go.Proofs.Ytdpnkojchimmfaa
open Go.RowKit

end Go.Proofs.Ytdpnkojchimmfaa
