/- Walks of MaskOf and ChooseMasks, of the program and of the reference. -/
import Derived.Test.YtfedipeabbaccaaMembers
import Derived.Test.YtfedipeabbaccaaPred
namespace Go.Proofs.Ytfedipeabbaccaa
open Go.RowKit

/-- The mask of the numbers of a list. -/
def orBits (xs : List Int) : Nat := xs.foldl (fun acc x => acc ||| 2 ^ x.toNat) 0

theorem orBits_succ (xs : List Int) (k : Nat) (x : Int) (hx : xs[k]? = some x) : orBits (xs.take (k + 1)) = orBits (xs.take k) ||| 2 ^ x.toNat := by
  have hk : k < xs.length := (List.getElem?_eq_some_iff.1 hx).1
  have e : xs.take (k + 1) = xs.take k ++ [x] := by
    rw [List.take_add_one, hx]; rfl
  rw [e]
  simp [orBits, List.foldl_append]

theorem or_step (m x : Int) (h0 : 0 ≤ m) (h1 : m < 1073741824) (_h2 : 0 ≤ x) (h3 : x ≤ 29) :
    bits BinOp.or IntKind.i64 m (2 ^ x.toNat) = ((m.toNat ||| 2 ^ x.toNat : Nat) : Int) ∧ 0 ≤ bits BinOp.or IntKind.i64 m (2 ^ x.toNat) ∧ bits BinOp.or IntKind.i64 m (2 ^ x.toNat) < 1073741824 := by
  have hp := pow_bounds x 29 (by omega)
  rw [show (2 : Int) ^ 29 = 536870912 by decide] at hp
  have e : ((2 : Int) ^ x.toNat) = ((2 ^ x.toNat : Nat) : Int) := by simp
  have hq : (2 : Nat) ^ x.toNat < 2 ^ 30 := by rw [e] at hp; omega
  have hr : m.toNat ||| 2 ^ x.toNat < 2 ^ 30 := Nat.or_lt_two_pow (by omega) hq
  rw [e] at hp
  rw [e, i64_or _ _ h0 (by omega) (by omega) (by omega), Int.toNat_natCast]
  refine ⟨rfl, by omega, by omega⟩

def maskOfCode (n : Int) (xs : List Int) : Int := if inR n 0 30 then if xs.all (inR · 0 (n - 1)) then 0 else 1 else 2
def maskOfR (n : Int) (xs : List Int) : Int := if inR n 0 30 && xs.all (inR · 0 (n - 1)) then (orBits xs : Nat) else 0


set_option maxHeartbeats 400000 in
theorem implMaskOf_any (n : Int) (v : Value) (xs : List Int) (w : World) (h : Ints w v xs) :
    Calls Try.prog 28 #[.int .i64 n, v] w fun e w' => e = .returned (.tuple #[.int .i64 (maskOfR n xs), .int .i64 (maskOfCode n xs)]) ∧ w = w' := by
  obtain ⟨hm, a, c, b, o, rfl, hc, h0, hcell⟩ := h.opened
  unfold maxLen at hm
  clear h
  cases hn : inR n 0 30
  · have hf := Lib.hid (show maskOfR n xs = 0 ∧ maskOfCode n xs = 2 by simp [maskOfR, maskOfCode, hn])
    clear h0
    go_enter Try.func28, Try.ntmps28
    go_wp2_with (go_at_call 58; refine (inRange_any _ _ _ _).mono ?_; rintro e w' ⟨rfl, rfl⟩)
    go_ret2
    exact ⟨by rw [hf.out.1, hf.out.2]; rfl, rfl⟩
  · obtain ⟨n0, n1⟩ := inR_iff.1 hn
    have hgood := Lib.hid (show (∀ i x, i < xs.length → xs[i]? = some x → inR x 0 (n - 1) = true) → maskOfR n xs = (orBits xs : Nat) ∧ maskOfCode n xs = 0 from fun hh => by
      have := all_good hh
      simp only [maskOfR, maskOfCode, hn, this]; exact ⟨rfl, rfl⟩)
    have hbad := Lib.hid (show ∀ k x, xs[k]? = some x → inR x 0 (n - 1) = false → maskOfR n xs = 0 ∧ maskOfCode n xs = 1 from fun k x hx hh => by
      have := all_bad (p := (inR · 0 (n - 1))) hx hh
      simp only [maskOfR, maskOfCode, hn, this]; exact ⟨rfl, rfl⟩)
    rcases h0 with h0 | ⟨h0, rfl⟩
    all_goals
      go_enter Try.func28, Try.ntmps28
      go_wp2_with (go_at_call 58; refine (inRange_any _ _ _ _).mono ?_; rintro e w' ⟨rfl, rfl⟩)
      go_loop [6, 14] (fun mm i => ∃ (k : Nat) (m : Int), k ≤ xs.length ∧ i = .int .i64 k ∧ mm = .int .i64 m ∧ 0 ≤ m ∧ m < 1073741824 ∧ Hid (m = (orBits (xs.take k) : Nat)) ∧ Hid (∀ i x, i < k → xs[i]? = some x → inR x 0 (n - 1) = true)) (fun _ i => xs.length - (intOf i).toNat)
      case atStart => exact ⟨0, 0, Nat.zero_le _, rfl, rfl, by omega, by omega, rfl, fun i x hi => by omega⟩
      case round =>
        obtain ⟨k, m, hk, rfl, rfl, m0, m1, hmm, hall⟩ := hrel
        by_cases hlt : k < xs.length
        · all_goals try (exfalso; omega)
          all_goals
            obtain ⟨x, hx, hcx⟩ := hcell.out k hlt
            have hx := Lib.hid hx
            cases hin : inR x 0 (n - 1)
            · have hf := Lib.hid (hbad.out k x hx.out hin)
              go_wp2_with (go_at_call 58; refine (inRange_any _ _ _ _).mono ?_; rintro e w' ⟨rfl, rfl⟩)
              go_ret2
              exact ⟨by rw [hf.out.1, hf.out.2]; rfl, rfl⟩
            · obtain ⟨x0, x1⟩ := inR_iff.1 hin
              have hp := pow_bounds x 29 (by omega)
              rw [show (2 : Int) ^ 29 = 536870912 by decide] at hp
              obtain ⟨hp1, hp2⟩ := hp
              have hs := or_step m x m0 m1 x0 (by omega)
              have hs1 := Lib.hid hs.1
              obtain ⟨hs2, hs3⟩ := hs.2
              clear hs
              go_wp2_with (go_at_call 58; refine (inRange_any _ _ _ _).mono ?_; rintro e w' ⟨rfl, rfl⟩)
              go_round
              case rel =>
                refine ⟨k + 1, _, by omega, by go_num, rfl, hs2, hs3, ?_, ?_⟩
                · show _ = _
                  rw [hs1.out, orBits_succ xs k x hx.out, hmm.out, Int.toNat_natCast]
                · intro i y hi hy
                  rcases Nat.lt_or_ge i k with h2 | h2
                  · exact hall.out i y h2 hy
                  · obtain rfl : i = k := by omega
                    rw [hx.out] at hy
                    obtain rfl := Option.some.inj hy
                    exact hin
              case measure => simp [intOf]; omega
        · obtain rfl : k = xs.length := by omega
          have hf := Lib.hid (hgood.out (fun i x hi hx => hall.out i x hi hx))
          go_wp2
          go_ret2
          refine ⟨?_, rfl⟩
          have h1 := hmm.out
          rw [List.take_length] at h1
          rw [hf.out.1, hf.out.2, ← h1]
          rfl
end Go.Proofs.Ytfedipeabbaccaa
