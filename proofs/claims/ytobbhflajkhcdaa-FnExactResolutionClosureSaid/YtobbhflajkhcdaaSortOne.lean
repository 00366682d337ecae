/- slices.SortFunc and slices.CompactFunc at a list of at most one element: nothing moves and nothing is compared. -/
import Derived.Test.YtobbhflajkhcdaaResolve
import Derived.Handy
namespace Go.Proofs.Ytobbhflajkhcdaa
open Go.RowKit Go.Lib
set_option linter.unusedVariables false

set_option maxHeartbeats 1000000 in
theorem insOne_any (a : Option Addr) (n c : Nat) (fv : Value) (w : World) (hn : n ≤ 1) :
    Calls Try.prog 52 #[.slice a n c, .int .i64 0, .int .i64 (n : Int), fv] w fun e w' => e = .returned (.tuple #[]) ∧ w = w' := by
  go_enter Try.func52, Try.ntmps52
  go_wp2_with fail
  go_loop [8] (fun i => i = .int .i64 1) (fun _ => 1)
  case atStart => rfl
  case round =>
    subst hrel
    have hlt : ¬ (1 : Int) < (n : Int) := by omega
    go_wp2_with fail
    go_returns
    exact ⟨rfl, rfl⟩
set_option maxHeartbeats 4000000 in
theorem pdqOne_any (a : Option Addr) (n c : Nat) (l : Int) (fv : Value) (w : World) (hn : n ≤ 1) :
    Calls Try.prog 45 #[.slice a n c, .int .i64 0, .int .i64 (n : Int), .int .i64 l, fv] w fun e w' => e = .returned (.tuple #[]) ∧ w = w' := by
  have hin := Lib.hid (fun W => insOne_any a n c fv W hn)
  have h12 : (n : Int) ≤ 12 := by omega
  have hsub : (n : Int) - 0 ≤ 12 := by omega
  go_enter Try.func45, Try.ntmps45
  go_wp2_with fail
  go_loop [1, 2] (fun x y => x = .int .i64 0 ∧ y = .int .i64 (n : Int)) (fun _ _ => 1)
  case atStart => exact ⟨rfl, rfl⟩
  case round =>
    obtain ⟨rfl, rfl⟩ := hrel
    go_wp2_with (go_at_call 52; refine (hin.out _).mono ?_; rintro e w' ⟨rfl, rfl⟩)
    go_returns
    exact ⟨rfl, rfl⟩
set_option maxHeartbeats 1000000 in
theorem sortFuncOne_any (a : Option Addr) (n c : Nat) (fv : Value) (w : World) (hn : n ≤ 1) :
    Calls Try.prog 34 #[.slice a n c, fv] w fun e w' => e = .returned (.tuple #[]) ∧ w = w' := by
  have hin := Lib.hid (fun l W => pdqOne_any a n c l fv W hn)
  have hbl := Lib.hid (fun W => sh_bits_Len (n : Int) W (by omega) (by omega))
  have hw0 : IntKind.u64.wrap (n : Int) = (n : Int) := by rw [IntKind.wrap_u64]; omega
  go_enter Try.func34, Try.ntmps34
  go_wp2_with (first | (go_at_call 46; refine (hbl.out _).mono ?_; rintro e w' ⟨rfl, rfl⟩) | (go_at_call 45; refine (hin.out _ _).mono ?_; rintro e w' ⟨rfl, rfl⟩))
  go_returns
  exact ⟨rfl, rfl⟩
set_option maxHeartbeats 1000000 in
theorem compactFuncOne_any (a : Option Addr) (n c : Nat) (fv : Value) (w : World) (hn : n ≤ 1) :
    Calls Try.prog 36 #[.slice a n c, fv] w fun e w' => e = .returned (.slice a n c) ∧ w = w' := by
  have h2 : (n : Int) < 2 := by omega
  go_enter Try.func36, Try.ntmps36
  go_wp2_with fail
  go_ret
  exact ⟨rfl, rfl⟩
set_option maxHeartbeats 1000000 in
theorem sortedListsOne_any (a : Option Addr) (n c : Nat) (w : World) (hn : n ≤ 1) :
    Calls Try.prog 17 #[.slice a n c] w fun e w' => e = .returned (.slice a n c) ∧ w = w' := by
  have hs := Lib.hid (fun fv W => sortFuncOne_any a n c fv W hn)
  have hc := Lib.hid (fun fv W => compactFuncOne_any a n c fv W hn)
  go_enter Try.func17, Try.ntmps17
  go_wp2_with (first | (go_at_call 34; refine (hs.out _ _).mono ?_; rintro e w' ⟨rfl, rfl⟩) | (go_at_call 36; refine (hc.out _ _).mono ?_; rintro e w' ⟨rfl, rfl⟩))
  go_ret
  exact ⟨rfl, rfl⟩
end Go.Proofs.Ytobbhflajkhcdaa
