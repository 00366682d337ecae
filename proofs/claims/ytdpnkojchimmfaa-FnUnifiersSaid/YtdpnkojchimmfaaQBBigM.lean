/- Contracts in the shape that the laws' own walks want (written by gensub.py). -/
import Derived.Test.YtdpnkojchimmfaaQBSubForm
import Derived.Test.YtdpnkojchimmfaaQBRowSS
import Derived.Test.YtdpnkojchimmfaaQBDraw

namespace Go.Proofs.Ytdpnkojchimmfaa
open Go.RowKit
set_option linter.unusedVariables false

theorem fs_shape {w : World} {v : Value} {Is : List (List Nd)} (h : Fs w v Is) : ∃ a c, v = .slice a Is.length c := by
  obtain ⟨a, c, _, _, rfl, _⟩ := h.cells
  exact ⟨a, c, rfl⟩
theorem subN_call {f : FuncId} {args : Array Value} {W : World} {c d : Int} {x y : List Nd} (h : Calls Try.prog f args W fun e w' => ∃ v', e = .returned (.tuple #[v', .int .i64 c]) ∧ w'.ownsRow W.heap.size 41 2 v' x.length (cellsN x) ∧ Below W.heap.size W w') (hc : c = d) (hx : x = y) :
    Calls Try.prog f args W fun e w' => ∃ v', e = .returned (.tuple #[v', .int .i64 d]) ∧ Nodes w' v' y ∧ Below W.heap.size W w' := by
  subst hc hx
  exact h.mono fun e w' ⟨v', h1, h2, h3⟩ => ⟨v', h1, nodes_of_own h2, h3⟩
theorem subS_call {f : FuncId} {args : Array Value} {W : World} {c d : Int} {x y : List (List Nd)} (h : Calls Try.prog f args W fun e w' => ∃ v', e = .returned (.tuple #[v', .int .i64 c]) ∧ OwnSS W.heap.size w'.heap.size w' v' x ∧ Below W.heap.size W w') (hc : c = d) (hx : x = y) :
    Calls Try.prog f args W fun e w' => ∃ v', e = .returned (.tuple #[v', .int .i64 d]) ∧ Fs w' v' y ∧ Below W.heap.size W w' := by
  subst hc hx
  exact h.mono fun e w' ⟨v', h1, h2, h3⟩ => ⟨v', h1, h2.fs, h3⟩
theorem subF_call {f : FuncId} {args : Array Value} {W : World} {c d : Int} {x y : List (List Nd)} (h : Calls Try.prog f args W fun e w' => ∃ v', e = .returned (.tuple #[v', .int .i64 c]) ∧ Fs w' v' x ∧ Below W.heap.size W w') (hc : c = d) (hx : x = y) :
    Calls Try.prog f args W fun e w' => ∃ v', e = .returned (.tuple #[v', .int .i64 d]) ∧ Fs w' v' y ∧ Below W.heap.size W w' := by
  subst hc hx
  exact h
end Go.Proofs.Ytdpnkojchimmfaa

/- The laws' own test of a code's length. -/
namespace Go.Proofs.Ytdpnkojchimmfaa
open Go.RowKit

theorem bigCode_any (a : Option Addr) (n c : Nat) (w : World) (h : n ≤ 9223372036854775807) :
    Calls Try.prog 15 #[.slice a n c] w fun e w' => e = .returned (.bool (decide (4096 < n))) ∧ w = w' := by
  by_cases hn : 4096 < n
  · have hd := Lib.hid (show decide (4096 < n) = true from decide_eq_true hn)
    go_enter Try.func15, Try.ntmps15
    go_wp2_with fail
    go_ret
    exact ⟨ret_bool (by rw [hd.out]; simp; omega), rfl⟩
  · have hd := Lib.hid (show decide (4096 < n) = false from decide_eq_false hn)
    go_enter Try.func15, Try.ntmps15
    go_wp2_with fail
    go_ret
    exact ⟨ret_bool (by rw [hd.out]; simp; omega), rfl⟩
end Go.Proofs.Ytdpnkojchimmfaa
