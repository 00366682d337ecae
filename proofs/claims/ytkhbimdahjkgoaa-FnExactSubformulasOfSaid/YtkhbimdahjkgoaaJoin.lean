/- Walks of PrefixFormula and JoinFormulas, of the program and of the reference. -/
import Derived.Test.YtkhbimdahjkgoaaConcat
import Derived.Test.YtkhbimdahjkgoaaPlain
namespace Go.Proofs.Ytkhbimdahjkgoaa
open Go.RowKit

theorem lit_nodes (w : World) (k : Int) (t : TypeId) : Nodes (w.alloc (.cells #[.int .i64 k, .int .i64 0] t)) (.slice (some ⟨w.heap.size, 0, none⟩) 1 1) [(k, 0)] :=
  nodes_of_own (e := t) (World.ownsRow_lit (e := t) (base := w.heap.size) (size := 2) w #[.int .i64 k, .int .i64 0] 1 (Nat.le_refl _) (by simp [maxLen]) rfl)

theorem slices_three (w : World) (a a' a'' : Option Addr) (n n' n'' c c' c'' : Nat) (ns ns' ns'' : List Nd) (t : TypeId) : Slices (w.alloc (.cells #[.slice a n c, .slice a' n' c', .slice a'' n'' c''] t)) (.slice (some ⟨w.heap.size, 0, none⟩) 3 3) [((a, n, c), ns), ((a', n', c'), ns'), ((a'', n'', c''), ns'')] := by
  refine ⟨rfl, by show 3 ≤ maxLen; unfold maxLen; omega, _, 3, w.heap.size, 0, rfl, by show 3 ≤ 3; omega, fun _ => rfl, fun i u hu => ?_⟩
  rw [World.cell?_alloc_at _ _ _ _ rfl]
  match i, hu with
  | 0, hu => simpa [slV] using hu
  | 1, hu => simpa [slV] using hu
  | 2, hu => simpa [slV] using hu
  | i + 3, hu => simp at hu

theorem size_alloc1 (w : World) (o : Obj) : (w.alloc o).heap.size = w.heap.size + 1 := by simp



def prefCode (k : Int) (ns : List Nd) : Int := if formB ns then (if ar k = 1 then (if ns.length + 1 ≤ 40 then 0 else 3) else 2) else 1
def prefR (k : Int) (ns : List Nd) : List Nd := if prefCode k ns = 0 then (k, 0) :: ns else []
theorem pref_cases (k : Int) (ns : List Nd) : (formB ns = false ∧ prefCode k ns = 1 ∧ prefR k ns = []) ∨ (formB ns = true ∧ ¬ ar k = 1 ∧ prefCode k ns = 2 ∧ prefR k ns = []) ∨
    (formB ns = true ∧ ar k = 1 ∧ 40 < ns.length + 1 ∧ prefCode k ns = 3 ∧ prefR k ns = []) ∨ (formB ns = true ∧ ar k = 1 ∧ ns.length + 1 ≤ 40 ∧ prefCode k ns = 0 ∧ prefR k ns = (k, 0) :: ns) := by
  unfold prefR prefCode
  cases formB ns <;> by_cases h1 : ar k = 1 <;> by_cases h2 : ns.length + 1 ≤ 40 <;> simp [h1, h2] <;> omega
theorem prefR_length (k : Int) (ns : List Nd) : (prefR k ns).length ≤ 64 := by
  rcases pref_cases k ns with h | h | h | h
  · rw [h.2.2]; simp
  · rw [h.2.2.2]; simp
  · rw [h.2.2.2.2]; simp
  · rw [h.2.2.2.2, List.length_cons]; omega
theorem form_len2 {ns : List Nd} (h : formB ns = true) : 0 < ns.length ∧ ns.length ≤ 40 := by
  simp only [formB, Bool.and_eq_true, decide_eq_true_eq] at h; omega
theorem ar_one_iff (k : Int) : ar k = 1 ↔ (k = 5 ∨ k = 6) := by
  constructor
  · intro h; rcases ar_cases k with rfl | rfl | rfl | rfl | rfl | h' <;> first | (simp [ar] at h; done) | omega | (rw [ar_none h'] at h; cases h)
  · exact fun h => ar_one h


end Go.Proofs.Ytkhbimdahjkgoaa
