/- Walks of ReplaceVariable, of the program. -/
import Derived.Test.YtfedipeabbaccaaSubstTwo
import Derived.Test.YtfedipeabbaccaaJoin
namespace Go.Proofs.Ytfedipeabbaccaa
open Go.RowKit

theorem form_len3 {ns : List Nd} (h : formB ns = true) : 0 < ns.length ∧ ns.length ≤ 40 := by simp only [formB, Bool.and_eq_true, decide_eq_true_eq] at h; omega
theorem form_all3 {ns : List Nd} (h : formB ns = true) : ns.all nodeB = true := by
  simp only [formB, Bool.and_eq_true] at h
  exact h.1.2

def replL (ns : List Nd) (u : Int) (bs : List Nd) : List Nd := subL ((selfL 6).set u.toNat bs) ns
def replCode (ns : List Nd) (u : Int) (bs : List Nd) : Int := if (formB ns && formB bs) then (if inR u 0 5 then (if (replL ns u bs).length ≤ 40 then 0 else 3) else 2) else 1
def replR (ns : List Nd) (u : Int) (bs : List Nd) : List Nd := if replCode ns u bs = 0 then replL ns u bs else []
theorem repl_cases (ns : List Nd) (u : Int) (bs : List Nd) : ((formB ns && formB bs) = false ∧ replCode ns u bs = 1 ∧ replR ns u bs = []) ∨ ((formB ns && formB bs) = true ∧ inR u 0 5 = false ∧ replCode ns u bs = 2 ∧ replR ns u bs = []) ∨
    ((formB ns && formB bs) = true ∧ inR u 0 5 = true ∧ 40 < (replL ns u bs).length ∧ replCode ns u bs = 3 ∧ replR ns u bs = []) ∨ ((formB ns && formB bs) = true ∧ inR u 0 5 = true ∧ (replL ns u bs).length ≤ 40 ∧ replCode ns u bs = 0 ∧ replR ns u bs = replL ns u bs) := by
  unfold replR replCode
  cases (formB ns && formB bs) <;> cases inR u 0 5 <;> by_cases h2 : (replL ns u bs).length ≤ 40 <;> simp [h2] <;> omega
theorem replR_length (ns : List Nd) (u : Int) (bs : List Nd) : (replR ns u bs).length ≤ 64 := by
  rcases repl_cases ns u bs with ⟨_, _, h⟩ | ⟨_, _, _, h⟩ | ⟨_, _, _, _, h⟩ | ⟨_, _, h1, _, h⟩ <;> rw [h] <;> first | (simp; done) | omega

theorem self_len : (selfL 6).length = 6 := by simp [selfL]
theorem repl_images {u : Nat} {bs : List Nd} (h0 : 0 < bs.length) (h1 : bs.length ≤ 40) : ((selfL 6).set u bs).length = 6 ∧ ∀ I ∈ (selfL 6).set u bs, 0 < I.length ∧ I.length ≤ 1000 := by
  refine ⟨by rw [List.length_set, self_len], fun I hI => ?_⟩
  rcases List.mem_or_eq_of_mem_set hI with hI | rfl
  · obtain ⟨i, _, rfl⟩ := List.mem_map.1 hI
    simp
  · omega




theorem replL_len {ns : List Nd} {u : Nat} {bs : List Nd} (hf : formB ns = true) (hg : formB bs = true) : (replL ns (u : Int) bs).length ≤ 100000 := by
  obtain ⟨hp0, hp1⟩ := form_len3 hf
  obtain ⟨hq0, hq1⟩ := form_len3 hg
  have h1 := subL_len ((selfL 6).set u bs) (fun I hI => ((repl_images (u := u) hq0 hq1).2 I hI).2) ns
  unfold replL
  rw [Int.toNat_natCast]
  have := Nat.mul_le_mul_right 1000 hp1
  omega

end Go.Proofs.Ytfedipeabbaccaa
