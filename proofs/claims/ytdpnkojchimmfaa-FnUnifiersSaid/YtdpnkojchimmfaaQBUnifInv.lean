/- UnifyFormulas: what a round keeps. -/
import Derived.Test.YtdpnkojchimmfaaQBUnifThree

namespace Go.Proofs.Ytdpnkojchimmfaa
open Go.RowKit Go.Deep

structure UnInv (n : Nat) (a b : List Nd) (Is : List (List Nd)) (R : List (List Nd) × Int) : Prop where
  fa : formB a = true
  fb : formB b = true
  h6 : Is.length = 6
  fI : ∀ I ∈ Is, formB I = true
  less : cntV (varL a ++ varL b) < n
  eq : unifGo n a b Is = R
theorem UnInv.start {a b : List Nd} (ha : formB a = true) (hb : formB b = true) : UnInv 7 a b (selfL 6) (unifGo 7 a b (selfL 6)) :=
  ⟨ha, hb, by simp [selfL], self_form, by have := cntV_le (varL a ++ varL b); omega, rfl⟩
theorem UnInv.cases {n : Nat} {a b : List Nd} {Is : List (List Nd)} {R : List (List Nd) × Int} (h : UnInv n a b Is R) : ∃ m, n = m + 1 ∧ ((diffI a b = -1 ∧ R = (Is, 0)) ∨ ∃ k : Nat, k < a.length ∧ k < b.length ∧ diffI a b = (k : Nat) ∧ ((bindOf (partL a k) (partL b k) = none ∧ R = ([], 4)) ∨
    ∃ v d, bindOf (partL a k) (partL b k) = some (v, d) ∧ 0 ≤ v ∧ v ≤ 5 ∧ formB d = true ∧ ((bigB (subL (bindJ v d) a :: subL (bindJ v d) b :: compL Is (bindJ v d)) = true ∧ R = ([], 3)) ∨ (bigB (subL (bindJ v d) a :: subL (bindJ v d) b :: compL Is (bindJ v d)) = false ∧ UnInv m (subL (bindJ v d) a) (subL (bindJ v d) b) (compL Is (bindJ v d)) R)))) := by
  obtain ⟨ha, hb, h6, hI, hl, rfl⟩ := h
  obtain ⟨m, rfl⟩ : ∃ m, n = m + 1 := ⟨n - 1, by omega⟩
  refine ⟨m, rfl, ?_⟩
  have hle := agree_le a b
  by_cases hd : agree a b = a.length ∨ agree a b = b.length
  · exact .inl ⟨by unfold diffI; rw [if_pos hd], unif_done hd⟩
  · refine .inr ⟨agree a b, by omega, by omega, by unfold diffI; rw [if_neg hd], ?_⟩
    cases h2 : bindOf (partL a (agree a b)) (partL b (agree a b)) with
    | none => exact .inl ⟨rfl, unif_none hd h2⟩
    | some vd =>
      obtain ⟨v, d⟩ := vd
      obtain ⟨v0, v5, fd, _⟩ := bind_facts ha hb hd h2
      obtain ⟨j6, jf⟩ := bindJ_form (v := v) fd
      refine .inr ⟨v, d, rfl, v0, v5, fd, ?_⟩
      cases h3 : bigB (subL (bindJ v d) a :: subL (bindJ v d) b :: compL Is (bindJ v d)) with
      | true => exact .inl ⟨rfl, unif_big hd h2 h3⟩
      | false =>
        obtain ⟨la, lb, hB⟩ := bigB_tail h3
        refine .inr ⟨rfl, sub_form j6 jf ha la, sub_form j6 jf hb lb, by rw [compL_length]; exact h6, comp_forms j6 jf hI hB, ?_, (unif_step hd h2 h3).symm⟩
        have := round_less ha hb hd h2
        omega
theorem Fs.two {w : World} {G o n cap : Nat} {a b : List Nd} {Is : List (List Nd)} (h : Fs w (.slice (some ⟨G, o, none⟩) n cap) (a :: b :: Is)) : ∃ va vb, w.cell? ⟨G, o, none⟩ = some va ∧ w.cell? ⟨G, o + 1, none⟩ = some vb ∧ Nodes w va a ∧ Nodes w vb b := by
  obtain ⟨a9, c9, b9, o9, hv, _, _, ha, hc⟩ := h.cells
  obtain rfl := ha (by simp)
  obtain ⟨⟨rfl, rfl⟩, _⟩ : (G = b9 ∧ o = o9) ∧ _ := by simpa using hv
  obtain ⟨va, I, h1, h2, h3⟩ := hc.out 0 (by simp)
  obtain ⟨vb, J, h4, h5, h6⟩ := hc.out 1 (by simp)
  obtain rfl : a = I := by simpa using h1
  obtain rfl : b = J := by simpa using h4
  exact ⟨va, vb, h2, h5, h3, h6⟩
theorem bindJ_nat (u : Nat) (d : List Nd) : bindJ (u : Int) d = (selfL 6).set u d := by unfold bindJ; rw [Int.toNat_natCast]
theorem forms_okL {Is : List (List Nd)} (h : ∀ I ∈ Is, formB I = true) : okL Is := fun I hI => ⟨(form_len3 (h I hI)).1, (form_len3 (h I hI)).2, form_all (h I hI)⟩
end Go.Proofs.Ytdpnkojchimmfaa
