/- ComposeSubstitutions, of both: the limit and the whole. -/
import Derived.Test.YtdpnkojchimmfaaQBCompose

namespace Go.Proofs.Ytdpnkojchimmfaa
open Go.RowKit

def bigB (Is : List (List Nd)) : Bool := Is.any fun I => decide (40 < I.length)
theorem bigB_get {Is : List (List Nd)} {k : Nat} {I : List Nd} (h : Is[k]? = some I) (hb : 40 < I.length) : bigB Is = true := any_yes h (decide_eq_true hb)
theorem bigB_small {Is : List (List Nd)} (h : ∀ (j : Nat) (I : List Nd), Is[j]? = some I → I.length ≤ 40) : bigB Is = false := any_no fun i x _ hx => decide_eq_false (by have := h i x hx; omega)
theorem small_of_bigB {Is : List (List Nd)} (h : bigB Is = false) : ∀ I ∈ Is, I.length ≤ 40 := by
  intro I hI
  have := List.any_eq_false.1 h I hI
  simp at this
  exact this

/-- What is given back of a list, and the code. -/
def allV (Is : List (List Nd)) (v : Value) : Value := if bigB Is then .slice none 0 0 else v
def allC (Is : List (List Nd)) : Int := if bigB Is then 3 else 0
theorem all_big {Is : List (List Nd)} (h : bigB Is = true) (v : Value) : Ending.returned (.tuple #[.slice none 0 0, .int .i64 3]) = Ending.returned (.tuple #[allV Is v, .int .i64 (allC Is)]) := by unfold allV allC; rw [h]; rfl
theorem all_small {Is : List (List Nd)} (h : bigB Is = false) (v : Value) : Ending.returned (.tuple #[v, .int .i64 0]) = Ending.returned (.tuple #[allV Is v, .int .i64 (allC Is)]) := by unfold allV allC; rw [h]; rfl

theorem limitedAll1_pred (ss : List Sl) (w : World) (h : ∀ s ∈ ss, Nodes w (slV s) s.2) : Pred Try.prog 69 #[] slV ss (fun s => decide (40 < s.2.length)) w := by
  intro W s hs hb hsz
  have hn := h s hs
  have hcap := hn.cap
  obtain ⟨a, c, hsv⟩ := hn.shape
  rw [hsv]
  clear hn hsv h hs
  unfold maxLen at hcap
  show Calls Try.prog 69 #[.slice a s.2.length c] W fun e W' => e = .returned (.bool (decide (40 < s.2.length))) ∧ Below W.heap.size W W'
  generalize s.2.length = n at *
  by_cases hlt : 40 < n
  · have hf := Lib.hid (show decide (40 < n) = true from decide_eq_true hlt)
    go_enter Try.func69, Try.ntmps69
    go_wp2_with fail
    go_ret
    exact ⟨ret_bool (by rw [hf.out]; simp; omega), Below.refl _ _⟩
  · have hf := Lib.hid (show decide (40 < n) = false from decide_eq_false hlt)
    go_enter Try.func69, Try.ntmps69
    go_wp2_with fail
    go_ret
    exact ⟨ret_bool (by rw [hf.out]; simp; omega), Below.refl _ _⟩

theorem any_snd (ss : List Sl) : (ss.any fun s => decide (40 < s.2.length)) = bigB (ss.map Prod.snd) := by
  unfold bigB; rw [List.any_map]; rfl

theorem limitedAll_any (v : Value) (Is : List (List Nd)) (w : World) (h : Fs w v Is) :
    Calls Try.prog 33 #[v] w fun e w' => e = .returned (.tuple #[allV Is v, .int .i64 (allC Is)]) ∧ Below w.heap.size w w' := by
  obtain ⟨ss, h1, h2, h3⟩ := h
  have hp := Lib.hid (limitedAll1_pred ss w h2)
  have ha := Lib.hid (any_snd ss)
  have h3 := Lib.hid h3
  have heg := Lib.hid (enters_of Try.func69 (by kernel_rfl) rfl)
  cases hB : bigB Is
  all_goals
    have hB := Lib.hid hB
    go_enter Try.func33, Try.ntmps33
    go_wp2_with fail
    refine (containsFuncS_any _ _ heg.out _ ss _ _ h1 hp.out).mono ?_
    rintro e w' ⟨rfl, hb⟩
    rw [ha.out, h3.out, hB.out]
    go_wp2_with fail
    go_ret2
    first | exact ⟨all_big hB.out _, hb⟩ | exact ⟨all_small hB.out _, hb⟩

set_option maxHeartbeats 1000000 in
theorem l03All_any (v : Value) (Is : List (List Nd)) (w : World) (h : Fs w v Is) :
    Calls Try.prog 62 #[v] w fun e w' => e = .returned (.tuple #[allV Is v, .int .i64 (allC Is)]) ∧ w = w' := by
  obtain ⟨a, c, b, o, rfl, hc, hm, ha, hcell⟩ := h.cells
  unfold maxLen at hm
  clear h
  have hgood := Lib.hid (fun hh => bigB_small (Is := Is) hh)
  have hah := Lib.hid ha
  clear ha
  go_enter Try.func62, Try.ntmps62
  go_wp2_with fail
  go_loop [4] (fun i => ∃ k : Nat, k ≤ Is.length ∧ i = .int .i64 k ∧ Hid (∀ (j : Nat) (I : List Nd), j < k → Is[j]? = some I → I.length ≤ 40)) (fun i => Is.length - (intOf i).toNat)
  case atStart => exact ⟨0, Nat.zero_le _, rfl, fun j I hj => by omega⟩
  case round =>
    obtain ⟨k, hk, rfl, hall⟩ := hrel
    by_cases hlt : k < Is.length
    · obtain rfl := hah.out (by omega)
      obtain ⟨vI, I, hI, hcI, hnI⟩ := hcell.out k hlt
      have hcap := hnI.cap
      unfold maxLen at hcap
      obtain ⟨a1, c1, rfl⟩ := hnI.shape
      clear hnI
      by_cases hf : 40 < I.length
      · have hfin := Lib.hid (bigB_get hI hf)
        clear hI
        generalize I.length = m at *
        go_wp2_with fail
        go_ret2
        first | exact ⟨all_big hfin.out _, rfl⟩ | exact ⟨all_small hfin.out _, rfl⟩
      · have hIh := Lib.hid hI
        clear hI
        have hIs : I.length ≤ 40 := by omega
        generalize hm1 : I.length = m at *
        have hm1 := Lib.hid hm1
        go_wp2_with fail
        go_round
        case rel =>
          refine ⟨k + 1, by omega, by go_num, fun j J hj hJ => ?_⟩
          rcases Nat.lt_or_ge j k with h2 | h2
          · exact hall.out j J h2 hJ
          · obtain rfl : j = k := by omega
            rw [hIh.out] at hJ
            obtain rfl : I = J := by simpa using hJ
            rw [hm1.out]; omega
        case measure => simp [intOf]; omega
    · obtain rfl : k = Is.length := by omega
      have hfin := Lib.hid (hgood.out fun j I hI => hall.out j I (List.getElem?_eq_some_iff.1 hI).1 hI)
      go_wp2_with fail
      go_ret2
      first | exact ⟨all_big hfin.out _, rfl⟩ | exact ⟨all_small hfin.out _, rfl⟩

def cpCode (one two : List (List Nd)) : Int := if subsB one && subsB two then (if bigB (compL one two) then 3 else 0) else 1
def cpR (one two : List (List Nd)) : List (List Nd) := if cpCode one two = 0 then compL one two else []
theorem cp_cases (one two : List (List Nd)) : ((subsB one && subsB two) = false ∧ cpCode one two = 1 ∧ cpR one two = []) ∨ ((subsB one && subsB two) = true ∧ bigB (compL one two) = true ∧ cpCode one two = 3 ∧ cpR one two = []) ∨ ((subsB one && subsB two) = true ∧ bigB (compL one two) = false ∧ cpCode one two = 0 ∧ cpR one two = compL one two) := by
  unfold cpR cpCode
  cases (subsB one && subsB two) <;> cases bigB (compL one two) <;> simp
theorem subs_ok {Is : List (List Nd)} (h : subsB Is = true) : okL Is := by
  unfold subsB at h
  simp only [Bool.and_eq_true, decide_eq_true_eq] at h
  intro I hI
  have hf := List.all_eq_true.1 h.2 I hI
  exact ⟨(form_len3 hf).1, (form_len3 hf).2, form_all3 hf⟩
theorem cpR_tot (one two : List (List Nd)) : tot (cpR one two) ≤ 1000 := by
  rcases cp_cases one two with ⟨_, _, h⟩ | ⟨_, _, _, h⟩ | ⟨h0, h1, _, h⟩
  · rw [h]; simp [tot]
  · rw [h]; simp [tot]
  · rw [h]
    have h2 := tot_le (small_of_bigB h1)
    rw [compL_length, (subs_facts ((Bool.and_eq_true _ _).mp h0).1).1] at h2
    omega

set_option maxHeartbeats 2000000 in
theorem implComposeSubstitutions_any (v : Value) (one : List (List Nd)) (vi : Value) (two : List (List Nd)) (w : World) (h : Fs w v one) (hI : Fs w vi two) :
    Calls Try.prog 21 #[v, vi] w fun e w' => ∃ v', e = .returned (.tuple #[v', .int .i64 (cpCode one two)]) ∧ OwnSS w.heap.size w'.heap.size w' v' (cpR one two) ∧ Below w.heap.size w w' := by
  have hv := Lib.hid h
  have hI := Lib.hid hI
  clear h
  have hia := Lib.hid (isSubstitution_any v one w hv.out)
  have hib := Lib.hid (fun w1 (hb : Below w.heap.size w w1) => isSubstitution_any vi two w1 (hI.out.below hb (Nat.le_refl _)))
  rcases cp_cases one two with ⟨h1, h2, h3⟩ | ⟨h1, hl, h3, h4⟩ | ⟨h1, hl, h3, h4⟩
  · have h2 := Lib.hid h2
    have h3 := Lib.hid h3
    cases hB : subsB one
    · have hf := Lib.hid hB
      clear h1
      go_enter Try.func21, Try.ntmps21
      go_wp2_with fail
      refine hia.out.mono ?_
      rintro e w1 ⟨rfl, b1⟩
      rw [hf.out]
      go_wp2_with fail
      go_ret2
      exact ⟨_, by rw [h2.out]; rfl, by rw [h3.out]; exact OwnSS.nil _ _, b1⟩
    · have hf := Lib.hid hB
      have hg := Lib.hid (show subsB two = false by rw [hB] at h1; simpa using h1)
      clear h1
      go_enter Try.func21, Try.ntmps21
      go_wp2_with fail
      refine hia.out.mono ?_
      rintro e w1 ⟨rfl, b1⟩
      rw [hf.out]
      go_wp2_with fail
      refine (hib.out _ b1).mono ?_
      rintro e w2 ⟨rfl, b2⟩
      have B2 := keep_step b2 b1
      rw [hg.out]
      go_wp2_with fail
      go_ret2
      exact ⟨_, by rw [h2.out]; rfl, by rw [h3.out]; exact OwnSS.nil _ _, B2⟩
  all_goals
    have h1' := (Bool.and_eq_true _ _).mp h1
    have h6a := (subs_facts h1'.1).1
    obtain ⟨h6, hb0⟩ := subs_facts h1'.2
    have hok := subs_ok h1'.1
    have hj := Lib.hid (fun w1 (hb : Below w.heap.size w w1) => composed_any v vi one two w1 (hv.out.below hb (Nat.le_refl _)) hok (hI.out.below hb (Nat.le_refl _)) h6 hb0 (by omega))
    have hf := Lib.hid h1'.1
    have hg := Lib.hid h1'.2
    have h3 := Lib.hid h3
    have h4 := Lib.hid h4
    have hl := Lib.hid hl
    clear h1 h1' h6 hb0 hok h6a
    go_enter Try.func21, Try.ntmps21
    go_wp2_with fail
    refine hia.out.mono ?_
    rintro e w1 ⟨rfl, b1⟩
    rw [hf.out]
    go_wp2_with fail
    refine (hib.out _ b1).mono ?_
    rintro e w2 ⟨rfl, b2⟩
    have B2 := keep_step b2 b1
    rw [hg.out]
    go_wp2_with fail
    refine (hj.out _ B2).mono ?_
    rintro e w3 ⟨v', rfl, ho, hb3⟩
    have B3 := keep_step hb3 B2
    have hs3 := B2.size
    have ho := Lib.hid ho
    go_wp2_with fail
    refine (limitedAll_any _ _ _ ho.out.fs).mono ?_
    rintro e w4 ⟨rfl, b4⟩
    first | rw [← all_big hl.out] | rw [← all_small hl.out]
    have B4 := keep_step b4 B3
    have ho4 := Lib.hid (ho.out.below b4 (Nat.le_refl _))
    have hs4 := Lib.hid b4.size
    go_wp2_with fail
    go_ret2
    first
      | exact ⟨_, by rw [h3.out]; rfl, by rw [h4.out]; exact OwnSS.nil _ _, B4⟩
      | exact ⟨_, by rw [h3.out]; rfl, by rw [h4.out]; exact (ho4.out.mono hs3).up hs4.out, B4⟩

end Go.Proofs.Ytdpnkojchimmfaa
