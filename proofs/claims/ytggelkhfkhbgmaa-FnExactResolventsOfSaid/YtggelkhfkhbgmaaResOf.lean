/- spec.ResolventsOf. -/
import Derived.Test.YtggelkhfkhbgmaaResSpecL
namespace Go.Proofs.Ytggelkhfkhbgmaa
open Go.RowKit Go.Lib
set_option linter.unusedVariables false

theorem rsR_len (c d : List Int) : (rsR c d).length ≤ 1 ∧ ∀ r ∈ rsR c d, r.length ≤ 12 := by
  unfold rsR
  split
  · rename_i h
    rw [Bool.and_eq_true] at h
    exact ⟨rvL_one h.1 h.2 6, fun r hr => (rvL_mem hr).2⟩
  · exact ⟨by simp, fun r hr => by simp at hr⟩
theorem rsR_tot (c d : List Int) : totI (rsR c d) ≤ 12 := by
  have h1 := totI_le (rsR_len c d).2
  have h2 := (rsR_len c d).1
  omega
set_option maxHeartbeats 4000000 in
theorem specResolventsOf_any (vc vd : Value) (c d : List Int) (w : World) (hc : Ints w vc c) (hd : Ints w vd d) :
    Calls Try.prog 5 #[vc, vd] w fun e w' => ∃ v, e = .returned (.tuple #[v, .int .i64 (rsCode c d)]) ∧ Fi w' v (rsR c d) ∧ Below w.heap.size w w' := by
  have h1 := Lib.hid (specIsClause_any vc c w hc)
  have h2 := Lib.hid (fun W (hb : Below w.heap.size w W) => specIsClause_any vd d W (hd.below hb (Nat.le_refl _)))
  have hr := Lib.hid (fun cc cd W (hb : Below w.heap.size w W) => l04Resolvents_any vc vd c d W (hc.below hb (Nat.le_refl _)) (hd.below hb (Nat.le_refl _)) cc cd)
  have hs := Lib.hid (fun cc cd v W (h : Fi W v (rvL c d 6)) => l04SortedOne_any v (rvL c d 6) W h (rvL_one cc cd 6) (fun r hr => by have := (rvL_mem hr).2; omega))
  have hnil := Lib.hid (fun W => ((GrowI.nil (Nat.le_refl W.heap.size) : GrowI W.heap.size W _ []).ownII).fs)
  have hcode := Lib.hid (show rsCode c d = if clauseB c && clauseB d then 0 else 1 from rfl)
  have hlist := Lib.hid (show rsR c d = if clauseB c && clauseB d then rvL c d 6 else [] from rfl)
  clear hc hd
  generalize rsCode c d = RC at *
  generalize rsR c d = RR at *
  cases cc : clauseB c
  · rw [cc] at h1 hcode hlist
    obtain rfl := hcode.out
    obtain rfl := hlist.out
    clear hcode hlist hr hs
    go_enter Try.func5, Try.ntmps5
    go_wp2_with fail
    refine h1.out.mono ?_
    rintro e w1 ⟨rfl, b1⟩
    go_wp2_with fail
    go_ret2
    exact ⟨_, rfl, hnil.out _, b1⟩
  cases cd : clauseB d
  · rw [cc] at h1 hcode hlist
    rw [cd] at h2 hcode hlist
    obtain rfl := hcode.out
    obtain rfl := hlist.out
    clear hcode hlist hr hs
    go_enter Try.func5, Try.ntmps5
    go_wp2_with fail
    refine h1.out.mono ?_
    rintro e w1 ⟨rfl, b1⟩
    go_wp2_with fail
    refine (h2.out _ b1).mono ?_
    rintro e w2 ⟨rfl, b2⟩
    go_wp2_with fail
    go_ret2
    exact ⟨_, rfl, hnil.out _, keep_step b2 b1⟩
  · rw [cc] at h1 hcode hlist
    rw [cd] at h2 hcode hlist
    obtain rfl := hcode.out
    obtain rfl := hlist.out
    have hr := Lib.hid (hr.out cc cd)
    have hs := Lib.hid (hs.out cc cd)
    clear hcode hlist
    go_enter Try.func5, Try.ntmps5
    go_wp2_with fail
    refine h1.out.mono ?_
    rintro e w1 ⟨rfl, b1⟩
    go_wp2_with fail
    refine (h2.out _ b1).mono ?_
    rintro e w2 ⟨rfl, b2⟩
    have b2 := keep_step b2 b1
    go_wp2_with fail
    refine (hr.out _ b2).mono ?_
    rintro e w3 ⟨v3, rfl, o3, b3⟩
    have b3 := keep_step b3 b2
    go_wp2_with fail
    refine (hs.out _ _ o3.fs).mono ?_
    rintro e w4 ⟨v4, rfl, o4, b4⟩
    go_wp2_with fail
    go_ret2
    exact ⟨_, rfl, o4, keep_step b4 b3⟩
end Go.Proofs.Ytggelkhfkhbgmaa
