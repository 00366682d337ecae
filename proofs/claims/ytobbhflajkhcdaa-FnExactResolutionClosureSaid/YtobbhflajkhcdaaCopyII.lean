/- impl.copyLists. (turned from toInt64SS_own) -/
import Derived.Test.YtobbhflajkhcdaaCloFns
namespace Go.Proofs.Ytobbhflajkhcdaa
open Go.RowKit
set_option linter.unusedVariables false

set_option maxHeartbeats 1000000 in
theorem copyLists_any (v : Value) (Is : List (List Int)) (w : World) (h : Fi w v Is) (hn : Is.length ≤ 1048576) (hl : ∀ I ∈ Is, I.length ≤ 1048576) :
    Calls Try.prog 18 #[v] w fun e w' => ∃ (v' : Value) (ss : List SlI), e = .returned v' ∧ GrowI w.heap.size w' v' ss ∧ Hid (ss.map Prod.snd = Is) ∧ Below w.heap.size w w' := by
  obtain ⟨a, c, b, o, rfl, hc, hm, ha, hcell⟩ := h.cells
  clear h
  have hah := Lib.hid ha
  have hlh := Lib.hid hl
  clear ha hl
  obtain ⟨i0, hi, hz0, hz1, hz2⟩ := info_parts info_ints
  go_enter Try.func18, Try.ntmps18
  go_wp2_with (first | (at_make; refine wpList_make_full _ rfl _ _ 22 rfl w.heap.size 30 i0 (.slice none 0 0) 1 Try.underlying22 hi hz0 hz1 _ _ _ _ Is.length rfl rfl rfl rfl (by rw [hz2]; omega) hm (Nat.le_refl _) ?_; intro w1 hown hgr; clear hi hz0 hz1 hz2) | go_in)
  rw [made_slicesI] at hown
  have hgw := (hown.lt w.heap.size rfl).2
  go_loopw [10] (fun i wr => ∃ ss : List SlI, ss.length ≤ Is.length ∧ i = .int .i64 ss.length ∧ wr.ownsRow w.heap.size 30 1 (.slice (some ⟨w.heap.size, 0, none⟩) Is.length Is.length) Is.length ((ss ++ List.replicate (Is.length - ss.length) nilSlI).map slVI) ∧ Hid ((∀ s ∈ ss, wr.ownsRow w.heap.size 2 1 (slVI s) s.2.length (s.2.map (Value.int .i64)) ∧ ∀ k, (slVI s).ownBlock = some k → w.heap.size < k ∧ k < wr.heap.size) ∧ ss.Pairwise fun s t => ∀ k, (slVI s).ownBlock = some k → (slVI t).ownBlock ≠ some k) ∧ Hid (ss.map (·.2) = Is.take ss.length) ∧ Below w.heap.size w wr ∧ w.heap.size < wr.heap.size) (fun i _ => Is.length - (intOf i).toNat)
  case atStart => exact ⟨[], Nat.zero_le _, rfl, by simpa using hown, ⟨fun _ h => absurd h List.not_mem_nil, List.Pairwise.nil⟩, rfl, below_of_grownBy hgr (Nat.le_refl _) (by simp), hgw⟩
  case round =>
    obtain ⟨ss, hk, rfl, ho, hel, hmap, hb, hgl⟩ := hrel
    by_cases hlt : ss.length < Is.length
    · obtain rfl := hah.out (by omega)
      obtain ⟨vI, I, hI, hcI, hnI⟩ := hcell.out ss.length hlt
      have hcI := (hb.cell (p := ⟨b, o + ss.length, none⟩) (World.block_lt_of_cell? w _ hcI)).trans hcI
      obtain ⟨a1, c1, rfl⟩ := hnI.shape
      have hnI := Lib.hid (hnI.below hb (Nat.le_refl _))
      have hIh := Lib.hid hI
      have hIl := Lib.hid (hlh.out I (List.mem_of_getElem? hI))
      have ho := Lib.hid ho
      have hbh := Lib.hid hb
      clear hI hb
      have hsb := hbh.out.size
      go_wp2_with fail
      refine (cloneZ_any _ I _ hnI.out hIl.out).mono ?_
      rintro e w2 ⟨v2, rfl, ho2, b2⟩
      have hn2 := ints_of_own ho2
      have h2lt : ∀ k, v2.ownBlock = some k → wr.heap.size ≤ k ∧ k < w2.heap.size := fun k hk => ho2.lt k hk
      obtain ⟨a2, c2, rfl⟩ := hn2.shape
      have ho' := Lib.hid (own_below ho.out b2 (Nat.le_refl _))
      obtain ⟨⟨z, _, hcz⟩, hfz⟩ := own_cell ho'.out hlt
      obtain ⟨⟨za, zn, zc⟩, zl⟩ := z
      unfold slVI at hcz
      simp only at hcz
      have hst := (ho'.out.stored ss.length (slVI ((a2, I.length, c2), I))).1
      rw [← List.map_set, set_nextI ss _ nilSlI _ hlt] at hst
      have hst := Lib.hid hst
      have ho2 := Lib.hid ho2
      have h2lt := Lib.hid h2lt
      have b2h := Lib.hid b2
      have hs2 := b2.size
      have hB := Lib.hid ((hbh.out.trans (b2.mono hsb)).setCell (p := ⟨w.heap.size, ss.length, none⟩) (Nat.le_refl _) (.slice a2 I.length c2))
      clear hn2 b2
      generalize hIL : I.length = mI at *
      have hIL := Lib.hid hIL
      have hsz : (w2.setCell ⟨w.heap.size, ss.length, none⟩ (.slice a2 mI c2)).heap.size = w2.heap.size := by simp
      have hsz := Lib.hid hsz
      go_wp2_with fail
      go_roundw
      case rel =>
        have hg := grown_setI w2 w.heap.size ss.length (.slice a2 mI c2)
        refine ⟨ss ++ [((a2, mI, c2), I)], by rw [List.length_append]; exact hlt, by first | (simp; done) | (rw [List.length_append]; go_num) | (simp; omega), ?_, ⟨fun s hs => ?_, ?_⟩, ?_, hB.out, by rw [hsz.out]; omega⟩
        · rw [show (ss ++ [((a2, mI, c2), I)]).length = ss.length + 1 by simp]
          exact hst.out
        · rcases List.mem_append.1 hs with hs | hs
          · obtain ⟨h1, h2⟩ := hel.out.1 s hs
            refine ⟨row_same (own_below h1 b2h.out (Nat.le_refl _)) fun k hk _ hl => hg.block k hl fun e => ?_, fun k hk => ⟨(h2 k hk).1, by rw [hsz.out]; have := (h2 k hk).2; omega⟩⟩
            obtain rfl : k = w.heap.size := by simpa using e
            exact Nat.lt_irrefl _ (h2 _ hk).1
          · obtain rfl : s = ((a2, mI, c2), I) := by simpa using hs
            have h1 := own_mono ho2.out hsb
            refine ⟨row_same (show w2.ownsRow _ _ _ (slVI ((a2, mI, c2), I)) I.length (I.map (Value.int .i64)) by rw [hIL.out]; exact h1) fun k hk _ hl => hg.block k hl fun e => ?_, fun k hk => ⟨by have := (h2lt.out k hk).1; omega, by rw [hsz.out]; exact (h2lt.out k hk).2⟩⟩
            obtain rfl : k = w.heap.size := by simpa using e
            have := (h2lt.out _ hk).1
            omega
        · rw [List.pairwise_append]
          refine ⟨hel.out.2, List.pairwise_singleton _ _, fun s hs t ht k hk hk' => ?_⟩
          obtain rfl : t = ((a2, mI, c2), I) := by simpa using ht
          have h1 := ((hel.out.1 s hs).2 k hk).2
          have h2 := (h2lt.out k hk').1
          omega
        · show List.map _ _ = _
          rw [show (ss ++ [((a2, mI, c2), I)]).length = ss.length + 1 by simp, List.map_append, hmap.out, List.take_add_one, hIh.out]; rfl
      case measure => simp [intOf]; omega
    · have hkk : ss.length = Is.length := by omega
      have hmm : ss.map (·.2) = Is := by rw [hmap.out, hkk, List.take_length]
      have hfin := Lib.hid (show GrowI w.heap.size wr (.slice (some ⟨w.heap.size, 0, none⟩) Is.length Is.length) ss from by
        refine ⟨?_, fun s hs => (hel.out.1 s hs).1, fun s hs k hk hk2 => ?_, hel.out.2, hb.size⟩
        · rw [hkk, Nat.sub_self] at ho
          simp only [List.replicate_zero, List.append_nil] at ho
          rw [hkk]
          exact ho
        · obtain rfl : w.heap.size = k := by simpa [Value.ownBlock] using hk
          exact Nat.lt_irrefl _ ((hel.out.1 s hs).2 _ hk2).1)
      have hmm := Lib.hid hmm
      rw [hkk]
      clear hkk ho
      go_wp2_with fail
      go_ret
      exact ⟨_, ss, rfl, hfin.out, hmm, hb⟩
end Go.Proofs.Ytobbhflajkhcdaa
