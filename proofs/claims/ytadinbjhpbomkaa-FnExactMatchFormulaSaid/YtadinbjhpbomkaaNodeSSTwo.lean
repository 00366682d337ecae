/- Lists of formulas as arguments of the laws: the copy. -/
import Derived.Test.YtadinbjhpbomkaaNodeSS
namespace Go.Proofs.Ytadinbjhpbomkaa
open Go.RowKit

def nilSl : Sl := ((none, 0, 0), [])
theorem made_slices (n : Nat) : (madeCells (Value.slice none 0 0).cells (n * 1)).toList = (List.replicate n nilSl).map slV := by
  have : (Value.slice none 0 0).cells = #[.slice none 0 0] := rfl
  rw [this, Nat.mul_one, toList_madeCells_one]
  simp [nilSl, slV]
theorem set_next {α : Type} (ss : List α) (x d : α) (n : Nat) (h : ss.length < n) : (ss ++ List.replicate (n - ss.length) d).set ss.length x = (ss ++ [x]) ++ List.replicate (n - (ss.length + 1)) d := by
  rw [List.set_append_right _ _ (Nat.le_refl _), Nat.sub_self]
  have : n - ss.length = (n - (ss.length + 1)) + 1 := by omega
  rw [this, List.replicate_succ]
  simp

set_option maxHeartbeats 1000000 in
theorem toNodeSS_any (v : Value) (Is : List (List Nd)) (w : World) (h : Fs w v Is) (hn : Is.length ≤ 1048576) (hl : ∀ I ∈ Is, I.length ≤ 1048576) :
    Calls Try.prog 23 #[v] w fun e w' => ∃ v', e = .returned v' ∧ Fs w' v' Is ∧ Below w.heap.size w w' := by
  obtain ⟨a, c, b, o, rfl, hc, hm, ha, hcell⟩ := h.cells
  clear h
  have hah := Lib.hid ha
  have hlh := Lib.hid hl
  clear ha hl
  obtain ⟨i0, hi, hz0, hz1, hz2⟩ := info_parts info_nodes
  go_enter Try.func23, Try.ntmps23
  go_wp2_with (first | (at_make; refine wpList_make_full _ rfl _ _ 37 rfl w.heap.size 26 i0 (.slice none 0 0) 1 Try.underlying37 hi hz0 hz1 _ _ _ _ Is.length rfl rfl rfl rfl (by rw [hz2]; omega) hm (Nat.le_refl _) ?_; intro w1 hown hgr; clear hi hz0 hz1 hz2) | go_in)
  rw [made_slices] at hown
  go_loopw [4] (fun i wr => ∃ ss : List Sl, ss.length ≤ Is.length ∧ i = .int .i64 ss.length ∧ wr.ownsRow w.heap.size 26 1 (.slice (some ⟨w.heap.size, 0, none⟩) Is.length Is.length) Is.length ((ss ++ List.replicate (Is.length - ss.length) nilSl).map slV) ∧ Hid (∀ s ∈ ss, Nodes wr (slV s) s.2 ∧ (slV s).ownBlock ≠ some w.heap.size) ∧ Hid (ss.map (·.2) = Is.take ss.length) ∧ Below w.heap.size w wr) (fun i _ => Is.length - (intOf i).toNat)
  case atStart => exact ⟨[], Nat.zero_le _, rfl, by simpa using hown, fun _ h => absurd h List.not_mem_nil, rfl, below_of_grownBy hgr (Nat.le_refl _) (by simp)⟩
  case round =>
    obtain ⟨ss, hk, rfl, ho, hel, hmap, hb⟩ := hrel
    by_cases hlt : ss.length < Is.length
    · obtain rfl := hah.out (by omega)
      obtain ⟨vI, I, hI, hcI, hnI⟩ := hcell.out ss.length hlt
      have hcI := (hb.cell (p := ⟨b, o + ss.length, none⟩) (World.block_lt_of_cell? w _ hcI)).trans hcI
      obtain ⟨a1, c1, rfl⟩ := hnI.shape
      have hnI := Lib.hid (hnI.below hb (Nat.le_refl _))
      have hIh := Lib.hid hI
      have hIl := Lib.hid (hlh.out I (List.mem_of_getElem? hI))
      have hgl := Lib.hid (ho.lt w.heap.size rfl).2
      have ho := Lib.hid ho
      have hbh := Lib.hid hb
      clear hI hb
      have hsb := hbh.out.size
      go_wp2_with fail
      refine (toNodeS_any _ I _ hnI.out hIl.out).mono ?_
      rintro e w2 ⟨v2, rfl, ho2, b2⟩
      have hn2 := nodes_of_own ho2
      have hne : v2.ownBlock ≠ some w.heap.size := fun e => by
        have h1 := (ho2.lt _ e).1
        have h2 := hgl.out
        omega
      obtain ⟨a2, c2, rfl⟩ := hn2.shape
      have ho' := Lib.hid (own_below ho.out b2 (Nat.le_refl _))
      obtain ⟨⟨z, _, hcz⟩, hfz⟩ := own_cell ho'.out hlt
      obtain ⟨⟨za, zn, zc⟩, zl⟩ := z
      unfold slV at hcz
      simp only at hcz
      have hst := (ho'.out.stored ss.length (slV ((a2, I.length, c2), I))).1
      rw [← List.map_set, set_next ss _ nilSl _ hlt] at hst
      have hst := Lib.hid hst
      have hn2 := Lib.hid hn2
      have hne := Lib.hid hne
      have b2h := Lib.hid b2
      have hB := Lib.hid ((hbh.out.trans (b2.mono hsb)).setCell (p := ⟨w.heap.size, ss.length, none⟩) (Nat.le_refl _) (.slice a2 I.length c2))
      clear ho2 b2
      generalize hIL : I.length = mI at *
      have hIL := Lib.hid hIL
      go_wp2_with fail
      go_roundw
      case rel =>
        refine ⟨ss ++ [((a2, mI, c2), I)], by rw [List.length_append]; exact hlt, by first | (simp; done) | (rw [List.length_append]; go_num) | (simp; omega), ?_, fun s hs => ?_, ?_, hB.out⟩
        · rw [show (ss ++ [((a2, mI, c2), I)]).length = ss.length + 1 by simp]
          exact hst.out
        · have hg := grown_set w2 w.heap.size ss.length (.slice a2 mI c2)
          rcases List.mem_append.1 hs with hs | hs
          · obtain ⟨h1, h2⟩ := hel.out s hs
            exact ⟨nodes_grown (h1.below b2h.out (Nat.le_refl _)) hg fun j hj => by
              obtain rfl : w.heap.size = j := by simpa using hj
              exact h2, h2⟩
          · obtain rfl : s = ((a2, mI, c2), I) := by simpa using hs
            exact ⟨nodes_grown hn2.out hg fun j hj => by
              obtain rfl : w.heap.size = j := by simpa using hj
              exact hne.out, hne.out⟩
        · show List.map _ _ = _
          rw [show (ss ++ [((a2, mI, c2), I)]).length = ss.length + 1 by simp, List.map_append, hmap.out, List.take_add_one, hIh.out]; rfl
      case measure => simp [intOf]; omega
    · have hkk : ss.length = Is.length := by omega
      have hmm : ss.map (·.2) = Is := by rw [hmap.out, hkk, List.take_length]
      have hfin := Lib.hid (show Fs wr (.slice (some ⟨w.heap.size, 0, none⟩) Is.length Is.length) Is from by
        refine ⟨ss, ?_, fun s hs => (hel.out s hs).1, hmm⟩
        have h2 := reads_of_own ho
        rw [hkk, Nat.sub_self] at h2
        simp only [List.replicate_zero, List.append_nil] at h2
        unfold Slices
        rw [hkk]
        exact h2)
      clear hmm
      rw [hkk]
      clear hkk ho
      go_wp2_with fail
      go_ret
      exact ⟨_, rfl, hfin.out, hb⟩
end Go.Proofs.Ytadinbjhpbomkaa
