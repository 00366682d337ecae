/- Lists of lists of int64 in memory of one's own: they are marked and read again. (written by turnii.py) -/
import Derived.Test.YtmhkcicjbgifnaaGreatMPredM
import Derived.Test.YtmhkcicjbgifnaaGreatMIntSS

namespace Go.Proofs.YtmhkcicjbgifnaaGreat
open Go.RowKit

/-- A slice's three parts. -/
abbrev HdI := Option Addr × Nat × Nat
def hdVI (h : HdI) : Value := .slice h.1 h.2.1 h.2.2

/-- v reads as the slices hs; each of them lies in a block of its own between lo and hi and reads as a formula of Is. -/
structure RowsAtI (lo hi : Nat) (w : World) (v : Value) (hs : List HdI) (Is : List (List Int)) : Prop where
  out : Reads w 1 v hs.length (hs.map hdVI)
  len : hs.length = Is.length
  row : ∀ (j : Nat) (h : HdI) (I : List Int), hs[j]? = some h → Is[j]? = some I → w.ownsRow lo 2 1 (hdVI h) I.length (I.map (Value.int .i64))
  lt : ∀ h ∈ hs, ∀ k, (hdVI h).ownBlock = some k → k < hi ∧ v.ownBlock ≠ some k
  ap : ∀ (i j : Nat) (h h' : HdI) (k : Nat), i ≠ j → hs[i]? = some h → hs[j]? = some h' → (hdVI h).ownBlock = some k → (hdVI h').ownBlock ≠ some k
  vlt : ∀ k, v.ownBlock = some k → lo ≤ k ∧ k < hi
  top : hi ≤ w.heap.size

theorem RowsAtI.same {lo hi : Nat} {w w' : World} {v : Value} {hs : List HdI} {Is : List (List Int)} (h : RowsAtI lo hi w v hs Is) (hsz : w.heap.size ≤ w'.heap.size) (hb : ∀ k, lo ≤ k → k < hi → w'.heap[k]? = w.heap[k]?) : RowsAtI lo hi w' v hs Is :=
  ⟨reads_same h.out fun b hb' _ => hb b (h.vlt b hb').1 (h.vlt b hb').2, h.len, fun j hd I h1 h2 => row_same (h.row j hd I h1 h2) fun k hk hl _ => hb k hl (h.lt hd (List.mem_of_getElem? h1) k hk).1, h.lt, h.ap, h.vlt, Nat.le_trans h.top hsz⟩

theorem RowsAtI.step {lo hi k : Nat} {w w' : World} {v : Value} {hs : List HdI} {Is : List (List Int)} {hd : HdI} {I I' : List Int} (h : RowsAtI lo hi w v hs Is) (hh : hs[k]? = some hd) (hI : Is[k]? = some I)
    (hr : w'.ownsRow lo 2 1 (hdVI hd) I'.length (I'.map (Value.int .i64))) (hg : w.grownBy w' (hdVI hd).ownBlock) : RowsAtI lo hi w' v hs (Is.set k I') := by
  refine ⟨reads_same h.out fun b hb hl => hg.block b hl fun e => (h.lt hd (List.mem_of_getElem? hh) b e.symm).2 hb, by rw [List.length_set]; exact h.len, fun j hj J h1 h2 => ?_, h.lt, h.ap, h.vlt, Nat.le_trans h.top hg.size⟩
  by_cases e : k = j
  · subst e
    rw [hh] at h1
    obtain rfl := Option.some.inj h1
    have hkI : k < Is.length := (List.getElem?_eq_some_iff.1 hI).1
    rw [List.getElem?_set_self hkI] at h2
    obtain rfl := Option.some.inj h2
    exact hr
  · rw [List.getElem?_set_ne e] at h2
    exact row_same (h.row j hj J h1 h2) fun b hb _ hl => hg.block b hl fun e2 => h.ap k j hd hj b e hh h1 e2.symm hb

def OwnII (lo hi : Nat) (w : World) (v : Value) (Is : List (List Int)) : Prop := ∃ hs, RowsAtI lo hi w v hs Is

theorem OwnII.below {lo hi K : Nat} {w w' : World} {v : Value} {Is : List (List Int)} (h : OwnII lo hi w v Is) (hb : Below K w w') (hk : w.heap.size ≤ K) : OwnII lo hi w' v Is := by
  obtain ⟨hs, h⟩ := h
  exact ⟨hs, h.same hb.size fun k _ hk' => hb.block k (by have := h.top; omega)⟩
theorem OwnII.turned {lo hi l u : Nat} {w w' : World} {v : Value} {Is : List (List Int)} (h : OwnII lo hi w v Is) (ht : Turned l u w w') (hd : hi ≤ l ∨ u ≤ lo) : OwnII lo hi w' v Is := by
  obtain ⟨hs, h⟩ := h
  exact ⟨hs, h.same ht.size fun k h1 h2 => ht.block k (by have := h.top; omega) (by omega)⟩

theorem OwnII.fs {lo hi : Nat} {w : World} {v : Value} {Is : List (List Int)} (h : OwnII lo hi w v Is) : Fi w v Is := by
  obtain ⟨hs, h⟩ := h
  have e1 : (hs.zip Is).map Prod.fst = hs := List.map_fst_zip (by rw [h.len]; exact Nat.le_refl _)
  have e2 : (hs.zip Is).map Prod.snd = Is := List.map_snd_zip (by rw [h.len]; exact Nat.le_refl _)
  have el : (hs.zip Is).length = hs.length := by rw [List.length_zip, h.len, Nat.min_self]
  refine ⟨hs.zip Is, ?_, fun s hs' => ?_, e2⟩
  · unfold SlicesI
    have e3 : (hs.zip Is).map slVI = hs.map hdVI := by
      conv => rhs; rw [← e1]
      rw [List.map_map]; rfl
    rw [e3, el]
    exact h.out
  · obtain ⟨j, hj⟩ := List.getElem?_of_mem hs'
    rw [List.getElem?_zip_eq_some] at hj
    exact ints_of_own (h.row j s.1 s.2 hj.1 hj.2)

/-- A list of formulas that was built in new memory. -/
theorem ownII_of_sl {lo hi : Nat} {w : World} {v : Value} {ss : List SlI} (ho : SlicesI w v ss) (hr : ∀ s ∈ ss, w.ownsRow lo 2 1 (slVI s) s.2.length (s.2.map (Value.int .i64))) (hl : ∀ s ∈ ss, ∀ k, (slVI s).ownBlock = some k → k < hi ∧ v.ownBlock ≠ some k)
    (hp : ss.Pairwise fun s t => ∀ k, (slVI s).ownBlock = some k → (slVI t).ownBlock ≠ some k) (hv : ∀ k, v.ownBlock = some k → lo ≤ k ∧ k < hi) (ht : hi ≤ w.heap.size) : OwnII lo hi w v (ss.map Prod.snd) := by
  refine ⟨ss.map Prod.fst, ?_, by simp, fun j h I h1 h2 => ?_, fun h hm k hk => ?_, fun i j h h' k hne h1 h2 hk hk' => ?_, hv, ht⟩
  · have : (ss.map Prod.fst).map hdVI = ss.map slVI := by rw [List.map_map]; rfl
    rw [this, List.length_map]
    exact ho
  · rw [List.getElem?_map, Option.map_eq_some_iff] at h1 h2
    obtain ⟨s, hs, rfl⟩ := h1
    obtain ⟨s', hs', rfl⟩ := h2
    rw [hs] at hs'
    obtain rfl := Option.some.inj hs'
    exact hr s (List.mem_of_getElem? hs)
  · obtain ⟨s, hs, rfl⟩ := List.mem_map.1 hm
    exact hl s hs k hk
  · rw [List.getElem?_map, Option.map_eq_some_iff] at h1 h2
    obtain ⟨s, hs, rfl⟩ := h1
    obtain ⟨s', hs', rfl⟩ := h2
    obtain ⟨li, ei⟩ := List.getElem?_eq_some_iff.1 hs
    obtain ⟨lj, ej⟩ := List.getElem?_eq_some_iff.1 hs'
    rw [List.pairwise_iff_getElem] at hp
    rcases Nat.lt_or_gt_of_ne hne with h | h
    · have := hp i j li lj h
      rw [ei, ej] at this
      exact this k hk hk'
    · have := hp j i lj li h
      rw [ei, ej] at this
      exact this k hk' hk

/-- The number of all elements. -/
def totI (Is : List (List Int)) : Nat := (Is.map List.length).sum
theorem totI_append (a b : List (List Int)) : totI (a ++ b) = totI a + totI b := by simp [totI]
theorem totI_succ {Is : List (List Int)} {j : Nat} {I : List Int} (h : Is[j]? = some I) : totI (Is.take (j + 1)) = totI (Is.take j) + I.length := by
  rw [List.take_add_one, h, totI_append]; simp [totI]
theorem totI_take_le (Is : List (List Int)) (j : Nat) : totI (Is.take j) ≤ totI Is := by
  conv => rhs; rw [← List.take_append_drop j Is, totI_append]
  omega
theorem totI_le {Is : List (List Int)} {n : Nat} (h : ∀ I ∈ Is, I.length ≤ n) : totI Is ≤ Is.length * n := by
  induction Is with
  | nil => simp [totI]
  | cons I Is ih =>
    have h1 := ih fun J hJ => h J (List.mem_cons_of_mem _ hJ)
    have h2 := h I List.mem_cons_self
    have e : totI (I :: Is) = I.length + totI Is := by simp [totI]
    rw [e, List.length_cons, Nat.add_one_mul]
    omega
theorem totI_cap {Is : List (List Int)} (hn : Is.length ≤ 1048576) (h : ∀ I ∈ Is, I.length ≤ 1048576) : totI Is ≤ 1099511627776 := by
  have h1 := totI_le h
  have h2 := Nat.mul_le_mul_right 1048576 hn
  omega

def marksII (k : Int) : List (List Int) → List (List Int)
  | [] => []
  | I :: Is => marks k I.length :: marksII (k + I.length) Is
theorem marksSS_length (k : Int) (Is : List (List Int)) : (marksII k Is).length = Is.length := by
  induction Is generalizing k with
  | nil => rfl
  | cons I Is ih => simp [marksII, ih]
theorem marksSS_get (k : Int) (Is : List (List Int)) (j : Nat) (I : List Int) (h : Is[j]? = some I) : (marksII k Is)[j]? = some (marks (k + (totI (Is.take j) : Nat)) I.length) := by
  induction Is generalizing k j with
  | nil => simp at h
  | cons J Is ih =>
    cases j with
    | zero => simp at h; subst h; simp [marksII, totI]
    | succ j =>
      simp only [List.getElem?_cons_succ] at h
      simp only [marksII, List.getElem?_cons_succ]
      rw [ih (k + J.length) j h]
      have e : totI ((J :: Is).take (j + 1)) = J.length + totI (Is.take j) := by simp [totI]
      rw [e]
      congr 2
      omega

set_option maxHeartbeats 1000000 in
theorem markInt64SS_any (v : Value) (lo hi : Nat) (Is : List (List Int)) (k0 : Int) (w : World) (h : OwnII lo hi w v Is) (hk0 : 0 ≤ k0) (hk2 : k0 + (totI Is : Nat) ≤ 4611686018427387904) :
    Calls Tryz.prog 12 #[v, .int .i64 k0] w fun e w' => e = .returned (.int .i64 (k0 + (totI Is : Nat))) ∧ OwnII lo hi w' v (marksII k0 Is) ∧ Turned lo hi w w' := by
  obtain ⟨hs, hR⟩ := h
  have hlen := hR.len
  obtain ⟨_, hm, a, c, b, o, rfl, hc, ha, _⟩ := hR.out
  have hhd := Lib.hid (hR.lt)
  unfold maxLen at hm
  have hah := Lib.hid ha
  have hR := Lib.hid hR
  have hlenh := Lib.hid hlen
  have hn : hs.length ≤ 2147483648 * 4294967296 := by omega
  clear ha hlen
  generalize hnn : hs.length = n at *
  have hnnh := Lib.hid hnn
  clear hnn
  go_enter Tryz.func12, Tryz.ntmps12
  go_wp2_with fail
  go_loopw [1, 5] (fun j i wr => ∃ k : Nat, k ≤ n ∧ i = .int .i64 k ∧ j = .int .i64 (k0 + (totI (Is.take k) : Nat)) ∧ Hid (RowsAtI lo hi wr (.slice a n c) hs ((marksII k0 Is).take k ++ Is.drop k)) ∧ Turned lo hi w wr) (fun _ i _ => n - (intOf i).toNat)
  case atStart => exact ⟨0, Nat.zero_le _, rfl, by simp [totI], by simpa using hR, Turned.refl _ _ _⟩
  case round =>
    obtain ⟨k, hk, rfl, rfl, hR, hT⟩ := hrel
    by_cases hlt : k < n
    · obtain rfl := hah.out (by omega)
      obtain ⟨hd, hhk⟩ : ∃ hd, hs[k]? = some hd := ⟨_, List.getElem?_eq_getElem (by have := hnnh.out; omega)⟩
      obtain ⟨I, hIk⟩ : ∃ I, Is[k]? = some I := ⟨_, List.getElem?_eq_getElem (by have := hnnh.out; have := hlenh.out; omega)⟩
      have hcur : ((marksII k0 Is).take k ++ Is.drop k)[k]? = some I := by
        have hml : ((marksII k0 Is).take k).length = k := by rw [List.length_take, marksSS_length]; have := hlenh.out; have := hnnh.out; omega
        rw [List.getElem?_append_right (by omega), hml, Nat.sub_self, List.getElem?_drop, Nat.add_zero]
        exact hIk
      have hrow := hR.out.row k hd I hhk hcur
      have hcell : wr.cell? ⟨b, o + k, none⟩ = some (hdVI hd) := by
        obtain ⟨_, _, a', c', b', o', hv, _, ha', hcell⟩ := hR.out.out
        obtain ⟨e1, e2, e3⟩ : some (⟨b, o, none⟩ : Addr) = a' ∧ n = hs.length ∧ c = c' := by simpa using hv
        have := ha' (by omega)
        rw [this] at e1
        obtain ⟨rfl, rfl⟩ : b = b' ∧ o = o' := by simpa using e1
        exact hcell k _ (by rw [List.getElem?_map, hhk]; rfl)
      have hmk := Lib.hid (marksSS_get k0 Is k I hIk)
      have hts := Lib.hid (totI_succ hIk)
      have htl := totI_take_le Is (k + 1)
      have hts2 := totI_succ hIk
      rw [hts2] at htl
      have hkI := Lib.hid (List.getElem?_eq_some_iff.1 hIk).1
      have hhk := Lib.hid hhk
      have hcur := Lib.hid hcur
      obtain ⟨xa, xn, xc⟩ := hd
      unfold hdVI at hcell
      simp only at hcell
      clear hIk hts2
      generalize hIl : I.length = m at *
      have hIl := Lib.hid hIl
      generalize htk : totI (Is.take k) = T at *
      have htk := Lib.hid htk
      go_wp2_with fail
      refine (markInt64S_any _ lo m I (k0 + (T : Nat)) _ hrow (by omega) (by omega)).mono ?_
      rintro e w1 ⟨rfl, ho1, hg1⟩
      have hst := hR.out.step (I' := marks (k0 + (T : Nat)) m) hhk.out hcur.out (by rw [marks_length]; exact ho1) hg1
      rw [set_take_drop _ _ k _ hmk.out hkI.out] at hst
      have hst := Lib.hid hst
      have hT1 := hT.trans (Turned.of_grown (lo := lo) (hi := hi) hg1 fun j hj => ⟨by have := hrow.lt j hj; omega, (hhd.out _ (List.mem_of_getElem? hhk.out) j hj).1⟩)
      go_wp2_with fail
      go_roundw
      case rel => exact ⟨k + 1, by omega, by go_num, by rw [hts.out]; go_num, hst, hT1⟩
      case measure => simp [intOf]; omega
    · obtain rfl : k = n := by omega
      have e1 : Is.take k = Is := List.take_of_length_le (by have := hlenh.out; have := hnnh.out; omega)
      have e2 : (marksII k0 Is).take k ++ Is.drop k = marksII k0 Is := by
        rw [List.drop_of_length_le (by have := hlenh.out; have := hnnh.out; omega), List.append_nil, List.take_of_length_le (by rw [marksSS_length]; have := hlenh.out; have := hnnh.out; omega)]
      rw [e1]
      rw [e2] at hR
      clear e1 e2
      go_wp2_with fail
      go_ret
      exact ⟨rfl, ⟨hs, hR.out⟩, hT⟩

set_option maxHeartbeats 1000000 in
theorem heldInt64SS_any (v : Value) (Is : List (List Int)) (k0 : Int) (w : World) (h : Fi w v (marksII k0 Is)) (hk0 : 0 ≤ k0) (hk2 : k0 + (totI Is : Nat) ≤ 4611686018427387904) :
    Calls Tryz.prog 13 #[v, .int .i64 k0] w fun e w' => e = .returned (.int .i64 (k0 + (totI Is : Nat))) ∧ Below w.heap.size w w' := by
  obtain ⟨a, c, b, o, rfl, hc, hm, ha, hcell⟩ := h.cells
  clear h
  rw [marksSS_length] at *
  unfold maxLen at hm
  have hah := Lib.hid ha
  clear ha
  generalize hnn : Is.length = n at *
  have hnnh := Lib.hid hnn
  clear hnn
  go_enter Tryz.func13, Tryz.ntmps13
  go_wp2_with fail
  go_loopw [1, 5] (fun j i wr => ∃ k : Nat, k ≤ n ∧ i = .int .i64 k ∧ j = .int .i64 (k0 + (totI (Is.take k) : Nat)) ∧ Below w.heap.size w wr) (fun _ i _ => n - (intOf i).toNat)
  case atStart => exact ⟨0, Nat.zero_le _, rfl, by simp [totI], Below.refl _ _⟩
  case round =>
    obtain ⟨k, hk, rfl, rfl, hb⟩ := hrel
    by_cases hlt : k < n
    · obtain rfl := hah.out (by omega)
      obtain ⟨I, hIk⟩ : ∃ I, Is[k]? = some I := ⟨_, List.getElem?_eq_getElem (by have := hnnh.out; omega)⟩
      obtain ⟨vI, J, hJ, hcI, hnI⟩ := hcell.out k hlt
      rw [marksSS_get k0 Is k I hIk] at hJ
      obtain rfl := Option.some.inj hJ
      clear hJ
      have hcI := (hb.cell (p := ⟨b, o + k, none⟩) (World.block_lt_of_cell? w _ hcI)).trans hcI
      have hnI := hnI.below hb (Nat.le_refl _)
      have hts := Lib.hid (totI_succ hIk)
      have htl := totI_take_le Is (k + 1)
      have hts2 := totI_succ hIk
      rw [hts2] at htl
      clear hIk hts2
      obtain ⟨a1, c1, rfl⟩ := hnI.shape
      have hnI := Lib.hid hnI
      generalize hIl : I.length = m at *
      generalize htk : totI (Is.take k) = T at *
      have hIl := Lib.hid hIl
      have htk := Lib.hid htk
      generalize hmL : (marks (k0 + (T : Nat)) m).length = mm at *
      have hmL := Lib.hid hmL
      go_wp2_with fail
      refine (heldInt64S_any _ m (k0 + (T : Nat)) _ hnI.out (by omega) (by omega)).mono ?_
      rintro e w1 ⟨rfl, hb1⟩
      have hB := keep_step hb1 hb
      go_wp2_with fail
      go_roundw
      case rel => exact ⟨k + 1, by omega, by go_num, by rw [hts.out]; go_num, hB⟩
      case measure => simp [intOf]; omega
    · obtain rfl : k = n := by omega
      have e1 : Is.take k = Is := List.take_of_length_le (by have := hnnh.out; omega)
      rw [e1]
      clear e1
      go_wp2_with fail
      go_ret
      exact ⟨rfl, hb⟩

end Go.Proofs.YtmhkcicjbgifnaaGreat
