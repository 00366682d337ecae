/- Walks of OccurrencesOf, of the program and of the reference. -/
import Derived.Test.YtbpkogknmhklbaaEq
import Derived.Test.YtbpkogknmhklbaaLists
import Derived.Test.YtbpkogknmhklbaaMembers
namespace Go.Proofs.Ytbpkogknmhklbaa
open Go.RowKit

theorem skip_mid (ns : List Nd) (op : Nat) (h : skip ns op = some []) (i : Nat) (hi : i < ns.length) : ∃ r, skip (ns.drop i) 1 = some r := by
  induction ns generalizing op i with
  | nil => simp at hi
  | cons n l ih =>
    cases op with
    | zero => rw [skip_zero] at h; cases h
    | succ op =>
      cases i with
      | zero =>
        rw [show op + 1 = 1 + op by omega, skip_add] at h
        cases hh : skip (n :: l) 1 with
        | none => rw [hh] at h; cases h
        | some r => exact ⟨r, by simpa using hh⟩
      | succ i =>
        rw [skip_cons] at h
        exact ih _ h i (by simpa using hi)

/-- In a formula a part begins at each node. -/
theorem part_in {ns : List Nd} (h : formB ns = true) {i : Nat} (hi : i < ns.length) : ∃ m, 0 < m ∧ i + m ≤ ns.length ∧ partEndL ns i = ((i + m : Nat) : Int) := by
  simp only [formB, Bool.and_eq_true, decide_eq_true_eq] at h
  obtain ⟨r, hr⟩ := skip_mid ns 1 h.2 i hi
  obtain ⟨p, hp, hl⟩ := skip_suffix _ _ _ hr
  have hlen : ns.length - i = p.length + r.length := by rw [← List.length_drop, hp, List.length_append]
  refine ⟨p.length, by omega, by omega, ?_⟩
  unfold partEndL
  rw [hr]
  show (ns.length : Int) - (r.length : Nat) = _
  omega

/-- The part at a node. -/
def partL (ns : List Nd) (i : Nat) : List Nd := (ns.drop i).take (partEndL ns i - i).toNat
theorem partL_eq {ns : List Nd} {i m : Nat} (he : partEndL ns i = ((i + m : Nat) : Int)) : (ns.drop i).take m = partL ns i := by
  unfold partL
  rw [he]
  congr 1
  omega

def occUpto (ns bs : List Nd) (k : Nat) : List Int := ((List.range k).filter fun i => decide (partL ns i = bs)).map fun i => ((i : Nat) : Int)
theorem occ_yes {ns bs : List Nd} {k : Nat} (h : decide (partL ns k = bs) = true) : occUpto ns bs (k + 1) = occUpto ns bs k ++ [(k : Int)] := by
  unfold occUpto
  rw [List.range_succ, List.filter_append, List.map_append]
  congr 1
  simp only [List.filter, h, List.map]
theorem occ_no {ns bs : List Nd} {k : Nat} (h : decide (partL ns k = bs) = false) : occUpto ns bs (k + 1) = occUpto ns bs k := by
  unfold occUpto
  rw [List.range_succ, List.filter_append, List.map_append]
  simp only [List.filter, h, List.map, List.append_nil]
theorem occ_length (ns bs : List Nd) (k : Nat) : (occUpto ns bs k).length ≤ k := by
  unfold occUpto
  rw [List.length_map]
  exact Nat.le_trans (List.length_filter_le _ _) (by simp)

def form2 (ns bs : List Nd) : Bool := formB ns && formB bs
def form2Code (ns bs : List Nd) : Int := if form2 ns bs then 0 else 1
def occR (ns bs : List Nd) : List Int := if form2 ns bs then occUpto ns bs ns.length else []
theorem occR_length (ns bs : List Nd) : (occR ns bs).length ≤ 64 := by
  unfold occR
  split
  · rename_i h
    have := occ_length ns bs ns.length
    simp only [form2, formB, Bool.and_eq_true, decide_eq_true_eq] at h
    omega
  · simp

set_option maxHeartbeats 1600000 in
theorem specOccurrencesOf_any (v : Value) (ns : List Nd) (u : Value) (bs : List Nd) (w : World) (h : Nodes w v ns) (hu : Nodes w u bs) :
    Calls Try.prog 35 #[v, u] w fun e w' => ∃ v, e = .returned (.tuple #[v, .int .i64 (form2Code ns bs)]) ∧ w'.ownsRow w.heap.size 2 1 v (occR ns bs).length ((occR ns bs).map (Value.int .i64)) ∧ Below w.heap.size w w' := by
  have hv := Lib.hid h
  have hu := Lib.hid hu
  cases h1 : formB ns
  · have h2 := Lib.hid (show form2Code ns bs = 1 ∧ occR ns bs = [] by simp [form2Code, occR, form2, h1])
    clear h
    go_enter Try.func35, Try.ntmps35
    go_wp2_with (go_at_call 41; refine (l02Is_any _ ns _ hv.out).mono ?_; rintro e w' ⟨rfl, rfl⟩)
    go_ret2
    exact ⟨_, by rw [h2.out.1]; rfl, by rw [h2.out.2]; exact World.ownsRow_nil _ _ _ _, Below.refl _ _⟩
  · cases h3 : formB bs
    · have h2 := Lib.hid (show form2Code ns bs = 1 ∧ occR ns bs = [] by simp [form2Code, occR, form2, h1, h3])
      clear h
      go_enter Try.func35, Try.ntmps35
      go_wp2_with fail
      refine (l02Is_any _ ns _ hv.out).mono ?_
      rintro e w' ⟨rfl, rfl⟩
      go_wp2_with fail
      refine (l02Is_any _ bs _ hu.out).mono ?_
      rintro e w' ⟨rfl, rfl⟩
      go_wp2_with fail
      go_ret2
      exact ⟨_, by rw [h2.out.1]; rfl, by rw [h2.out.2]; exact World.ownsRow_nil _ _ _ _, Below.refl _ _⟩
    · have h2 := Lib.hid (show form2Code ns bs = 0 ∧ occR ns bs = occUpto ns bs ns.length by simp [form2Code, occR, form2, h1, h3])
      have hpi := Lib.hid (fun i hi => part_in h1 (i := i) hi)
      have hl40 : ns.length ≤ 40 := by simp only [formB, Bool.and_eq_true, decide_eq_true_eq] at h1; omega
      have hlp : 0 < ns.length := by simp only [formB, Bool.and_eq_true, decide_eq_true_eq] at h1; omega
      obtain ⟨c, b, o, rfl, hc, hcm, hcell⟩ := h.raw hlp
      obtain ⟨i0, hi, hz0, hz1, hz2⟩ := info_parts info_i64
      clear h
      have hq1 := Lib.hid (fun w' (hb : Below w.heap.size w w') => (l02Is_any _ ns w' (hv.out.below hb (Nat.le_refl _))))
      go_enter Try.func35, Try.ntmps35
      go_wp2_with fail
      refine (l02Is_any _ ns _ hv.out).mono ?_
      rintro e w' ⟨rfl, rfl⟩
      go_wp2_with fail
      refine (l02Is_any _ bs _ hu.out).mono ?_
      rintro e w' ⟨rfl, rfl⟩
      go_wp2_with fail
      go_loopw [6, 7] (fun v i wr => ∃ k : Nat, k ≤ ns.length ∧ i = .int .i64 k ∧ wr.ownsRow w.heap.size 2 1 v (occUpto ns bs k).length ((occUpto ns bs k).map (Value.int .i64)) ∧ Below w.heap.size w wr) (fun _ i _ => ns.length - (intOf i).toNat)
      case atStart => exact ⟨0, by omega, rfl, World.ownsRow_lit w #[] 0 (Nat.le_refl _) (by simp [maxLen]) rfl, (Below.refl _ _).alloc (Nat.le_refl _) _⟩
      case round =>
        obtain ⟨k, hk, rfl, ho, hb⟩ := hrel
        by_cases hlt : k < ns.length
        · obtain ⟨m, hm0, hm1, hm2⟩ := hpi.out k hlt
          have hol := occ_length ns bs k
          have hm2 := Lib.hid hm2
          have hvr := Lib.hid (hv.out.below hb (Nat.le_refl _))
          have hur := Lib.hid (hu.out.below hb (Nat.le_refl _))
          have hpc := Lib.hid (show ∀ j q, (cellsN ns)[j]? = some q → wr.cell? ⟨b, o + j, none⟩ = some q from fun j q hq => by
            have hq := hcell.out j q hq
            exact (hb.cell (p := ⟨b, o + j, none⟩) (World.block_lt_of_cell? w _ hq)).trans hq)
          have hpe := Lib.hid (partL_eq hm2.out)
          have hpl := Lib.hid (show ((ns.drop k).take m).length ≤ 1000000 by simp; omega)
          have hs := hb.size
          have ho := Lib.hid ho
          go_wp2_with fail
          refine (l02Part_any _ ns _ _ hvr.out (by omega) (by omega) (by omega)).mono ?_
          rintro e w' ⟨rfl, rfl⟩
          rw [Int.toNat_natCast, hm2.out]
          go_wp2_with fail
          refine (l02Equal_any _ _ ((ns.drop k).take m) bs _ ?_ hur.out hpl.out).mono ?_
          · exact nodes_piece hpc.out (by omega) (by unfold maxLen at *; omega) hm1 (fun _ => rfl)
          rintro e w2 ⟨rfl, hb2⟩
          rw [hpe.out]
          have ho2 := own_below ho.out hb2 (Nat.le_refl _)
          have hb3 := hb.trans (hb2.mono hs)
          have hs2 := hb3.size
          cases hd : decide (partL ns k = bs)
          · have hno := Lib.hid (occ_no hd)
            clear hd
            have ho2 := Lib.hid ho2
            go_wp2_with fail
            go_roundw
            case rel => exact ⟨k + 1, by omega, by go_num, by rw [hno.out]; exact ho2.out, hb3⟩
            case measure => simp [intOf]; omega
          · have hyes := Lib.hid (occ_yes hd)
            clear hd
            go_wp2_with (at_builtin; refine wpList_append_own _ rfl _ _ 33 rfl w.heap.size 2 i0 (.int .i64 0) 1 8 Try.underlying33 hi hz0 hz1 hz2 rfl (by decide) _ _ _ rfl (ho2.alloc _) ⟨w2.heap.size, 0, none⟩ 1 1 [.int .i64 (k : Int)] rfl rfl (cell_one_new _ _ _) (ints_oneCell .i64 [(k : Int)]) (by unfold maxLen; omega) (by omega) (by simp; omega) ?_; intro v' w1 hown' hgrow _)
            go_roundw
            case rel =>
              refine ⟨k + 1, by omega, by go_num, ?_, ?_⟩
              · rw [hyes.out]; simpa using hown'
              · exact (hb3.alloc (by omega) _).grown hgrow (by simp; omega) (fun j hj => (ho2.lt j hj).1)
            case measure => simp [intOf]; omega
        · obtain rfl : k = ns.length := by omega
          have ho := Lib.hid ho
          go_wp2_with fail
          go_ret2
          exact ⟨_, by rw [h2.out.1]; rfl, by rw [h2.out.2]; exact ho.out, hb⟩

set_option maxHeartbeats 1600000 in
theorem implOccurrencesOf_any (v : Value) (ns : List Nd) (u : Value) (bs : List Nd) (w : World) (h : Nodes w v ns) (hu : Nodes w u bs) :
    Calls Try.prog 36 #[v, u] w fun e w' => ∃ v, e = .returned (.tuple #[v, .int .i64 (form2Code ns bs)]) ∧ w'.ownsRow w.heap.size 2 1 v (occR ns bs).length ((occR ns bs).map (Value.int .i64)) ∧ Below w.heap.size w w' := by
  obtain ⟨a, c, rfl⟩ := h.shape
  obtain ⟨a', c', rfl⟩ := hu.shape
  have hv := Lib.hid h
  have hu := Lib.hid hu
  clear h
  have hare := Lib.hid (fun t : TypeId => areFormulas_two w a a' _ _ c c' ns bs t hv.out hu.out)
  cases h1 : form2 ns bs
  · have h2 := Lib.hid (show form2Code ns bs = 1 ∧ occR ns bs = [] by simp [form2Code, occR, h1])
    unfold form2 at h1
    generalize ns.length = n at *
    generalize bs.length = n' at *
    go_enter Try.func36, Try.ntmps36
    go_wp2_with fail
    refine (hare.out _).mono ?_
    rintro e w1 ⟨rfl, hb1⟩
    rw [h1]
    go_wp2_with fail
    go_ret2
    exact ⟨_, by rw [h2.out.1]; rfl, by rw [h2.out.2]; exact World.ownsRow_nil _ _ _ _, hb1⟩
  · have h2 := Lib.hid (show form2Code ns bs = 0 ∧ occR ns bs = occUpto ns bs ns.length by simp [form2Code, occR, h1])
    unfold form2 at h1
    have h1' := (Bool.and_eq_true _ _).mp h1
    have hpi := Lib.hid (fun i hi => part_in h1'.1 (i := i) hi)
    have hl40 : ns.length ≤ 40 := by have := h1'.1; simp only [formB, Bool.and_eq_true, decide_eq_true_eq] at this; omega
    have hol := Lib.hid (occ_length ns bs)
    have hpt := Lib.hid (show ∀ i m, i + m ≤ ns.length → ((ns.drop i).take m).length ≤ 1000000 from fun i m _ => by simp; omega)
    clear h1'
    obtain ⟨i0, hi, hz0, hz1, hz2⟩ := info_parts info_i64
    generalize hn : ns.length = n at *
    have hn := Lib.hid hn
    generalize bs.length = n' at *
    go_enter Try.func36, Try.ntmps36
    go_wp2_with fail
    refine (hare.out _).mono ?_
    rintro e w0 ⟨rfl, hb0⟩
    rw [h1]
    have hs0 := hb0.size
    go_wp2_with fail
    go_loopw [6, 15] (fun v i wr => ∃ k : Nat, k ≤ n ∧ i = .int .i64 k ∧ wr.ownsRow w.heap.size 2 1 v (occUpto ns bs k).length ((occUpto ns bs k).map (Value.int .i64)) ∧ Below w.heap.size w wr) (fun _ i _ => n - (intOf i).toNat)
    case atStart => exact ⟨0, by omega, rfl, World.ownsRow_nil _ _ _ _, hb0⟩
    case round =>
      obtain ⟨k, hk, rfl, ho, hb⟩ := hrel
      by_cases hlt : k < n
      · obtain ⟨m, hm0, hm1, hm2⟩ := hpi.out k hlt
        have holk := hol.out k
        have hm2 := Lib.hid hm2
        have hvr := Lib.hid (hv.out.below hb (Nat.le_refl _))
        have hur := Lib.hid (hu.out.below hb (Nat.le_refl _))
        have hpe := Lib.hid (partL_eq hm2.out)
        have hpl := Lib.hid (hpt.out k m hm1)
        have hs := hb.size
        have ho := Lib.hid ho
        go_wp2_with fail
        refine (part_any _ ns k m _ hvr.out hm2.out hm0 (by rw [hn.out]; exact hm1) (by rw [hn.out]; omega)).mono ?_
        rintro e w' ⟨⟨vp, rfl, hvp⟩, rfl⟩
        have hvp := Lib.hid hvp
        go_wp2_with fail
        refine (same_any _ _ ((ns.drop k).take m) bs _ hvp.out hur.out hpl.out).mono ?_
        rintro e w2 ⟨rfl, hb2⟩
        rw [hpe.out]
        have ho2 := own_below ho.out hb2 (Nat.le_refl _)
        have hb3 := hb.trans (hb2.mono hs)
        have hs2 := hb3.size
        cases hd : decide (partL ns k = bs)
        · have hno := Lib.hid (occ_no hd)
          clear hd
          have ho2 := Lib.hid ho2
          go_wp2_with fail
          go_roundw
          case rel => exact ⟨k + 1, by omega, by go_num, by rw [hno.out]; exact ho2.out, hb3⟩
          case measure => simp [intOf]; omega
        · have hyes := Lib.hid (occ_yes hd)
          clear hd
          go_wp2_with (at_builtin; refine wpList_append_own _ rfl _ _ 33 rfl w.heap.size 2 i0 (.int .i64 0) 1 8 Try.underlying33 hi hz0 hz1 hz2 rfl (by decide) _ _ _ rfl (ho2.alloc _) ⟨w2.heap.size, 0, none⟩ 1 1 [.int .i64 (k : Int)] rfl rfl (cell_one_new _ _ _) (ints_oneCell .i64 [(k : Int)]) (by unfold maxLen; omega) (by omega) (by simp; omega) ?_; intro v' w1 hown' hgrow _)
          go_roundw
          case rel =>
            refine ⟨k + 1, by omega, by go_num, ?_, ?_⟩
            · rw [hyes.out]; simpa using hown'
            · exact (hb3.alloc (by omega) _).grown hgrow (by simp; omega) (fun j hj => (ho2.lt j hj).1)
          case measure => simp [intOf]; omega
      · obtain rfl : k = n := by omega
        have ho := Lib.hid ho
        go_wp2_with fail
        go_ret2
        exact ⟨_, by rw [h2.out.1]; rfl, by rw [h2.out.2]; exact ho.out, hb⟩
end Go.Proofs.Ytbpkogknmhklbaa
