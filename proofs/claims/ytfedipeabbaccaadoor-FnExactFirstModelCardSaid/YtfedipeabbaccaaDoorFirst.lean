/- FirstModel, of both. -/
import Derived.Test.YtfedipeabbaccaaDoorClassTwo
import Derived.Test.YtfedipeabbaccaaDoorTurn
import Derived.Lib.TrailingZeros
import Derived.Lib.LaidTab
import Derived.LaidMore
import Derived.Shelf.Spec.TrailingZeros
namespace Go.Proofs.YtfedipeabbaccaaDoor
open Go.RowKit Go.Deep

theorem bit_of_low {x k m i : Nat} (h : x = 2 ^ k * (2 * m + 1)) : x.testBit i = (decide (k ≤ i) && (2 * m + 1).testBit (i - k)) := by
  rw [h, Nat.mul_comm, Nat.testBit_mul_two_pow]
/-- The least row is the number of trailing zeros. -/
theorem first_ctz (p : Nat → Bool) (h : rowsOf p 64 ≠ 0) : firstI p true = ((Lib.ctz 64 (rowsOf p 64) : Nat) : Int) := by
  obtain ⟨m, hm, hk⟩ := Lib.ctzFrom_spec 64 (rowsOf p 64) (by omega) (rows64_lt p)
  have e : Lib.ctz 64 (rowsOf p 64) = Lib.ctzFrom 64 (rowsOf p 64) := by simp [Lib.ctz, h]
  rw [e]
  generalize Lib.ctzFrom 64 (rowsOf p 64) = k at *
  refine firstI_at hk ?_ fun i hi => ?_
  · have h1 := bit_of_low (i := k) hm
    rw [rowsOf_bit] at h1
    simp [hk, Nat.testBit_zero] at h1
    rw [h1]; rfl
  · have h1 := bit_of_low (i := i) hm
    rw [rowsOf_bit] at h1
    have h2 : decide (k ≤ i) = false := by simp; omega
    rw [h2] at h1
    have h3 : decide (i < 64) = true := by simp; omega
    rw [h3] at h1
    simp at h1
    rw [h1]; rfl
theorem first_none {p : Nat → Bool} (h : rowsOf p 64 = 0) : firstI p true = -1 := by
  refine firstI_none fun i hi => ?_
  have := List.all_eq_true.1 ((rows_empty p).1 h) i (by simpa using hi)
  simp at this
  rw [this]; rfl

def fmCode (ns : List Nd) : Int := if codeP [ns] = 0 then (if firstI (valT (treeOf ns)) true < 0 then 4 else 0) else codeP [ns]
def fmR (ns : List Nd) : Int := if codeP [ns] = 0 then (if firstI (valT (treeOf ns)) true < 0 then 0 else firstI (valT (treeOf ns)) true) else 0

def ZTab (w : World) : Prop := ∀ j, j < 64 → w.cell? ⟨2, j, none⟩ = some (.int .u8 ((Lib.deBruijn64tab.getD j 0 : Nat) : Int))
theorem ZTab.below {w w' : World} {K : Nat} (h : ZTab w) (hb : Below K w w') (hk : w.heap.size ≤ K) : ZTab w' := fun j hj => by
  have h1 := h j hj
  exact (hb.cell (Nat.lt_of_lt_of_le (World.block_lt_of_cell? w _ h1) hk)).trans h1

set_option maxHeartbeats 1000000 in
theorem tz64_core (x k idx : Nat) (w : World) (hx0 : ((x : Int) == 0) = false)
    (key : IntKind.u64.wrap (bits BinOp.and IntKind.u64 (x : Int) (IntKind.u64.wrap (-(x : Int))) * 285870213051353865) / 288230376151711744 = (idx : Int))
    (hi : idx < 64) (hk : k < 64) (hcell : w.cell? ⟨2, idx, none⟩ = some (.int .u8 (k : Int))) :
    Calls Tryd.prog 77 #[.int .u64 x] w fun e w' => e = .returned (.int .i64 (k : Int)) ∧ w = w' := by
  go_enter Tryd.func77, Tryd.ntmps77
  go_wp2_with (simp only [key])
  go_ret
  exact ⟨rfl, rfl⟩

theorem tz64_any (x : Nat) (hx : x < 18446744073709551616) (hx0 : x ≠ 0) (w : World) (hT : ZTab w) :
    Calls Tryd.prog 77 #[.int .u64 x] w fun e w' => e = .returned (.int .i64 (Lib.ctz 64 x : Nat)) ∧ w = w' := by
  obtain ⟨hlow, hk⟩ := Lib.lowest_bit 64 x hx0 hx
  obtain ⟨hi, htab⟩ := Lib.deBruijn64_at _ hk
  have hcell := hT _ hi
  rw [htab] at hcell
  exact tz64_core x _ _ w (by simp; omega) (tz64_key x _ hx hx0 hlow) hi hk hcell

theorem least_any (x : Nat) (hx : x < 18446744073709551616) (hx0 : x ≠ 0) (w : World) (hT : ZTab w) :
    Calls Tryd.prog 48 #[.int .u64 x] w fun e w' => e = .returned (.int .i64 (Lib.ctz 64 x : Nat)) ∧ w = w' := by
  go_enter Tryd.func48, Tryd.ntmps48
  go_wp2_with fail
  refine (tz64_any x hx hx0 _ hT).mono ?_
  rintro e w' ⟨rfl, rfl⟩
  go_wp2_with fail
  go_ret
  exact ⟨rfl, rfl⟩

set_option maxHeartbeats 1000000 in
theorem implFirstModel_any (v : Value) (ns : List Nd) (w : World) (h : Nodes w v ns) (hT : ZTab w) :
    Calls Tryd.prog 25 #[v] w fun e w' => e = .returned (.tuple #[.int .i64 (fmR ns), .int .i64 (fmCode ns)]) ∧ Below w.heap.size w w' := by
  obtain ⟨a, c, rfl⟩ := h.shape
  have hv := Lib.hid h
  have hcode := Lib.hid (fun t => plainCode_one w a _ c ns t h)
  clear h
  generalize ns.length = n at *
  by_cases h0 : codeP [ns] = 0
  · obtain ⟨hf, hp⟩ := codeP_one h0
    obtain ⟨h1, h2, h3, h4⟩ := plain_tree hf hp
    have hmod := Lib.hid (fun w1 (hb : Below w.heap.size w w1) => modelsOf_any (treeOf ns) _ w1 h1 h3 (by rw [h2]; exact hv.out.below hb (Nat.le_refl _)) (by rw [h2]; omega))
    have hc := Lib.hid h0
    by_cases hz : rowsOf (valT (treeOf ns)) 64 = 0
    · have hfn := first_none hz
      have hr := Lib.hid (show fmR ns = 0 by unfold fmR; rw [if_pos h0, hfn]; rfl)
      have hcd := Lib.hid (show fmCode ns = 4 by unfold fmCode; rw [if_pos h0, hfn]; rfl)
      have hM := Lib.hid (show rowsT (treeOf ns) = 0 by unfold rowsT; rw [hz]; rfl)
      clear h0 hf hp h1 h2 h3 h4 hz hfn
      go_enter Tryd.func25, Tryd.ntmps25
      go_wp2_with fail
      refine (hcode.out _).mono ?_
      rintro e w1 ⟨rfl, b1⟩
      rw [hc.out]
      go_wp2_with fail
      refine (hmod.out _ b1).mono ?_
      rintro e w2 ⟨rfl, rfl⟩
      rw [hM.out]
      go_wp2_with fail
      go_ret2
      exact ⟨by rw [hr.out, hcd.out]; rfl, b1⟩
    · have hfc := first_ctz _ hz
      have hlt := rows64_lt (valT (treeOf ns))
      have hnn : ¬ firstI (valT (treeOf ns)) true < 0 := by rw [hfc]; omega
      have hr := Lib.hid (show fmR ns = (Lib.ctz 64 (rowsOf (valT (treeOf ns)) 64) : Nat) by unfold fmR; rw [if_pos h0, if_neg hnn, hfc])
      have hcd := Lib.hid (show fmCode ns = 0 by unfold fmCode; rw [if_pos h0, if_neg hnn])
      have hM := Lib.hid (show rowsT (treeOf ns) = (rowsOf (valT (treeOf ns)) 64 : Nat) from rfl)
      have hls := Lib.hid (fun w1 (hb : Below w.heap.size w w1) => least_any (rowsOf (valT (treeOf ns)) 64) hlt hz w1 (hT.below hb (Nat.le_refl _)))
      have hx0 : (((rowsOf (valT (treeOf ns)) 64 : Nat) : Int) == 0) = false := by rw [beq_eq_false_iff_ne]; omega
      clear h0 hf hp h1 h2 h3 h4 hz hfc hnn hlt
      generalize rowsOf (valT (treeOf ns)) 64 = X at *
      go_enter Tryd.func25, Tryd.ntmps25
      go_wp2_with fail
      refine (hcode.out _).mono ?_
      rintro e w1 ⟨rfl, b1⟩
      rw [hc.out]
      go_wp2_with fail
      refine (hmod.out _ b1).mono ?_
      rintro e w2 ⟨rfl, rfl⟩
      rw [hM.out]
      go_wp2_with fail
      refine (hls.out _ b1).mono ?_
      rintro e w2 ⟨rfl, rfl⟩
      go_wp2_with fail
      go_ret2
      exact ⟨by rw [hr.out, hcd.out]; rfl, b1⟩
  · have hr := Lib.hid (show fmR ns = 0 by simp [fmR, h0])
    have hcd := Lib.hid (show fmCode ns = codeP [ns] by unfold fmCode; rw [if_neg h0])
    have hne := codeP_ne h0
    clear h0
    go_enter Tryd.func25, Tryd.ntmps25
    go_wp2_with fail
    refine (hcode.out _).mono ?_
    rintro e w1 ⟨rfl, b1⟩
    go_wp2_with fail
    go_ret2
    exact ⟨by rw [hr.out, hcd.out]; rfl, b1⟩

set_option maxHeartbeats 1000000 in
theorem specFirstModel_any (v : Value) (ns : List Nd) (w : World) (h : Nodes w v ns) :
    Calls Tryd.prog 23 #[v] w fun e w' => e = .returned (.tuple #[.int .i64 (fmR ns), .int .i64 (fmCode ns)]) ∧ Below w.heap.size w w' := by
  obtain ⟨a, c, rfl⟩ := h.shape
  have hv := Lib.hid h
  have hcode := Lib.hid (fun t => l04Code_one w a _ c ns t h)
  clear h
  generalize ns.length = n at *
  by_cases h0 : codeP [ns] = 0
  · obtain ⟨hf, hp⟩ := codeP_one h0
    obtain ⟨h1, h2, h3, h4⟩ := plain_tree hf hp
    have htab := Lib.hid (fun w1 (hb : Below w.heap.size w w1) => l04Table_any (treeOf ns) _ w1 h1 h3 (by rw [h2]; exact hv.out.below hb (Nat.le_refl _)) (by rw [h2]; omega))
    have hfst := Lib.hid (l04First_any (valT (treeOf ns)) true)
    have hc := Lib.hid h0
    by_cases hneg : firstI (valT (treeOf ns)) true < 0
    · have hr := Lib.hid (show fmR ns = 0 by unfold fmR; rw [if_pos h0, if_pos hneg])
      have hcd := Lib.hid (show fmCode ns = 4 by unfold fmCode; rw [if_pos h0, if_pos hneg])
      clear h0 hf hp h1 h2 h3 h4
      generalize valT (treeOf ns) = p at *
      go_enter Tryd.func23, Tryd.ntmps23
      go_wp2_with fail
      refine (hcode.out _).mono ?_
      rintro e w1 ⟨rfl, b1⟩
      rw [hc.out]
      go_wp2_with fail
      refine (htab.out _ b1).mono ?_
      rintro e w2 ⟨v2, rfl, ho, b2⟩
      have ho := Lib.hid ho
      go_wp2_with fail
      refine (hfst.out _ _ (bools_of_own ho.out)).mono ?_
      rintro e w' ⟨rfl, rfl⟩
      go_wp2_with fail
      go_ret2
      exact ⟨by rw [hr.out, hcd.out]; rfl, b1.trans (b2.mono b1.size)⟩
    · have hr := Lib.hid (show fmR ns = firstI (valT (treeOf ns)) true by unfold fmR; rw [if_pos h0, if_neg hneg])
      have hcd := Lib.hid (show fmCode ns = 0 by unfold fmCode; rw [if_pos h0, if_neg hneg])
      clear h0 hf hp h1 h2 h3 h4
      generalize valT (treeOf ns) = p at *
      go_enter Tryd.func23, Tryd.ntmps23
      go_wp2_with fail
      refine (hcode.out _).mono ?_
      rintro e w1 ⟨rfl, b1⟩
      rw [hc.out]
      go_wp2_with fail
      refine (htab.out _ b1).mono ?_
      rintro e w2 ⟨v2, rfl, ho, b2⟩
      have ho := Lib.hid ho
      go_wp2_with fail
      refine (hfst.out _ _ (bools_of_own ho.out)).mono ?_
      rintro e w' ⟨rfl, rfl⟩
      go_wp2_with fail
      go_ret2
      exact ⟨by rw [hr.out, hcd.out]; rfl, b1.trans (b2.mono b1.size)⟩
  · have hr := Lib.hid (show fmR ns = 0 by simp [fmR, h0])
    have hcd := Lib.hid (show fmCode ns = codeP [ns] by unfold fmCode; rw [if_neg h0])
    have hne := codeP_ne h0
    clear h0
    go_enter Tryd.func23, Tryd.ntmps23
    go_wp2_with fail
    refine (hcode.out _).mono ?_
    rintro e w1 ⟨rfl, b1⟩
    go_wp2_with fail
    go_ret2
    exact ⟨by rw [hr.out, hcd.out]; rfl, b1⟩

theorem laid_FnExactFirstModel {W : World} (h : laidMetH Tryd.prog [("math/bits.deBruijn64tab", Rows.laid_math_bits_deBruijn64tab)] W) : ZTab W := by
  rw [MakeChecks.laidMetH_plain _ _ _ (by kernel_rfl)] at h
  have h1 := Lib.tabIs_of_head (zs := Lib.deBruijn64tab.map fun n : Nat => (n : Int)) (k := .u8) (g := 2) (by kernel_rfl) (by kernel_rfl) Tryd.underlying108 Tryd.underlying5 (by kernel_rfl) (by kernel_rfl) h
  intro j hj
  have h2 := h1.cell (g := 2) (by kernel_rfl) j (by rw [List.length_map]; exact hj)
  rw [h2]
  congr 2
  rw [List.getD_eq_getElem?_getD, List.getD_eq_getElem?_getD, List.getElem?_map, List.getElem?_eq_getElem (show j < Lib.deBruijn64tab.length from hj)]
  rfl
end Go.Proofs.YtfedipeabbaccaaDoor
