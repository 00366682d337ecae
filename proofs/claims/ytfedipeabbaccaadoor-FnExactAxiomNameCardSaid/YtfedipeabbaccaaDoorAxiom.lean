/- AxiomName, of both. -/
import Derived.Test.YtfedipeabbaccaaDoorStrTab
import Derived.Test.YtfedipeabbaccaaDoorMasks
namespace Go.Proofs.YtfedipeabbaccaaDoor
open Go.RowKit

def axL : List (List UInt8) := [[52], [53], [66], [67], [68], [70], [71], [72], [76], [84], [86], [88], [90]]
def axName (i : Int) : ByteArray := if inR i 0 12 then ⟨(axL.getD i.toNat []).toArray⟩ else ⟨#[]⟩
def axCode (i : Int) : Int := if inR i 0 12 then 0 else 2
def AxTab (w : World) : Prop := ∀ (k : Nat) (l : List UInt8), axL[k]? = some l → w.cell? ⟨0, k, none⟩ = some (.string ⟨l.toArray⟩)
theorem ax_in {i : Int} (h : inR i 0 12 = true) : ∃ (k : Nat) (l : List UInt8), i = (k : Nat) ∧ k < 13 ∧ axL[k]? = some l ∧ axName i = ⟨l.toArray⟩ ∧ axCode i = 0 := by
  rw [inR_iff] at h
  obtain ⟨k, rfl⟩ : ∃ k : Nat, i = (k : Nat) := ⟨i.toNat, by omega⟩
  have hk : k < axL.length := by show k < 13; omega
  refine ⟨k, axL[k], rfl, by omega, List.getElem?_eq_getElem hk, ?_, ?_⟩
  · unfold axName
    rw [if_pos (by rw [inR_iff]; exact h), Int.toNat_natCast, List.getD_eq_getElem?_getD, List.getElem?_eq_getElem hk]; rfl
  · unfold axCode
    rw [if_pos (by rw [inR_iff]; exact h)]
theorem ax_out {i : Int} (h : inR i 0 12 = false) : axName i = ⟨#[]⟩ ∧ axCode i = 2 := by
  unfold axName axCode; rw [h]; exact ⟨rfl, rfl⟩

theorem implAxiomName_any (i : Int) (w : World) (ht : AxTab w) :
    Calls Tryd.prog 21 #[.int .i64 i] w fun e w' => e = .returned (.tuple #[.string (axName i), .int .i64 (axCode i)]) ∧ w = w' := by
  cases h : inR i 0 12
  · obtain ⟨h1, h2⟩ := ax_out h
    have h1 := Lib.hid h1
    have h2 := Lib.hid h2
    have hh := Lib.hid h
    rename_i h1' h2'
    clear h1' h2' h
    go_enter Tryd.func21, Tryd.ntmps21
    go_wp2_with fail
    refine (inRange_any _ _ _ _).mono ?_
    rintro e w' ⟨rfl, rfl⟩
    rw [hh.out]
    go_wp2_with fail
    go_ret2
    exact ⟨by rw [h1.out, h2.out]; rfl, rfl⟩
  · obtain ⟨k, l, rfl, hk, hl, h1, h2⟩ := ax_in h
    have hc := ht k l hl
    have hki : (k : Int) < 13 := by omega
    replace h1 := Lib.hid h1
    replace h2 := Lib.hid h2
    have hh := Lib.hid h
    clear h hl ht
    go_enter Tryd.func21, Tryd.ntmps21
    go_wp2_with fail
    refine (inRange_any _ _ _ _).mono ?_
    rintro e w' ⟨rfl, rfl⟩
    rw [hh.out]
    go_wp2_with fail
    go_ret2
    exact ⟨by rw [h1.out, h2.out]; rfl, rfl⟩

theorem l09Names_any (w : World) :
    Calls Tryd.prog 41 #[] w fun e w' => e = .returned (.slice (some ⟨w.heap.size, 0, none⟩) 13 13) ∧ Hid (∀ (k : Nat) (l : List UInt8), axL[k]? = some l → w'.cell? ⟨w.heap.size, k, none⟩ = some (.string ⟨l.toArray⟩)) ∧ Below w.heap.size w w' := by
  have hc := Lib.hid (show ∀ (k : Nat) (l : List UInt8), axL[k]? = some l → (w.alloc (.cells #[.string ⟨#[52]⟩, .string ⟨#[53]⟩, .string ⟨#[66]⟩, .string ⟨#[67]⟩, .string ⟨#[68]⟩, .string ⟨#[70]⟩, .string ⟨#[71]⟩, .string ⟨#[72]⟩, .string ⟨#[76]⟩, .string ⟨#[84]⟩, .string ⟨#[86]⟩, .string ⟨#[88]⟩, .string ⟨#[90]⟩] 9)).cell? ⟨w.heap.size, k, none⟩ = some (.string ⟨l.toArray⟩) from fun k l hk => by
    rw [World.cell?_alloc_at _ _ _ _ rfl]
    match k, hk with
    | 0, hk => cases hk; rfl
    | 1, hk => cases hk; rfl
    | 2, hk => cases hk; rfl
    | 3, hk => cases hk; rfl
    | 4, hk => cases hk; rfl
    | 5, hk => cases hk; rfl
    | 6, hk => cases hk; rfl
    | 7, hk => cases hk; rfl
    | 8, hk => cases hk; rfl
    | 9, hk => cases hk; rfl
    | 10, hk => cases hk; rfl
    | 11, hk => cases hk; rfl
    | 12, hk => cases hk; rfl
    | k + 13, hk => simp [axL] at hk)
  go_enter Tryd.func41, Tryd.ntmps41
  go_wp2_with fail
  go_ret
  exact ⟨rfl, hc.out, (Below.refl _ _).alloc (Nat.le_refl _) _⟩

theorem specAxiomName_any (i : Int) (w : World) :
    Calls Tryd.prog 20 #[.int .i64 i] w fun e w' => e = .returned (.tuple #[.string (axName i), .int .i64 (axCode i)]) ∧ Below w.heap.size w w' := by
  cases h : inR i 0 12
  · obtain ⟨h1, h2⟩ := ax_out h
    have h1 := Lib.hid h1
    have h2 := Lib.hid h2
    have hh := Lib.hid h
    rename_i h1' h2'
    clear h1' h2' h
    go_enter Tryd.func20, Tryd.ntmps20
    go_wp2_with fail
    refine (l09Names_any _).mono ?_
    rintro e w1 ⟨rfl, _, b1⟩
    go_wp2_with fail
    refine (l01In_any _ _ _ _).mono ?_
    rintro e w' ⟨rfl, rfl⟩
    rw [hh.out]
    go_wp2_with fail
    go_ret2
    exact ⟨by rw [h1.out, h2.out]; rfl, b1⟩
  · obtain ⟨k, l, rfl, hk, hl, h1, h2⟩ := ax_in h
    have hki : (k : Int) < 13 := by omega
    replace h1 := Lib.hid h1
    replace h2 := Lib.hid h2
    have hh := Lib.hid h
    have hlh := Lib.hid hl
    clear h hl
    go_enter Tryd.func20, Tryd.ntmps20
    go_wp2_with fail
    refine (l09Names_any _).mono ?_
    rintro e w1 ⟨rfl, hn, b1⟩
    have hc := hn.out k l hlh.out
    go_wp2_with fail
    refine (l01In_any _ _ _ _).mono ?_
    rintro e w' ⟨rfl, rfl⟩
    rw [hh.out]
    go_wp2_with fail
    go_ret2
    exact ⟨by rw [h1.out, h2.out]; rfl, b1⟩

theorem AxTab.below {w w' : World} {K : Nat} (h : AxTab w) (hb : Below K w w') (hk : w.heap.size ≤ K) : AxTab w' := fun k l hl => by
  have h1 := h k l hl
  exact (hb.cell (World.block_lt_of_cell? w _ h1 |> fun h => Nat.lt_of_lt_of_le h hk)).trans h1

theorem w_FnExactAxiomName (i : Int) (w : World) (_hi : (Lit.int .i64 i).wf = true) (ht : AxTab w) :
    Calls Tryd.prog 6 #[.int .i64 i] w fun e w' => e = .returned (.bool true) ∧ Below w.heap.size w w' := by
  have hth := Lib.hid (fun w1 (hb : Below w.heap.size w w1) => implAxiomName_any i w1 (ht.below hb (Nat.le_refl _)))
  clear ht
  go_enter Tryd.func6, Tryd.ntmps6
  go_wp2_with fail
  refine (specAxiomName_any _ _).mono ?_
  rintro e w1 ⟨rfl, b1⟩
  go_wp2_with fail
  refine (hth.out _ b1).mono ?_
  rintro e w2 ⟨rfl, rfl⟩
  go_wp2_with fail
  go_ret
  exact ⟨rfl, b1⟩

theorem laid_FnExactAxiomName {W : World} (h : laidMetH Tryd.prog [("loop.example/g01089/impl.axiomNames", Rows.laid_loop_example_g01089_impl_axiomNames)] W) : AxTab W := by
  rw [MakeChecks.laidMetH_plain _ _ _ (by kernel_rfl)] at h
  exact strs_of_head (ls := axL) (by kernel_rfl) (by kernel_rfl) Tryd.underlying61 Tryd.underlying9 (by kernel_rfl) h
end Go.Proofs.YtfedipeabbaccaaDoor
