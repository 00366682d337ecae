/- The table of the logics; LogicName, of both (written by genlogic.py). -/
import Derived.Test.YtkhbimdahjkgoaaDoorStrTab
import Derived.Test.YtkhbimdahjkgoaaDoorStrRow
import Derived.Test.YtkhbimdahjkgoaaDoorMasks
import Derived.Test.YtkhbimdahjkgoaaDoorShelf
namespace Go.Proofs.YtkhbimdahjkgoaaDoor
open Go.RowKit Go.Sort
set_option linter.unusedVariables false

def lgT : List (List UInt8) := [[68, 32, 68], [68, 52, 32, 52, 32, 68], [71, 76, 32, 76], [71, 114, 122, 32, 90], [75], [75, 52, 32, 52], [75, 52, 53, 32, 52, 32, 53], [75, 66, 32, 66], [75, 68, 52, 53, 32, 52, 32, 53, 32, 68], [83, 52, 32, 52, 32, 84], [83, 52, 50, 32, 52, 32, 71, 32, 84], [83, 52, 51, 32, 52, 32, 72, 32, 84], [83, 53, 32, 53, 32, 84], [84, 32, 84], [84, 114, 105, 118, 32, 84, 32, 88], [86, 101, 114, 32, 86]]
def lgN : List Bs := [[68], [68, 52], [71, 76], [71, 114, 122], [75], [75, 52], [75, 52, 53], [75, 66], [75, 68, 52, 53], [83, 52], [83, 52, 50], [83, 52, 51], [83, 53], [84], [84, 114, 105, 118], [86, 101, 114]]
def lgA : List (List Bs) := [[[68]], [[52], [68]], [[76]], [[90]], [], [[52]], [[52], [53]], [[66]], [[52], [53], [68]], [[52], [84]], [[52], [71], [84]], [[52], [72], [84]], [[53], [84]], [[84]], [[84], [88]], [[86]]]
def lgRow (k : Nat) : List Bs := lgN.getD k [] :: lgA.getD k []
def LgTab (w : World) : Prop := ∀ (k : Nat) (l : List UInt8), lgT[k]? = some l → w.cell? ⟨0, k, none⟩ = some (.string ⟨l.toArray⟩)
/-- The library's own variable holds some number. -/
def MaxL (w : World) : Prop := ∃ m : Int, w.cell? ⟨1, 0, none⟩ = some (.int .i64 m)
theorem LgTab.below {w w' : World} {K : Nat} (h : LgTab w) (hb : RowKit.Below K w w') (hk : w.heap.size ≤ K) : LgTab w' := fun k l hl => by
  have h1 := h k l hl
  exact (hb.cell (World.block_lt_of_cell? w _ h1 |> fun h => Nat.lt_of_lt_of_le h hk)).trans h1
theorem MaxL.below {w w' : World} {K : Nat} (h : MaxL w) (hb : RowKit.Below K w w') (hk : w.heap.size ≤ K) : MaxL w' := by
  obtain ⟨m, h1⟩ := h
  exact ⟨m, (hb.cell (World.block_lt_of_cell? w _ h1 |> fun h => Nat.lt_of_lt_of_le h hk)).trans h1⟩
def sepB : ByteArray := ⟨#[32]⟩

theorem split_row : ∀ k, k < 16 → ∀ l, lgT[k]? = some l → (Lib.splitB sepB 0 (Lib.countB ⟨l.toArray⟩ sepB) ⟨l.toArray⟩).map Value.string = (lgRow k).map encStr ∧ Lib.countB ⟨l.toArray⟩ sepB + 1 = (lgRow k).length ∧ l.length < 100 := by
  intro k hk l hl
  match k, hk, hl with
  | 0, _, hl => cases hl; exact ⟨by kernel_rfl, by kernel_rfl, by decide⟩
  | 1, _, hl => cases hl; exact ⟨by kernel_rfl, by kernel_rfl, by decide⟩
  | 2, _, hl => cases hl; exact ⟨by kernel_rfl, by kernel_rfl, by decide⟩
  | 3, _, hl => cases hl; exact ⟨by kernel_rfl, by kernel_rfl, by decide⟩
  | 4, _, hl => cases hl; exact ⟨by kernel_rfl, by kernel_rfl, by decide⟩
  | 5, _, hl => cases hl; exact ⟨by kernel_rfl, by kernel_rfl, by decide⟩
  | 6, _, hl => cases hl; exact ⟨by kernel_rfl, by kernel_rfl, by decide⟩
  | 7, _, hl => cases hl; exact ⟨by kernel_rfl, by kernel_rfl, by decide⟩
  | 8, _, hl => cases hl; exact ⟨by kernel_rfl, by kernel_rfl, by decide⟩
  | 9, _, hl => cases hl; exact ⟨by kernel_rfl, by kernel_rfl, by decide⟩
  | 10, _, hl => cases hl; exact ⟨by kernel_rfl, by kernel_rfl, by decide⟩
  | 11, _, hl => cases hl; exact ⟨by kernel_rfl, by kernel_rfl, by decide⟩
  | 12, _, hl => cases hl; exact ⟨by kernel_rfl, by kernel_rfl, by decide⟩
  | 13, _, hl => cases hl; exact ⟨by kernel_rfl, by kernel_rfl, by decide⟩
  | 14, _, hl => cases hl; exact ⟨by kernel_rfl, by kernel_rfl, by decide⟩
  | 15, _, hl => cases hl; exact ⟨by kernel_rfl, by kernel_rfl, by decide⟩
  | k + 16, hk, _ => omega
theorem lg_get {k : Nat} (hk : k < 16) : ∃ l, lgT[k]? = some l := ⟨lgT[k]'(by show k < 16; exact hk), List.getElem?_eq_getElem _⟩
theorem lgRow_len {k : Nat} (hk : k < 16) : 1 ≤ (lgRow k).length ∧ (lgRow k).length ≤ 4 := by
  match k, hk with
  | 0, _ => decide
  | 1, _ => decide
  | 2, _ => decide
  | 3, _ => decide
  | 4, _ => decide
  | 5, _ => decide
  | 6, _ => decide
  | 7, _ => decide
  | 8, _ => decide
  | 9, _ => decide
  | 10, _ => decide
  | 11, _ => decide
  | 12, _ => decide
  | 13, _ => decide
  | 14, _ => decide
  | 15, _ => decide
  | k + 16, hk => omega

set_option maxHeartbeats 1000000 in
theorem logicRow_any (k : Nat) (hk : k < 16) (w : World) (ht : LgTab w) (hM : MaxL w) :
    Calls Tryd.prog 15 #[.int .i64 (k : Int)] w fun e w' => e = .returned (.slice (some ⟨w.heap.size, 0, none⟩) (lgRow k).length (lgRow k).length) ∧ w.alloc (.cells ((lgRow k).map encStr).toArray 9) = w' := by
  obtain ⟨l, hl⟩ := lg_get hk
  have hc := ht k l hl
  obtain ⟨m, hm⟩ := hM
  obtain ⟨h1, h2, h3⟩ := split_row k hk l hl
  have hsp := sh_strings_Split ⟨l.toArray⟩ sepB m w (by show l.toArray.size < _; simp; omega) hm (by decide)
  rw [h1, h2] at hsp
  have hsp := Lib.hid hsp
  have hki : (k : Int) < 16 := by omega
  clear hl h1 h2 h3 hm ht
  generalize (lgRow k).length = n at *
  generalize ((lgRow k).map encStr).toArray = cs at *
  generalize (⟨l.toArray⟩ : ByteArray) = S at *
  unfold sepB at hsp
  go_enter Tryd.func15, Tryd.ntmps15
  go_wp2_with fail
  refine hsp.out.mono ?_
  rintro e w1 ⟨rfl, rfl⟩
  go_wp2_with fail
  go_ret
  exact ⟨rfl, rfl⟩
theorem lgRow_cell (w : World) (k : Nat) (t : TypeId) : (w.alloc (.cells ((lgRow k).map encStr).toArray t)).cell? ⟨w.heap.size, 0, none⟩ = some (encStr (lgN.getD k [])) := by
  rw [World.cell?_alloc_at _ _ _ _ rfl]
  simp [lgRow]

def lnName (i : Int) : ByteArray := if inR i 0 15 then ⟨(lgN.getD i.toNat []).toArray⟩ else ⟨#[]⟩
def lnCode (i : Int) : Int := if inR i 0 15 then 0 else 2
theorem ln_in {i : Int} (h : inR i 0 15 = true) : ∃ k : Nat, i = (k : Nat) ∧ k < 16 ∧ lnName i = ⟨(lgN.getD k []).toArray⟩ ∧ lnCode i = 0 := by
  rw [inR_iff] at h
  obtain ⟨k, rfl⟩ : ∃ k : Nat, i = (k : Nat) := ⟨i.toNat, by omega⟩
  refine ⟨k, rfl, by omega, ?_, ?_⟩
  · unfold lnName
    rw [if_pos (by rw [inR_iff]; exact h), Int.toNat_natCast]
  · unfold lnCode
    rw [if_pos (by rw [inR_iff]; exact h)]
theorem ln_out {i : Int} (h : inR i 0 15 = false) : lnName i = ⟨#[]⟩ ∧ lnCode i = 2 := by
  unfold lnName lnCode; rw [h]; exact ⟨rfl, rfl⟩

theorem implLogicName_any (i : Int) (w : World) (ht : LgTab w) (hM : MaxL w) :
    Calls Tryd.prog 6 #[.int .i64 i] w fun e w' => e = .returned (.tuple #[.string (lnName i), .int .i64 (lnCode i)]) ∧ RowKit.Below w.heap.size w w' := by
  cases h : inR i 0 15
  · obtain ⟨h1, h2⟩ := ln_out h
    have h1 := Lib.hid h1
    have h2 := Lib.hid h2
    have hh := Lib.hid h
    rename_i h1' h2'
    clear h1' h2' h
    go_enter Tryd.func6, Tryd.ntmps6
    go_wp2_with fail
    refine (inRange_any _ _ _ _).mono ?_
    rintro e w' ⟨rfl, rfl⟩
    rw [hh.out]
    go_wp2_with fail
    go_ret2
    exact ⟨by rw [h1.out, h2.out]; rfl, RowKit.Below.refl _ _⟩
  · obtain ⟨k, rfl, hk, h1, h2⟩ := ln_in h
    have hrow := Lib.hid (logicRow_any k hk w ht hM)
    have hcell := lgRow_cell w k 9
    have hnl := (lgRow_len hk).1
    replace h1 := Lib.hid h1
    replace h2 := Lib.hid h2
    have hh := Lib.hid h
    have hbel := Lib.hid ((RowKit.Below.refl w.heap.size w).alloc (Nat.le_refl _) (.cells ((lgRow k).map encStr).toArray 9))
    unfold encStr at hcell
    clear h ht hM
    generalize (lgRow k).length = n at *
    generalize w.alloc (.cells ((lgRow k).map encStr).toArray 9) = W at *
    generalize (⟨(lgN.getD k []).toArray⟩ : ByteArray) = S at *
    go_enter Tryd.func6, Tryd.ntmps6
    go_wp2_with fail
    refine (inRange_any _ _ _ _).mono ?_
    rintro e w' ⟨rfl, rfl⟩
    rw [hh.out]
    go_wp2_with fail
    refine hrow.out.mono ?_
    rintro e w' ⟨rfl, rfl⟩
    go_wp2_with fail
    go_ret2
    exact ⟨by rw [h1.out, h2.out]; rfl, hbel.out⟩

theorem l09Logics_any (w : World) :
    Calls Tryd.prog 12 #[] w fun e w' => e = .returned (.slice (some ⟨w.heap.size, 0, none⟩) 16 16) ∧ Hid (∀ (k : Nat) (l : Bs), lgN[k]? = some l → w'.cell? ⟨w.heap.size, k, none⟩ = some (encStr l)) ∧ RowKit.Below w.heap.size w w' := by
  have hc := Lib.hid (show ∀ (k : Nat) (l : Bs), lgN[k]? = some l → (w.alloc (.cells #[.string ⟨#[68]⟩, .string ⟨#[68, 52]⟩, .string ⟨#[71, 76]⟩, .string ⟨#[71, 114, 122]⟩, .string ⟨#[75]⟩, .string ⟨#[75, 52]⟩, .string ⟨#[75, 52, 53]⟩, .string ⟨#[75, 66]⟩, .string ⟨#[75, 68, 52, 53]⟩, .string ⟨#[83, 52]⟩, .string ⟨#[83, 52, 50]⟩, .string ⟨#[83, 52, 51]⟩, .string ⟨#[83, 53]⟩, .string ⟨#[84]⟩, .string ⟨#[84, 114, 105, 118]⟩, .string ⟨#[86, 101, 114]⟩] 9)).cell? ⟨w.heap.size, k, none⟩ = some (encStr l) from fun k l hk => by
    rw [World.cell?_alloc_at _ _ _ _ rfl]
    match k, hk with
    | 0, hk => cases hk; rfl
    | 1, hk => cases hk; rfl
    | 2, hk => cases hk; rfl
    | 3, hk => cases hk; rfl
    | 4, hk => cases hk; rfl
    | 5, hk => cases hk; rfl
    | 6, hk => cases hk; rfl
    | 7, hk => cases hk; rfl
    | 8, hk => cases hk; rfl
    | 9, hk => cases hk; rfl
    | 10, hk => cases hk; rfl
    | 11, hk => cases hk; rfl
    | 12, hk => cases hk; rfl
    | 13, hk => cases hk; rfl
    | 14, hk => cases hk; rfl
    | 15, hk => cases hk; rfl
    | k + 16, hk => simp [lgN] at hk)
  go_enter Tryd.func12, Tryd.ntmps12
  go_wp2_with fail
  go_ret
  exact ⟨rfl, hc.out, (RowKit.Below.refl _ _).alloc (Nat.le_refl _) _⟩

theorem specLogicName_any (i : Int) (w : World) :
    Calls Tryd.prog 5 #[.int .i64 i] w fun e w' => e = .returned (.tuple #[.string (lnName i), .int .i64 (lnCode i)]) ∧ RowKit.Below w.heap.size w w' := by
  cases h : inR i 0 15
  · obtain ⟨h1, h2⟩ := ln_out h
    have h1 := Lib.hid h1
    have h2 := Lib.hid h2
    have hh := Lib.hid h
    rename_i h1' h2'
    clear h1' h2' h
    go_enter Tryd.func5, Tryd.ntmps5
    go_wp2_with fail
    refine (l09Logics_any _).mono ?_
    rintro e w1 ⟨rfl, _, b1⟩
    go_wp2_with fail
    refine (l01In_any _ _ _ _).mono ?_
    rintro e w' ⟨rfl, rfl⟩
    rw [hh.out]
    go_wp2_with fail
    go_ret2
    exact ⟨by rw [h1.out, h2.out]; rfl, b1⟩
  · obtain ⟨k, rfl, hk, h1, h2⟩ := ln_in h
    have hki : (k : Int) < 16 := by omega
    have hget := Lib.hid (show lgN[k]? = some (lgN.getD k []) from by
      have hk' : k < lgN.length := hk
      rw [List.getD_eq_getElem?_getD, List.getElem?_eq_getElem hk']; rfl)
    replace h1 := Lib.hid h1
    replace h2 := Lib.hid h2
    have hh := Lib.hid h
    clear h
    go_enter Tryd.func5, Tryd.ntmps5
    go_wp2_with fail
    refine (l09Logics_any _).mono ?_
    rintro e w1 ⟨rfl, hn, b1⟩
    have hc := hn.out k _ hget.out
    unfold encStr at hc
    generalize (⟨(lgN.getD k []).toArray⟩ : ByteArray) = S at *
    go_wp2_with fail
    refine (l01In_any _ _ _ _).mono ?_
    rintro e w' ⟨rfl, rfl⟩
    rw [hh.out]
    go_wp2_with fail
    go_ret2
    exact ⟨by rw [h1.out, h2.out]; rfl, b1⟩

theorem w_FnExactLogicName (i : Int) (w : World) (_hi : (Lit.int .i64 i).wf = true) (ht : LgTab w ∧ MaxL w) :
    Calls Tryd.prog 3 #[.int .i64 i] w fun e w' => e = .returned (.bool true) ∧ RowKit.Below w.heap.size w w' := by
  have hth := Lib.hid (fun w1 (hb : RowKit.Below w.heap.size w w1) => implLogicName_any i w1 (ht.1.below hb (Nat.le_refl _)) (ht.2.below hb (Nat.le_refl _)))
  clear ht
  go_enter Tryd.func3, Tryd.ntmps3
  go_wp2_with fail
  refine (specLogicName_any _ _).mono ?_
  rintro e w1 ⟨rfl, b1⟩
  go_wp2_with fail
  refine (hth.out _ b1).mono ?_
  rintro e w2 ⟨rfl, b2⟩
  have B2 := keep_step b2 b1
  go_wp2_with fail
  go_ret
  exact ⟨rfl, B2⟩
end Go.Proofs.YtkhbimdahjkgoaaDoor
