/- Walks of CompareFormulas, of the program and of the reference. -/
import Derived.Test.YtngaadpmmlabmaaTextThree
import Derived.Test.YtngaadpmmlabmaaOccur
import Derived.Lib.Bytealg
import Derived.Lib.Strings
namespace Go.Proofs.Ytngaadpmmlabmaa
open Go.RowKit Go.Deep

theorem less_step (a b : UInt8) (x y : List UInt8) : Op.bytesLess (a :: x) (b :: y) = (decide (a < b) || (a == b && Op.bytesLess x y)) := rfl

theorem cmp_less (x : List UInt8) : ∀ y, Lib.compareBytes x y = if Op.bytesLess x y then -1 else if Op.bytesLess y x then 1 else 0 := by
  induction x with
  | nil => intro y; cases y <;> simp [Lib.compareBytes, Op.bytesLess]
  | cons a x ih =>
    intro y
    cases y with
    | nil => simp [Lib.compareBytes, Op.bytesLess]
    | cons b y =>
      rw [less_step, less_step]
      simp only [Lib.compareBytes]
      by_cases h1 : a < b
      · simp [h1]
      · by_cases h2 : b < a
        · have hne : a ≠ b := by rintro rfl; exact h1 h2
          simp [h1, h2, hne]
        · have he : a = b := UInt8.le_antisymm (UInt8.not_lt.1 h2) (UInt8.not_lt.1 h1)
          subst he
          rw [ih]
          simp [h1]

/-- How two texts compare. -/
def cmpS (S T : ByteArray) : Int := Lib.compareBytes S.data.toList T.data.toList

theorem cmpS_less (S T : ByteArray) : cmpS S T = if Op.bytesLess S.toList T.toList then -1 else if Op.bytesLess T.toList S.toList then 1 else 0 := by
  unfold cmpS
  rw [cmp_less]
  have e : ∀ s : ByteArray, s.toList = s.data.toList := fun s => ByteArray.toList_eq s
  rw [e S, e T]

set_option maxRecDepth 100000 in
theorem compareString_any (a b : ByteArray) (w : World) :
    Calls Try.prog 94 #[.string a, .string b] w fun e w' => e = .returned (.int .i64 (cmpS a b)) ∧ w = w' := by
  go_enter Try.func94, Try.ntmps94
  go_wp2
  rw [run_callFunc_extern Try.func98 (by kernel_rfl) (by kernel_rfl) (by kernel_rfl) (e := Extern.BytealgCompare.compare) (by kernel_rfl), Lib.run_compareString]
  simp only [Result.andThen]
  rw [Oper.upon_value]
  go_wp2
  go_ret
  exact ⟨rfl, rfl⟩

theorem stringsCompare_any (a b : ByteArray) (w : World) :
    Calls Try.prog 75 #[.string a, .string b] w fun e w' => e = .returned (.int .i64 (cmpS a b)) ∧ w = w' := by
  go_enter Try.func75, Try.ntmps75
  go_wp2_with fail
  refine (compareString_any _ _ _).mono ?_
  rintro e w' ⟨rfl, rfl⟩
  go_wp2_with fail
  go_ret
  exact ⟨rfl, rfl⟩

def cmpR (ns bs : List Nd) : Int := if form2 ns bs then cmpS (txtB (treeOf ns)) (txtB (treeOf bs)) else 0

theorem implCompareFormulas_any (v : Value) (ns : List Nd) (u : Value) (bs : List Nd) (w : World) (h : Nodes w v ns) (hu : Nodes w u bs) :
    Calls Try.prog 18 #[v, u] w fun e w' => e = .returned (.tuple #[.int .i64 (cmpR ns bs), .int .i64 (form2Code ns bs)]) ∧ Below w.heap.size w w' := by
  obtain ⟨a, c, rfl⟩ := h.shape
  obtain ⟨a', c', rfl⟩ := hu.shape
  have hv := Lib.hid h
  have hu := Lib.hid hu
  clear h
  have hare := Lib.hid (fun t : TypeId => areFormulas_two w a a' _ _ c c' ns bs t hv.out hu.out)
  cases h1 : form2 ns bs
  · have h2 := Lib.hid (show form2Code ns bs = 1 ∧ cmpR ns bs = 0 by simp [form2Code, cmpR, h1])
    unfold form2 at h1
    have h1 := Lib.hid h1
    generalize ns.length = n at *
    generalize bs.length = n' at *
    go_enter Try.func18, Try.ntmps18
    go_wp2_with fail
    refine (hare.out _).mono ?_
    rintro e w1 ⟨rfl, hb1⟩
    rw [h1.out]
    go_wp2_with fail
    go_ret2
    exact ⟨by rw [h2.out.1, h2.out.2]; rfl, hb1⟩
  · have h2 := Lib.hid (show form2Code ns bs = 0 ∧ cmpR ns bs = cmpS (txtB (treeOf ns)) (txtB (treeOf bs)) by simp [form2Code, cmpR, h1])
    unfold form2 at h1
    have h1' := (Bool.and_eq_true _ _).mp h1
    obtain ⟨k1, k2, k3, k4⟩ := good_tree h1'.1
    obtain ⟨l1, l2, l3, l4⟩ := good_tree h1'.2
    have ht1 := Lib.hid (fun w1 (hb : Below w.heap.size w w1) => text_any (treeOf ns) _ w1 k1 k3 (by rw [k2]; exact hv.out.below hb (Nat.le_refl _)) (by rw [k2]; omega))
    have ht2 := Lib.hid (fun w1 (hb : Below w.heap.size w w1) => text_any (treeOf bs) _ w1 l1 l3 (by rw [l2]; exact hu.out.below hb (Nat.le_refl _)) (by rw [l2]; omega))
    have h1 := Lib.hid h1
    clear h1' k1 k2 k3 k4 l1 l2 l3 l4
    generalize txtB (treeOf ns) = S at *
    generalize txtB (treeOf bs) = T at *
    generalize ns.length = n at *
    generalize bs.length = n' at *
    have hcm := Lib.hid (show ∀ w, Below w.heap.size w w → True from fun _ _ => trivial)
    go_enter Try.func18, Try.ntmps18
    go_wp2_with fail
    refine (hare.out _).mono ?_
    rintro e w0 ⟨rfl, hb0⟩
    rw [h1.out]
    have hcmp : Hid (Calls Try.prog 47 #[.slice a n c, .slice a' n' c'] w0 fun e w' => e = .returned (.int .i64 (cmpS S T)) ∧ Below w0.heap.size w0 w') := by
      show Calls _ _ _ _ _
      have hb0H := Lib.hid hb0
      go_enter Try.func47, Try.ntmps47
      go_wp2_with fail
      refine (ht1.out _ hb0H.out).mono ?_
      rintro e w1 ⟨rfl, b1⟩
      go_wp2_with fail
      refine (ht2.out _ (hb0H.out.trans (b1.mono hb0H.out.size))).mono ?_
      rintro e w2 ⟨rfl, b2⟩
      go_wp2_with fail
      refine (stringsCompare_any _ _ _).mono ?_
      rintro e w' ⟨rfl, rfl⟩
      go_wp2_with fail
      go_ret
      exact ⟨rfl, b1.trans (b2.mono b1.size)⟩
    go_wp2_with fail
    refine hcmp.out.mono ?_
    rintro e w1 ⟨rfl, b1⟩
    go_wp2_with fail
    go_ret2
    exact ⟨by rw [h2.out.1, h2.out.2]; rfl, hb0.trans (b1.mono hb0.size)⟩

theorem cmp_cases (S T : ByteArray) : (Op.bytesLess S.toList T.toList = true ∧ cmpS S T = -1) ∨ (Op.bytesLess S.toList T.toList = false ∧ Op.bytesLess T.toList S.toList = true ∧ cmpS S T = 1) ∨ (Op.bytesLess S.toList T.toList = false ∧ Op.bytesLess T.toList S.toList = false ∧ cmpS S T = 0) := by
  rw [cmpS_less]
  cases Op.bytesLess S.toList T.toList <;> cases Op.bytesLess T.toList S.toList <;> simp

theorem l02Less_any (v u : Value) (S T : ByteArray) (w : World)
    (h1 : ∀ w1, Below w.heap.size w w1 → Calls Try.prog 42 #[v] w1 fun e w' => e = .returned (.string S) ∧ Below w1.heap.size w1 w')
    (h2 : ∀ w1, Below w.heap.size w w1 → Calls Try.prog 42 #[u] w1 fun e w' => e = .returned (.string T) ∧ Below w1.heap.size w1 w') :
    Calls Try.prog 45 #[v, u] w fun e w' => e = .returned (.bool (Op.bytesLess S.toList T.toList)) ∧ Below w.heap.size w w' := by
  have h1 := Lib.hid h1
  have h2 := Lib.hid h2
  go_enter Try.func45, Try.ntmps45
  go_wp2_with fail
  refine (h1.out _ (Below.refl _ _)).mono ?_
  rintro e w1 ⟨rfl, b1⟩
  go_wp2_with fail
  refine (h2.out _ b1).mono ?_
  rintro e w2 ⟨rfl, b2⟩
  go_wp2_with fail
  go_ret
  exact ⟨rfl, b1.trans (b2.mono b1.size)⟩

set_option maxHeartbeats 800000 in
theorem specCompareFormulas_any (v : Value) (ns : List Nd) (u : Value) (bs : List Nd) (w : World) (h : Nodes w v ns) (hu : Nodes w u bs) :
    Calls Try.prog 17 #[v, u] w fun e w' => e = .returned (.tuple #[.int .i64 (cmpR ns bs), .int .i64 (form2Code ns bs)]) ∧ Below w.heap.size w w' := by
  have hv := Lib.hid h
  have hu := Lib.hid hu
  clear h
  cases h1 : formB ns
  · have h2 := Lib.hid (show form2Code ns bs = 1 ∧ cmpR ns bs = 0 by simp [form2Code, cmpR, form2, h1])
    have h1 := Lib.hid h1
    go_enter Try.func17, Try.ntmps17
    go_wp2_with fail
    refine (l02Is_any _ ns _ hv.out).mono ?_
    rintro e w' ⟨rfl, rfl⟩
    rw [h1.out]
    go_wp2_with fail
    go_ret2
    exact ⟨by rw [h2.out.1, h2.out.2]; rfl, Below.refl _ _⟩
  · cases h3 : formB bs
    · have h2 := Lib.hid (show form2Code ns bs = 1 ∧ cmpR ns bs = 0 by simp [form2Code, cmpR, form2, h1, h3])
      have h1 := Lib.hid h1
      have h3 := Lib.hid h3
      go_enter Try.func17, Try.ntmps17
      go_wp2_with fail
      refine (l02Is_any _ ns _ hv.out).mono ?_
      rintro e w' ⟨rfl, rfl⟩
      rw [h1.out]
      go_wp2_with fail
      refine (l02Is_any _ bs _ hu.out).mono ?_
      rintro e w' ⟨rfl, rfl⟩
      rw [h3.out]
      go_wp2_with fail
      go_ret2
      exact ⟨by rw [h2.out.1, h2.out.2]; rfl, Below.refl _ _⟩
    · have h2 := Lib.hid (show form2Code ns bs = 0 ∧ cmpR ns bs = cmpS (txtB (treeOf ns)) (txtB (treeOf bs)) by simp [form2Code, cmpR, form2, h1, h3])
      obtain ⟨k1, k2, k3, k4⟩ := good_tree h1
      obtain ⟨l1, l2, l3, l4⟩ := good_tree h3
      have ht1 := Lib.hid (fun w1 (hb : Below w.heap.size w w1) => l02Text_any (treeOf ns) _ w1 k1 k3 (by rw [k2]; exact hv.out.below hb (Nat.le_refl _)) (by rw [k2]; omega))
      have ht2 := Lib.hid (fun w1 (hb : Below w.heap.size w w1) => l02Text_any (treeOf bs) _ w1 l1 l3 (by rw [l2]; exact hu.out.below hb (Nat.le_refl _)) (by rw [l2]; omega))
      have h1 := Lib.hid h1
      have h3 := Lib.hid h3
      clear k1 k2 k3 k4 l1 l2 l3 l4
      generalize txtB (treeOf ns) = S at *
      generalize txtB (treeOf bs) = T at *
      have hl1 := Lib.hid (fun w1 (hb : Below w.heap.size w w1) => l02Less_any v u S T w1 (fun w2 hb2 => ht1.out w2 (hb.trans (hb2.mono hb.size))) (fun w2 hb2 => ht2.out w2 (hb.trans (hb2.mono hb.size))))
      have hl2 := Lib.hid (fun w1 (hb : Below w.heap.size w w1) => l02Less_any u v T S w1 (fun w2 hb2 => ht2.out w2 (hb.trans (hb2.mono hb.size))) (fun w2 hb2 => ht1.out w2 (hb.trans (hb2.mono hb.size))))
      rcases cmp_cases S T with ⟨c1, c2⟩ | ⟨c1, c2, c3⟩ | ⟨c1, c2, c3⟩
      · have c1 := Lib.hid c1
        have c2 := Lib.hid c2
        go_enter Try.func17, Try.ntmps17
        go_wp2_with fail
        refine (l02Is_any _ ns _ hv.out).mono ?_
        rintro e w' ⟨rfl, rfl⟩
        rw [h1.out]
        go_wp2_with fail
        refine (l02Is_any _ bs _ hu.out).mono ?_
        rintro e w' ⟨rfl, rfl⟩
        rw [h3.out]
        go_wp2_with fail
        refine (hl1.out _ (Below.refl _ _)).mono ?_
        rintro e w1 ⟨rfl, b1⟩
        rw [c1.out]
        go_wp2_with fail
        go_ret2
        exact ⟨by rw [h2.out.1, h2.out.2, c2.out]; rfl, b1⟩
      all_goals
        have c1 := Lib.hid c1
        have c2 := Lib.hid c2
        have c3 := Lib.hid c3
        go_enter Try.func17, Try.ntmps17
        go_wp2_with fail
        refine (l02Is_any _ ns _ hv.out).mono ?_
        rintro e w' ⟨rfl, rfl⟩
        rw [h1.out]
        go_wp2_with fail
        refine (l02Is_any _ bs _ hu.out).mono ?_
        rintro e w' ⟨rfl, rfl⟩
        rw [h3.out]
        go_wp2_with fail
        refine (hl1.out _ (Below.refl _ _)).mono ?_
        rintro e w1 ⟨rfl, b1⟩
        rw [c1.out]
        go_wp2_with fail
        refine (hl2.out _ b1).mono ?_
        rintro e w2 ⟨rfl, b2⟩
        rw [c2.out]
        go_wp2_with fail
        go_ret2
        exact ⟨by rw [h2.out.1, h2.out.2, c3.out]; rfl, b1.trans (b2.mono b1.size)⟩
end Go.Proofs.Ytngaadpmmlabmaa
