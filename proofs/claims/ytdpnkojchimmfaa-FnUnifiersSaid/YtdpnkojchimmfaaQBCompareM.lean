/- Walks of the text of a formula: the reference; FormulaText of both. -/
import Derived.Test.YtdpnkojchimmfaaQBText
import Derived.Test.YtdpnkojchimmfaaQBOccurM
import Derived.Lib.Bytealg
import Derived.Lib.Strings

namespace Go.Proofs.Ytdpnkojchimmfaa
open Go.RowKit Go.Deep

theorem l02False_any (w : World) :
    Calls Try.prog 78 #[] w fun e w' => ∃ v, e = .returned v ∧ w'.ownsRow w.heap.size 41 2 v 1 (cellsN [(1, 0)]) ∧ Below w.heap.size w w' := by
  have hl0 := Lib.hid (World.ownsRow_lit (e := 41) (base := w.heap.size) (size := 2) w #[.int .i64 1, .int .i64 0] 1 (Nat.le_refl _) (by simp [maxLen]) rfl)
  go_enter Try.func78, Try.ntmps78
  go_wp2_with fail
  go_ret
  exact ⟨_, rfl, hl0.out, (Below.refl _ _).alloc (Nat.le_refl _) _⟩

theorem l02Not_any (v : Value) (ns : List Nd) (w : World) (h : Nodes w v ns) (hp : 0 < ns.length) (hn : ns.length ≤ 1000) :
    Calls Try.prog 80 #[v] w fun e w' => ∃ v', e = .returned v' ∧ w'.ownsRow w.heap.size 41 2 v' (1 + ns.length + 1) (cellsN ((4, 0) :: ns ++ [(1, 0)])) ∧ Below w.heap.size w w' := by
  have hv := Lib.hid h
  clear h
  go_enter Try.func80, Try.ntmps80
  go_wp2_with fail
  refine (l02False_any _).mono ?_
  rintro e w1 ⟨vf, rfl, hof, b1⟩
  have hof := Lib.hid hof
  go_wp2_with fail
  refine (l02Pair_any 4 v _ ns [(1, 0)] _ (hv.out.below b1 (Nat.le_refl _)) (nodes_of_own hof.out) hp (by simp) hn (by simp)).mono ?_
  rintro e w2 ⟨v2, rfl, ho, b2⟩
  have ho := Lib.hid (own_mono ho b1.size)
  go_wp2_with fail
  go_ret
  exact ⟨_, rfl, ho.out, b1.trans (b2.mono b1.size)⟩


theorem fals_flat (t : Tr) (ht : okT t) (hg : goodT t) : falsT t = true ↔ flat t = [(1, 0)] := by
  cases t with
  | nil => exact ht.elim
  | node b o n l r =>
    obtain ⟨x, y⟩ := n
    rcases good_cases ht hg with ⟨rfl, rfl, rfl, _, _⟩ | ⟨rfl, rfl, rfl, rfl⟩ | ⟨hx, rfl, _, _⟩ | ⟨hx, rfl, _, rfl⟩
    · simp [falsT, flat]
    · simp [falsT, flat]
    · rcases hx with rfl | rfl | rfl <;> simp [falsT, flat]
    · rcases hx with rfl | rfl <;> simp [falsT, flat]

theorem true_eq (b o : Nat) (l r : Tr) (h2 : okT l) (h3 : okT r) (hgl : goodT l) (hgr : goodT r) : decide (flat (.node b o (4, 0) l r) = [(4, 0), (1, 0), (1, 0)]) = (falsT r && falsT l) := by
  rw [Bool.eq_iff_iff, decide_eq_true_eq, Bool.and_eq_true, fals_flat l h2 hgl, fals_flat r h3 hgr]
  simp only [flat, List.cons.injEq, true_and]
  constructor
  · intro h
    have p1 := flat_pos l h2
    have p2 := flat_pos r h3
    have hl := congrArg List.length h
    simp at hl
    obtain ⟨a, ha⟩ := List.length_eq_one_iff.1 (show (flat l).length = 1 by omega)
    obtain ⟨c, hc⟩ := List.length_eq_one_iff.1 (show (flat r).length = 1 by omega)
    rw [ha, hc] at h ⊢
    simpa [and_comm] using h
  · rintro ⟨h1, h4⟩
    rw [h1, h4]; rfl

end Go.Proofs.Ytdpnkojchimmfaa

/- Walks of FormulaText, of the program and of the reference. -/
namespace Go.Proofs.Ytdpnkojchimmfaa
open Go.RowKit Go.Deep


def formText (ns : List Nd) : ByteArray := if formB ns then txtB (treeOf ns) else ByteArray.mk #[]


end Go.Proofs.Ytdpnkojchimmfaa

/- Walks of CompareFormulas, of the program and of the reference. -/
namespace Go.Proofs.Ytdpnkojchimmfaa
open Go.RowKit Go.Deep

theorem less_step (a b : UInt8) (x y : List UInt8) : Op.bytesLess (a :: x) (b :: y) = (decide (a < b) || (a == b && Op.bytesLess x y)) := rfl

theorem cmp_less (x : List UInt8) : ∀ y, Lib.compareBytes x y = if Op.bytesLess x y then -1 else if Op.bytesLess y x then 1 else 0 := by
  induction x with
  | nil => intro y; cases y <;> simp [Lib.compareBytes, Op.bytesLess]
  | cons a x ih =>
    intro y
    cases y with
    | nil => simp [Lib.compareBytes, Op.bytesLess]
    | cons b y =>
      rw [less_step, less_step]
      simp only [Lib.compareBytes]
      by_cases h1 : a < b
      · simp [h1]
      · by_cases h2 : b < a
        · have hne : a ≠ b := by rintro rfl; exact h1 h2
          simp [h1, h2, hne]
        · have he : a = b := UInt8.le_antisymm (UInt8.not_lt.1 h2) (UInt8.not_lt.1 h1)
          subst he
          rw [ih]
          simp [h1]

/-- How two texts compare. -/
def cmpS (S T : ByteArray) : Int := Lib.compareBytes S.data.toList T.data.toList

theorem cmpS_less (S T : ByteArray) : cmpS S T = if Op.bytesLess S.toList T.toList then -1 else if Op.bytesLess T.toList S.toList then 1 else 0 := by
  unfold cmpS
  rw [cmp_less]
  have e : ∀ s : ByteArray, s.toList = s.data.toList := fun s => ByteArray.toList_eq s
  rw [e S, e T]

set_option maxRecDepth 100000 in
theorem compareString_any (a b : ByteArray) (w : World) :
    Calls Try.prog 96 #[.string a, .string b] w fun e w' => e = .returned (.int .i64 (cmpS a b)) ∧ w = w' := by
  go_enter Try.func96, Try.ntmps96
  go_wp2
  rw [run_callFunc_extern Try.func98 (by kernel_rfl) (by kernel_rfl) (by kernel_rfl) (e := Extern.BytealgCompare.compare) (by kernel_rfl), Lib.run_compareString]
  simp only [Result.andThen]
  rw [Oper.upon_value]
  go_wp2
  go_ret
  exact ⟨rfl, rfl⟩

theorem stringsCompare_any (a b : ByteArray) (w : World) :
    Calls Try.prog 81 #[.string a, .string b] w fun e w' => e = .returned (.int .i64 (cmpS a b)) ∧ w = w' := by
  go_enter Try.func81, Try.ntmps81
  go_wp2_with fail
  refine (compareString_any _ _ _).mono ?_
  rintro e w' ⟨rfl, rfl⟩
  go_wp2_with fail
  go_ret
  exact ⟨rfl, rfl⟩

def cmpR (ns bs : List Nd) : Int := if form2 ns bs then cmpS (txtB (treeOf ns)) (txtB (treeOf bs)) else 0

theorem implCompareFormulas_any (v : Value) (ns : List Nd) (u : Value) (bs : List Nd) (w : World) (h : Nodes w v ns) (hu : Nodes w u bs) :
    Calls Try.prog 24 #[v, u] w fun e w' => e = .returned (.tuple #[.int .i64 (cmpR ns bs), .int .i64 (form2Code ns bs)]) ∧ Below w.heap.size w w' := by
  obtain ⟨a, c, rfl⟩ := h.shape
  obtain ⟨a', c', rfl⟩ := hu.shape
  have hv := Lib.hid h
  have hu := Lib.hid hu
  clear h
  have hare := Lib.hid (fun t : TypeId => areFormulas_two w a a' _ _ c c' ns bs t hv.out hu.out)
  cases h1 : form2 ns bs
  · have h2 := Lib.hid (show form2Code ns bs = 1 ∧ cmpR ns bs = 0 by simp [form2Code, cmpR, h1])
    unfold form2 at h1
    have h1 := Lib.hid h1
    generalize ns.length = n at *
    generalize bs.length = n' at *
    go_enter Try.func24, Try.ntmps24
    go_wp2_with fail
    refine (hare.out _).mono ?_
    rintro e w1 ⟨rfl, hb1⟩
    rw [h1.out]
    go_wp2_with fail
    go_ret2
    exact ⟨by rw [h2.out.1, h2.out.2]; rfl, hb1⟩
  · have h2 := Lib.hid (show form2Code ns bs = 0 ∧ cmpR ns bs = cmpS (txtB (treeOf ns)) (txtB (treeOf bs)) by simp [form2Code, cmpR, h1])
    unfold form2 at h1
    have h1' := (Bool.and_eq_true _ _).mp h1
    obtain ⟨k1, k2, k3, k4⟩ := good_tree h1'.1
    obtain ⟨l1, l2, l3, l4⟩ := good_tree h1'.2
    have ht1 := Lib.hid (fun w1 (hb : Below w.heap.size w w1) => text_any (treeOf ns) _ w1 k1 k3 (by rw [k2]; exact hv.out.below hb (Nat.le_refl _)) (by rw [k2]; omega))
    have ht2 := Lib.hid (fun w1 (hb : Below w.heap.size w w1) => text_any (treeOf bs) _ w1 l1 l3 (by rw [l2]; exact hu.out.below hb (Nat.le_refl _)) (by rw [l2]; omega))
    have h1 := Lib.hid h1
    clear h1' k1 k2 k3 k4 l1 l2 l3 l4
    generalize txtB (treeOf ns) = S at *
    generalize txtB (treeOf bs) = T at *
    generalize ns.length = n at *
    generalize bs.length = n' at *
    have hcm := Lib.hid (show ∀ w, Below w.heap.size w w → True from fun _ _ => trivial)
    go_enter Try.func24, Try.ntmps24
    go_wp2_with fail
    refine (hare.out _).mono ?_
    rintro e w0 ⟨rfl, hb0⟩
    rw [h1.out]
    have hcmp : Hid (Calls Try.prog 54 #[.slice a n c, .slice a' n' c'] w0 fun e w' => e = .returned (.int .i64 (cmpS S T)) ∧ Below w0.heap.size w0 w') := by
      show Calls _ _ _ _ _
      have hb0H := Lib.hid hb0
      go_enter Try.func54, Try.ntmps54
      go_wp2_with fail
      refine (ht1.out _ hb0H.out).mono ?_
      rintro e w1 ⟨rfl, b1⟩
      go_wp2_with fail
      refine (ht2.out _ (hb0H.out.trans (b1.mono hb0H.out.size))).mono ?_
      rintro e w2 ⟨rfl, b2⟩
      go_wp2_with fail
      refine (stringsCompare_any _ _ _).mono ?_
      rintro e w' ⟨rfl, rfl⟩
      go_wp2_with fail
      go_ret
      exact ⟨rfl, b1.trans (b2.mono b1.size)⟩
    go_wp2_with fail
    refine hcmp.out.mono ?_
    rintro e w1 ⟨rfl, b1⟩
    go_wp2_with fail
    go_ret2
    exact ⟨by rw [h2.out.1, h2.out.2]; rfl, hb0.trans (b1.mono hb0.size)⟩

theorem cmp_cases (S T : ByteArray) : (Op.bytesLess S.toList T.toList = true ∧ cmpS S T = -1) ∨ (Op.bytesLess S.toList T.toList = false ∧ Op.bytesLess T.toList S.toList = true ∧ cmpS S T = 1) ∨ (Op.bytesLess S.toList T.toList = false ∧ Op.bytesLess T.toList S.toList = false ∧ cmpS S T = 0) := by
  rw [cmpS_less]
  cases Op.bytesLess S.toList T.toList <;> cases Op.bytesLess T.toList S.toList <;> simp

end Go.Proofs.Ytdpnkojchimmfaa
