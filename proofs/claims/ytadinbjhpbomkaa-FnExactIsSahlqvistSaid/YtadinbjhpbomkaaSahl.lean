/- Walks of IsSahlqvist, of the program and of the reference. -/
import Derived.Test.YtadinbjhpbomkaaConst
import Derived.Test.YtadinbjhpbomkaaKids
import Derived.IntWalk
namespace Go.Proofs.Ytadinbjhpbomkaa
open Go.RowKit

/-- A boxed atom. -/
def boxT : Tr → Bool
  | .nil => false
  | .node _ _ n l _ => if n.1 = 5 then boxT l else decide (n.1 = 0)
/-- What may stand in front. -/
def antT : Tr → Bool
  | .nil => false
  | .node b o n l r => boxT (.node b o n l r) || (conB n.1 (flat (.node b o n l r)) || (if n.1 = 2 then antT l && antT r else if n.1 = 6 then antT l else false))
/-- What may stand behind. -/
def posT : Tr → Bool
  | .nil => true
  | .node b o n l r => (decide (n.1 = 0) || conB n.1 (flat (.node b o n l r))) || (decide (n.1 ≠ 4) && (posT l && posT r))
def sahT : Tr → Bool
  | .nil => false
  | .node _ _ n l r => decide (n.1 = 4) && (antT l && posT r)

def lenV : Value → Nat | .slice _ n _ => n | _ => 0
theorem lenV_of {w : World} {v : Value} {ns : List Nd} (h : Nodes w v ns) : lenV v = ns.length := by
  obtain ⟨a, c, rfl⟩ := h.shape
  rfl

theorem ok_one {b o : Nat} {y : Int} {x : Int} {l r : Tr} (h : okT (.node b o (x, y) l r)) (hx : ar x = 1) : okT l ∧ r = .nil := by
  rcases h with ⟨h1, _, _⟩ | ⟨_, h2, h3⟩ | ⟨h1, _, _⟩
  · simp only at h1; omega
  · exact ⟨h2, h3⟩
  · simp only at h1; omega
theorem ok_two {b o : Nat} {y : Int} {x : Int} {l r : Tr} (h : okT (.node b o (x, y) l r)) (hx : ar x = 2) : okT l ∧ okT r := by
  rcases h with ⟨h1, _, _⟩ | ⟨h1, _, _⟩ | ⟨_, h2, h3⟩
  · simp only at h1; omega
  · simp only at h1; omega
  · exact ⟨h2, h3⟩
theorem flat_len (b o : Nat) (n : Nd) (l r : Tr) : (flat (.node b o n l r)).length = 1 + (flat l).length + (flat r).length := by simp [flat]; omega

set_option maxHeartbeats 1000000 in
theorem boxedAtom_any (t : Tr) (v : Value) (w : World) (hok : okT t) (h : Nodes w v (flat t)) (hn : (flat t).length ≤ 1000000) :
    Calls Try.prog 144 #[v] w fun e w' => (∃ s j : Int, e = .returned (.tuple #[.int .i64 s, .int .i64 j, .bool (boxT t)])) ∧ Below w.heap.size w w' := by
  have hst := Lib.hid (show ∃ t' : Tr, okT t' ∧ Nodes w v (flat t') ∧ (flat t').length ≤ 1000000 ∧ boxT t' = boxT t from ⟨t, hok, h, hn, rfl⟩)
  clear hok h hn
  go_enter Try.func144, Try.ntmps144
  go_wp2_with fail
  go_loop [0, 3] (fun a j => Hid (∃ t' : Tr, okT t' ∧ Nodes w a (flat t') ∧ (flat t').length ≤ 1000000 ∧ boxT t' = boxT t) ∧ ∃ q : Int, j = .int .i64 q) (fun a _ => lenV a)
  case atStart => exact ⟨hst.out, _, rfl⟩
  case round =>
    clear hst
    obtain ⟨hst, q, rfl⟩ := hrel
    obtain ⟨t', hok', hv', hn', hbx⟩ := hst.out
    cases t' with
    | nil => exact hok'.elim
    | node b0 o0 n l r =>
      obtain ⟨x, y⟩ := n
      have hlv := lenV_of hv'
      have hvH := Lib.hid hv'
      obtain ⟨c, b, o, rfl, hc, hcm, hcell⟩ := hv'.raw (by simp [flat])
      obtain ⟨hc0, hc1⟩ := node_head hcell.out
      simp only at hc0 hc1
      have hp0 : 0 < (flat (.node b0 o0 (x, y) l r)).length := by simp [flat]
      have hfl := flat_len b0 o0 (x, y) l r
      by_cases hx : x = 5
      · subst hx
        obtain ⟨hl, rfl⟩ := ok_one hok' (by decide)
        have hbx' := Lib.hid (show boxT l = boxT t by rw [← hbx]; simp [boxT])
        have hfi := Lib.hid (first_any _ (5, y) l .nil w hvH.out hl (by rw [hfl] at hn'; omega))
        have hlen : (flat l).length < (flat (.node b0 o0 (5, y) l .nil)).length := by rw [hfl]; omega
        have hlb := Lib.hid (show (flat l).length ≤ 1000000 by rw [hfl] at hn'; omega)
        have hlH := Lib.hid hlen
        clear hcell hcm hc hn' hbx hok' hv' hfl hlen hvH hst hlv
        generalize (flat (.node b0 o0 (5, y) l .nil)).length = m at *
        go_wp2_with fail
        refine hfi.out.mono ?_
        rintro e w' ⟨⟨v', rfl, h'⟩, rfl⟩
        have h' := Lib.hid h'
        go_wp2_with fail
        go_round
        case rel => exact ⟨⟨l, hl, h'.out, hlb.out, hbx'.out⟩, _, rfl⟩
        case measure => rw [lenV_of h'.out]; exact hlH.out
      · have hxf : (x == 5) = false := by rw [beq_eq_false_iff_ne]; exact hx
        have hbx' := Lib.hid (show boxT t = (x == 0) by rw [← hbx]; simp [boxT, hx]; rfl)
        clear hcell hcm hc hn' hbx hok' hv' hfl hvH hst hlv
        generalize (flat (.node b0 o0 (x, y) l r)).length = m at *
        go_wp2_with fail
        go_quiet (fail)
        go_wp2_with fail
        go_ret3
        exact ⟨⟨y, q, by rw [hbx'.out]; rfl⟩, below_drewN' _ _⟩

theorem isConstant_at {b o : Nat} (x y : Int) (l r : Tr) (v : Value) (w : World) (h : Nodes w v (flat (.node b o (x, y) l r))) (hn : (flat (.node b o (x, y) l r)).length ≤ 1000000) :
    Calls Try.prog 145 #[v] w fun e w' => e = .returned (.bool (conB x (flat (.node b o (x, y) l r)))) ∧ Below w.heap.size w w' := isConstant_any v x y _ w h hn

set_option maxHeartbeats 2000000 in
theorem isAntecedent_any (t : Tr) : ∀ (v : Value) (w : World), okT t → Nodes w v (flat t) → (flat t).length ≤ 1000000 →
    Calls Try.prog 125 #[v] w fun e w' => e = .returned (.bool (antT t)) ∧ Below w.heap.size w w' := by
  induction t with
  | nil => intro v w h; exact h.elim
  | node b0 o0 n l r ihl ihr =>
    intro v w hok h hn
    obtain ⟨x, y⟩ := n
    have hv := Lib.hid h
    obtain ⟨c, b, o, rfl, hc, hcm, hcell⟩ := h.raw (by simp [flat])
    obtain ⟨hc0, hc1⟩ := node_head hcell.out
    simp only at hc0 hc1
    have hp0 : 0 < (flat (.node b0 o0 (x, y) l r)).length := by simp [flat]
    have hfl := Lib.hid (flat_len b0 o0 (x, y) l r)
    have hbox := Lib.hid (boxedAtom_any _ _ w hok hv.out hn)
    have hcon := Lib.hid (fun W (hb : Below w.heap.size w W) => isConstant_at x y l r _ W (hv.out.below hb (Nat.le_refl _)) hn)
    have hant := Lib.hid (show antT (.node b0 o0 (x, y) l r) = (boxT (.node b0 o0 (x, y) l r) || (conB x (flat (.node b0 o0 (x, y) l r)) || (if x = 2 then antT l && antT r else if x = 6 then antT l else false))) from rfl)
    have hfi := Lib.hid (fun W (hb : Below w.heap.size w W) hl => first_any _ (x, y) l r W (hv.out.below hb (Nat.le_refl _)) hl (by rw [hfl.out] at hn; omega))
    have hse := Lib.hid (fun W (hb : Below w.heap.size w W) hl hr => second_any _ (x, y) l r W (hv.out.below hb (Nat.le_refl _)) hl hr (by rw [hfl.out] at hn; omega))
    have hnl := Lib.hid (show (flat l).length ≤ 1000000 by rw [hfl.out] at hn; omega)
    have hnr := Lib.hid (show (flat r).length ≤ 1000000 by rw [hfl.out] at hn; omega)
    have ihl := Lib.hid ihl
    have ihr := Lib.hid ihr
    have hokh := Lib.hid hok
    clear h hcm hcell hok hn hc1
    cases hbt : boxT (.node b0 o0 (x, y) l r)
    · have hbt := Lib.hid hbt
      cases hct : conB x (flat (.node b0 o0 (x, y) l r))
      · have hct := Lib.hid hct
        generalize (flat (.node b0 o0 (x, y) l r)).length = m at *
        by_cases h2 : x = 2
        · subst h2
          obtain ⟨okl, okr⟩ := ok_two hokh.out (by decide)
          cases hal : antT l
          all_goals
            have hal := Lib.hid hal
            have hfin := Lib.hid hant.out
            go_enter Try.func125, Try.ntmps125
            go_wp2_with fail
            refine hbox.out.mono ?_
            rintro e w1 ⟨⟨s, j, rfl⟩, b1⟩
            rw [hbt.out]
            go_wp2_with fail
            refine (hcon.out _ b1).mono ?_
            rintro e w2 ⟨rfl, b2⟩
            rw [hct.out]
            have B2 := keep_step b2 b1
            have hc0 := keep_cell B2 hc0
            go_wp2_with fail
            refine (hfi.out _ B2 okl).mono ?_
            rintro e w3 ⟨⟨v3, rfl, h3⟩, rfl⟩
            have h3 := Lib.hid h3
            go_wp2_with fail
            refine (ihl.out _ _ okl h3.out hnl.out).mono ?_
            rintro e w4 ⟨rfl, b4⟩
            rw [hal.out]
            have B4 := keep_step b4 B2
            go_wp2_with fail
          · go_ret
            exact ⟨ret_bool (by rw [hfin.out, hbt.out, hct.out, hal.out]; rfl), B4⟩
          · refine (hse.out _ B4 okl okr).mono ?_
            rintro e w5 ⟨⟨v5, rfl, h5⟩, rfl⟩
            have h5 := Lib.hid h5
            go_wp2_with fail
            refine (ihr.out _ _ okr h5.out hnr.out).mono ?_
            rintro e w6 ⟨rfl, b6⟩
            go_wp2_with fail
            go_ret
            exact ⟨ret_bool (by rw [hfin.out, hbt.out, hct.out, hal.out]; simp), keep_step b6 B4⟩
        · have h2f : (x == 2) = false := by rw [beq_eq_false_iff_ne]; exact h2
          have h2h := Lib.hid h2
          clear h2
          by_cases h6 : x = 6
          · subst h6
            obtain ⟨okl, rfl⟩ := ok_one hokh.out (by decide)
            clear h2f
            go_enter Try.func125, Try.ntmps125
            go_wp2_with fail
            refine hbox.out.mono ?_
            rintro e w1 ⟨⟨s, j, rfl⟩, b1⟩
            rw [hbt.out]
            go_wp2_with fail
            refine (hcon.out _ b1).mono ?_
            rintro e w2 ⟨rfl, b2⟩
            rw [hct.out]
            have B2 := keep_step b2 b1
            have hc0 := keep_cell B2 hc0
            go_wp2_with fail
            refine (hfi.out _ B2 okl).mono ?_
            rintro e w3 ⟨⟨v3, rfl, h3⟩, rfl⟩
            have h3 := Lib.hid h3
            go_wp2_with fail
            refine (ihl.out _ _ okl h3.out hnl.out).mono ?_
            rintro e w4 ⟨rfl, b4⟩
            have B4 := keep_step b4 B2
            go_wp2_with fail
            go_ret
            exact ⟨ret_bool (by rw [hant.out, hbt.out, hct.out]; simp), B4⟩
          · have h6f : (x == 6) = false := by rw [beq_eq_false_iff_ne]; exact h6
            have h6h := Lib.hid h6
            clear h6
            go_enter Try.func125, Try.ntmps125
            go_wp2_with fail
            refine hbox.out.mono ?_
            rintro e w1 ⟨⟨s, j, rfl⟩, b1⟩
            rw [hbt.out]
            go_wp2_with fail
            refine (hcon.out _ b1).mono ?_
            rintro e w2 ⟨rfl, b2⟩
            rw [hct.out]
            have B2 := keep_step b2 b1
            have hc0 := keep_cell B2 hc0
            go_wp2_with fail
            go_ret
            exact ⟨ret_bool (by rw [hant.out, hbt.out, hct.out, if_neg h2h.out, if_neg h6h.out]; rfl), B2⟩
      · have hct := Lib.hid hct
        go_enter Try.func125, Try.ntmps125
        go_wp2_with fail
        refine hbox.out.mono ?_
        rintro e w1 ⟨⟨s, j, rfl⟩, b1⟩
        rw [hbt.out]
        go_wp2_with fail
        refine (hcon.out _ b1).mono ?_
        rintro e w2 ⟨rfl, b2⟩
        rw [hct.out]
        go_wp2_with fail
        go_ret
        exact ⟨ret_bool (by rw [hant.out, hbt.out, hct.out]; rfl), keep_step b2 b1⟩
    · have hbt := Lib.hid hbt
      go_enter Try.func125, Try.ntmps125
      go_wp2_with fail
      refine hbox.out.mono ?_
      rintro e w1 ⟨⟨s, j, rfl⟩, b1⟩
      rw [hbt.out]
      go_wp2_with fail
      go_ret
      exact ⟨ret_bool (by rw [hant.out, hbt.out]; rfl), b1⟩

/-- What may stand behind, on lists. -/
def posL (ns : List Nd) : Bool := posT (parseT ns.length ns).1

theorem posT_norm (t : Tr) (h : okT t) : posT (normT t) = posT t := by
  induction t with
  | nil => rfl
  | node b o n l r ihl ihr =>
    have hf := (normT_ok _ h).2
    rcases h with ⟨h1, rfl, rfl⟩ | ⟨h1, h2, rfl⟩ | ⟨h1, h2, h3⟩
    · simp [normT, posT, flat]
    · have := (normT_ok l h2).2
      simp [normT, posT, flat, ihl h2, this]
    · have e1 := (normT_ok l h2).2
      have e2 := (normT_ok r h3).2
      simp [normT, posT, flat, ihl h2, ihr h3, e1, e2]

theorem posL_flat (t : Tr) (h : okT t) : posL (flat t) = posT t := by
  have := parseT_flat (flat t).length t [] h (Nat.le_refl _)
  rw [List.append_nil] at this
  unfold posL
  rw [this]
  exact posT_norm t h

theorem positive1_pred (ss : List Sl) (w : World) (hs : ∀ s ∈ ss, Nodes w (slV s) s.2)
    (ih : ∀ s ∈ ss, ∀ W, Nodes W (slV s) s.2 → Calls Try.prog 126 #[slV s] W fun e W' => e = .returned (.bool (posL s.2)) ∧ Below W.heap.size W W') :
    Pred Try.prog 146 #[] slV ss (fun s => !posL s.2) w := by
  intro W s hm hb hsz
  have hc := Lib.hid (ih s hm W ((hs s hm).below hb (Nat.le_refl _)))
  obtain ⟨⟨a, n, c⟩, ns⟩ := s
  unfold slV at *
  show Calls Try.prog 146 #[.slice a n c] W _
  go_enter Try.func146, Try.ntmps146
  go_wp2_with fail
  refine hc.out.mono ?_
  rintro e w' ⟨rfl, hb'⟩
  go_wp2_with fail
  go_ret
  exact ⟨rfl, hb'⟩

theorem pos_kids (ss : List Sl) (b o : Nat) (n : Nd) (l r : Tr) (hok : okT (.node b o n l r)) (h : ss.map (·.2) = (kidsT (.node b o n l r)).map flat) :
    (!(ss.any fun s => !posL s.2)) = (posT l && posT r) := by
  rw [not_any]
  have e : ss.all (fun s => posL s.2) = (ss.map (·.2)).all posL := by rw [List.all_map]; rfl
  rw [e, h]
  rcases hok with ⟨h1, rfl, rfl⟩ | ⟨h1, h2, rfl⟩ | ⟨h1, h2, h3⟩
  · simp [kidsT, h1, posT]
  · simp [kidsT, h1, posL_flat l h2, show posT Deep.BT.nil = true from rfl]
  · simp [kidsT, h1, posL_flat l h2, posL_flat r h3]

theorem pos_ih (ss : List Sl) (b o : Nat) (n : Nd) (l r : Tr) (hok : okT (.node b o n l r)) (hn : (flat (.node b o n l r)).length ≤ 1000000) (h : ss.map (·.2) = (kidsT (.node b o n l r)).map flat)
    (ihl : ∀ (v : Value) (w : World), okT l → Nodes w v (flat l) → (flat l).length ≤ 1000000 → Calls Try.prog 126 #[v] w fun e w' => e = .returned (.bool (posT l)) ∧ Below w.heap.size w w')
    (ihr : ∀ (v : Value) (w : World), okT r → Nodes w v (flat r) → (flat r).length ≤ 1000000 → Calls Try.prog 126 #[v] w fun e w' => e = .returned (.bool (posT r)) ∧ Below w.heap.size w w') :
    ∀ s ∈ ss, ∀ W, Nodes W (slV s) s.2 → Calls Try.prog 126 #[slV s] W fun e W' => e = .returned (.bool (posL s.2)) ∧ Below W.heap.size W W' := by
  intro s hs W hW
  have hm : s.2 ∈ (kidsT (.node b o n l r)).map flat := by rw [← h]; exact List.mem_map_of_mem hs
  have hlen := flat_len b o n l r
  rcases hok with ⟨h1, rfl, rfl⟩ | ⟨h1, h2, rfl⟩ | ⟨h1, h2, h3⟩
  · simp [kidsT, h1] at hm
  · simp [kidsT, h1] at hm
    rw [hm] at hW ⊢
    rw [posL_flat l h2]
    exact ihl _ _ h2 hW (by omega)
  · simp [kidsT, h1] at hm
    rcases hm with hm | hm
    · rw [hm] at hW ⊢
      rw [posL_flat l h2]
      exact ihl _ _ h2 hW (by omega)
    · rw [hm] at hW ⊢
      rw [posL_flat r h3]
      exact ihr _ _ h3 hW (by omega)

set_option maxHeartbeats 2000000 in
theorem isPositive_any (t : Tr) : ∀ (v : Value) (w : World), okT t → Nodes w v (flat t) → (flat t).length ≤ 1000000 →
    Calls Try.prog 126 #[v] w fun e w' => e = .returned (.bool (posT t)) ∧ Below w.heap.size w w' := by
  induction t with
  | nil => intro v w h; exact h.elim
  | node b0 o0 n l r ihl ihr =>
    intro v w hok h hn
    obtain ⟨x, y⟩ := n
    have hv := Lib.hid h
    have hpos := Lib.hid (show posT (.node b0 o0 (x, y) l r) = ((decide (x = 0) || conB x (flat (.node b0 o0 (x, y) l r))) || (decide (x ≠ 4) && (posT l && posT r))) from rfl)
    have hih := Lib.hid (fun ss hss => pos_ih ss b0 o0 (x, y) l r hok hn hss ihl ihr)
    have hka := Lib.hid (fun ss hss => pos_kids ss b0 o0 (x, y) l r hok hss)
    have heg := Lib.hid (enters_of Try.func146 (by kernel_rfl) rfl)
    obtain ⟨c, b, o, rfl, hc, hcm, hcell⟩ := h.raw (by simp [flat])
    obtain ⟨hc0, hc1⟩ := node_head hcell.out
    simp only at hc0 hc1
    have hp0 : 0 < (flat (.node b0 o0 (x, y) l r)).length := by simp [flat]
    have hcon := Lib.hid (fun W (hb : Below w.heap.size w W) => isConstant_at x y l r _ W (hv.out.below hb (Nat.le_refl _)) hn)
    have hpa := Lib.hid (fun W (hb : Below w.heap.size w W) => parts_any _ _ W hok (hv.out.below hb (Nat.le_refl _)) hn)
    clear h hcm hcell ihl ihr hok hn hc1
    generalize (flat (.node b0 o0 (x, y) l r)).length = m at *
    by_cases hx0 : x = 0
    · subst hx0
      go_enter Try.func126, Try.ntmps126
      go_wp2_with fail
      go_ret
      exact ⟨ret_bool (by rw [hpos.out]; rfl), Below.refl _ _⟩
    · have hxf : (x == 0) = false := by rw [beq_eq_false_iff_ne]; exact hx0
      have hx0 := Lib.hid hx0
      cases hct : conB x (flat (.node b0 o0 (x, y) l r))
      · have hct := Lib.hid hct
        by_cases hx4 : x = 4
        · subst hx4
          clear hxf
          go_enter Try.func126, Try.ntmps126
          go_wp2_with fail
          refine (hcon.out _ (Below.refl _ _)).mono ?_
          rintro e w2 ⟨rfl, b2⟩
          rw [hct.out]
          have hc0 := keep_cell b2 hc0
          go_wp2_with fail
          go_ret
          exact ⟨ret_bool (by rw [hpos.out, hct.out]; rfl), b2⟩
        · have hx4f : (x != 4) = true := by simpa using hx4
          have hx4h := Lib.hid hx4
          clear hx4
          go_enter Try.func126, Try.ntmps126
          go_wp2_with fail
          refine (hcon.out _ (Below.refl _ _)).mono ?_
          rintro e w2 ⟨rfl, b2⟩
          rw [hct.out]
          have hc0 := keep_cell b2 hc0
          go_wp2_with fail
          refine (hpa.out _ b2).mono ?_
          rintro e w3 ⟨vp, ss, rfl, hss, hsn, hsm, b3⟩
          have B3 := keep_step b3 b2
          have hss := Lib.hid hss
          have hsn := Lib.hid hsn
          have hsm := Lib.hid hsm
          go_wp2_with fail
          refine (containsFuncS_any _ _ heg.out _ ss (fun s => !posL s.2) _ hss.out (positive1_pred ss _ hsn.out (hih.out ss hsm.out))).mono ?_
          rintro e w4 ⟨rfl, b4⟩
          go_wp2_with fail
          go_ret
          exact ⟨ret_bool (by rw [hpos.out, hct.out, ← hka.out ss hsm.out]; simp [hx0.out, hx4h.out]), keep_step b4 B3⟩
      · have hct := Lib.hid hct
        go_enter Try.func126, Try.ntmps126
        go_wp2_with fail
        refine (hcon.out _ (Below.refl _ _)).mono ?_
        rintro e w2 ⟨rfl, b2⟩
        rw [hct.out]
        go_wp2_with fail
        go_ret
        exact ⟨ret_bool (by rw [hpos.out, hct.out]; simp), b2⟩

def sahR (ns : List Nd) : Bool := if formB ns then sahT (treeOf ns) else false
def sahCode (ns : List Nd) : Int := if formB ns then 0 else 1

set_option maxHeartbeats 1000000 in
theorem isSahlqvist_any (t : Tr) (v : Value) (w : World) (hok : okT t) (h : Nodes w v (flat t)) (hn : (flat t).length ≤ 1000000) :
    Calls Try.prog 83 #[v] w fun e w' => e = .returned (.bool (sahT t)) ∧ Below w.heap.size w w' := by
  cases t with
  | nil => exact hok.elim
  | node b0 o0 n l r =>
    obtain ⟨x, y⟩ := n
    have hv := Lib.hid h
    obtain ⟨c, b, o, rfl, hc, hcm, hcell⟩ := h.raw (by simp [flat])
    obtain ⟨hc0, hc1⟩ := node_head hcell.out
    simp only at hc0 hc1
    have hp0 : 0 < (flat (.node b0 o0 (x, y) l r)).length := by simp [flat]
    have hfl := Lib.hid (flat_len b0 o0 (x, y) l r)
    have hfi := Lib.hid (fun W (hb : Below w.heap.size w W) hl => first_any _ (x, y) l r W (hv.out.below hb (Nat.le_refl _)) hl (by rw [hfl.out] at hn; omega))
    have hse := Lib.hid (fun W (hb : Below w.heap.size w W) hl hr => second_any _ (x, y) l r W (hv.out.below hb (Nat.le_refl _)) hl hr (by rw [hfl.out] at hn; omega))
    have hnl := Lib.hid (show (flat l).length ≤ 1000000 by rw [hfl.out] at hn; omega)
    have hnr := Lib.hid (show (flat r).length ≤ 1000000 by rw [hfl.out] at hn; omega)
    have hsah := Lib.hid (show sahT (.node b0 o0 (x, y) l r) = (decide (x = 4) && (antT l && posT r)) from rfl)
    have hokh := Lib.hid hok
    clear h hcm hcell hok hn hc1
    generalize (flat (.node b0 o0 (x, y) l r)).length = m at *
    by_cases h4 : x = 4
    · subst h4
      obtain ⟨okl, okr⟩ := ok_two hokh.out (by decide)
      cases hal : antT l
      all_goals
        have hal := Lib.hid hal
        go_enter Try.func83, Try.ntmps83
        go_wp2_with fail
        refine (hfi.out _ (Below.refl _ _) okl).mono ?_
        rintro e w3 ⟨⟨v3, rfl, h3⟩, rfl⟩
        have h3 := Lib.hid h3
        go_wp2_with fail
        refine (isAntecedent_any _ _ _ okl h3.out hnl.out).mono ?_
        rintro e w4 ⟨rfl, b4⟩
        rw [hal.out]
        go_wp2_with fail
      · go_ret
        exact ⟨ret_bool (by rw [hsah.out, hal.out]; rfl), b4⟩
      · refine (hse.out _ b4 okl okr).mono ?_
        rintro e w5 ⟨⟨v5, rfl, h5⟩, rfl⟩
        have h5 := Lib.hid h5
        go_wp2_with fail
        refine (isPositive_any _ _ _ okr h5.out hnr.out).mono ?_
        rintro e w6 ⟨rfl, b6⟩
        go_wp2_with fail
        go_ret
        exact ⟨ret_bool (by rw [hsah.out, hal.out]; simp), keep_step b6 b4⟩
    · have h4f : (x == 4) = false := by rw [beq_eq_false_iff_ne]; exact h4
      have h4h := Lib.hid h4
      clear h4
      go_enter Try.func83, Try.ntmps83
      go_wp2_with fail
      go_ret
      exact ⟨ret_bool (by rw [hsah.out]; simp [h4h.out]), Below.refl _ _⟩

theorem implIsSahlqvist_any (v : Value) (ns : List Nd) (w : World) (h : Nodes w v ns) :
    Calls Try.prog 42 #[v] w fun e w' => e = .returned (.tuple #[.bool (sahR ns), .int .i64 (sahCode ns)]) ∧ Below w.heap.size w w' := by
  have hv := Lib.hid h
  clear h
  have hcode := Lib.hid (isFormula_any v ns w hv.out)
  cases hf : formB ns
  · have hr := Lib.hid (show sahR ns = false ∧ sahCode ns = 1 by simp [sahR, sahCode, hf])
    have hfh := Lib.hid hf
    clear hf
    go_enter Try.func42, Try.ntmps42
    go_wp2_with fail
    refine hcode.out.mono ?_
    rintro e w1 ⟨rfl, hb1⟩
    rw [hfh.out]
    go_wp2_with fail
    go_ret2
    exact ⟨by rw [hr.out.1, hr.out.2]; rfl, hb1⟩
  · have hr := Lib.hid (show sahR ns = sahT (treeOf ns) ∧ sahCode ns = 0 by simp [sahR, sahCode, hf])
    obtain ⟨hok, hfl⟩ := treeOf_spec hf
    have hl : ns.length ≤ 40 := by simp only [formB, Bool.and_eq_true, decide_eq_true_eq] at hf; omega
    have hg := Lib.hid (fun w1 (hb : Below w.heap.size w w1) => isSahlqvist_any (treeOf ns) v w1 hok (by rw [hfl]; exact hv.out.below hb (Nat.le_refl _)) (by rw [hfl]; omega))
    have hfh := Lib.hid hf
    clear hf hfl hok
    go_enter Try.func42, Try.ntmps42
    go_wp2_with fail
    refine hcode.out.mono ?_
    rintro e w1 ⟨rfl, hb1⟩
    rw [hfh.out]
    go_wp2_with fail
    refine (hg.out _ hb1).mono ?_
    rintro e w2 ⟨rfl, hb2⟩
    go_wp2_with fail
    go_ret2
    exact ⟨by rw [hr.out.1, hr.out.2]; rfl, hb1.trans (hb2.mono hb1.size)⟩
end Go.Proofs.Ytadinbjhpbomkaa
