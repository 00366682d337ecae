/- TranslateFormula: the plain law, and the reference's recursion. -/
import Derived.Test.YtadinbjhpbomkaaPMake
import Derived.Test.YtadinbjhpbomkaaJoinTwo
import Derived.Deep.RegionWith
namespace Go.Proofs.Ytadinbjhpbomkaa
open Go.RowKit Go.Deep

/-- What overSeen makes. -/
def ovL (k x y : Int) (L : List Pt) : List Pt := (if k = 5 then 7 else 8, y, 0) :: (if k = 5 then 6 else 4, 0, 0) :: ([(0, x, y)] ++ L)
def trL : Tr → Int → List Pt
  | .nil, _ => []
  | .node _ _ n l r, x => if n.1 = 0 then [(2, n.2, x)] else if n.1 = 1 then [(3, 0, 0)] else if ar n.1 = 1 then ovL n.1 x (1 - x) (trL l (1 - x)) else (n.1 + 2, 0, 0) :: (trL l x ++ trL r x)
theorem trL_node {b o : Nat} {n : Nd} {l r : Tr} {x : Int} : trL (.node b o n l r) x = if n.1 = 0 then [(2, n.2, x)] else if n.1 = 1 then [(3, 0, 0)] else if ar n.1 = 1 then ovL n.1 x (1 - x) (trL l (1 - x)) else (n.1 + 2, 0, 0) :: (trL l x ++ trL r x) := rfl
theorem trL_var {b o : Nat} {y : Int} {l r : Tr} {x : Int} : trL (.node b o (0, y) l r) x = [(2, y, x)] := by rw [trL_node]; simp
theorem trL_false {b o : Nat} {y : Int} {l r : Tr} {x : Int} : trL (.node b o (1, y) l r) x = [(3, 0, 0)] := by rw [trL_node]; simp
theorem ar1 {k : Int} (h : ar k = 1) : k = 5 ∨ k = 6 := by
  unfold ar at h
  split at h
  · omega
  · split at h
    · assumption
    · omega
theorem ar2 {k : Int} (h : ar k = 2) : k = 2 ∨ k = 3 ∨ k = 4 := by
  unfold ar at h
  split at h
  · assumption
  · split at h <;> omega
theorem trL_un {b o : Nat} {k y : Int} {l r : Tr} {x : Int} (h : ar k = 1) : trL (.node b o (k, y) l r) x = ovL k x (1 - x) (trL l (1 - x)) := by
  have := ar1 h
  rw [trL_node]
  simp only
  rw [if_neg (by omega), if_neg (by omega), if_pos h]
theorem trL_bin {b o : Nat} {k y : Int} {l r : Tr} {x : Int} (h : ar k = 2) : trL (.node b o (k, y) l r) x = (k + 2, 0, 0) :: (trL l x ++ trL r x) := by
  have := ar2 h
  rw [trL_node]
  simp only
  rw [if_neg (by omega), if_neg (by omega), if_neg (by omega)]
theorem leafN {k y : Int} (h : nodeB (k, y) = true) (h1 : ar k = 0) : k = 0 ∨ k = 1 := by
  unfold nodeB at h
  simp only at h
  split at h
  · exact .inl (by assumption)
  · simp only [Bool.and_eq_true, decide_eq_true_eq] at h
    unfold ar at h1
    split at h1
    · cases h1
    · split at h1
      · cases h1
      · omega
theorem trL_len (t : Tr) : ∀ x : Int, okT t → 0 < (trL t x).length ∧ (trL t x).length ≤ 3 * (flat t).length := by
  induction t with
  | nil => intro x h; exact h.elim
  | node b o n l r ihl ihr =>
    intro x h
    obtain ⟨k, y⟩ := n
    have e : (flat (.node b o (k, y) l r)).length = 1 + (flat l).length + (flat r).length := by simp [flat]; omega
    rw [e]
    by_cases k0 : k = 0
    · subst k0; rw [trL_var]; simp; omega
    by_cases k1 : k = 1
    · subst k1; rw [trL_false]; simp; omega
    rcases h with ⟨h1, rfl, rfl⟩ | ⟨h1, h2, rfl⟩ | ⟨h1, h2, h3⟩
    · rw [trL_node]
      simp only
      simp only at h1
      rw [if_neg k0, if_neg k1, if_neg (by omega)]
      simp [trL]; omega
    · rw [trL_un h1]
      have := ihl (1 - x) h2
      simp [ovL]; omega
    · rw [trL_bin h1]
      have a1 := ihl x h2
      have a2 := ihr x h3
      simp; omega

/-- A made value, its shape laid open. -/
theorem made_of {P : Program} {f : FuncId} {args : Array Value} {W : World} {L : List Pt} {n : Nat} (hL : L.length = n) (h : Calls P f args W fun e w' => ∃ v', e = .returned v' ∧ w'.ownsRow W.heap.size 86 3 v' L.length (cellsP L) ∧ Below W.heap.size W w') :
    Calls P f args W fun e w' => ∃ a c, e = .returned (.slice a n c) ∧ Hid (Points w' (.slice a n c) L) ∧ Below W.heap.size W w' := by
  refine h.mono ?_
  rintro e w' ⟨v', rfl, ho, hb⟩
  have hp := points_of_own ho
  obtain ⟨a, c, rfl⟩ := hp.shape
  rw [hL] at hp
  exact ⟨a, c, by rw [hL], hp, hb⟩

set_option maxHeartbeats 4000000 in
set_option maxRecDepth 100000 in
theorem l10Translate_any (t : Tr) : ∀ (v : Value) (x : Int) (w : World), okT t → (flat t).all nodeB = true → Nodes w v (flat t) → (flat t).length ≤ 40 → (x = 0 ∨ x = 1) →
    Calls Try.prog 77 #[v, .int .i64 x] w fun e w' => ∃ v', e = .returned v' ∧ w'.ownsRow w.heap.size 86 3 v' (trL t x).length (cellsP (trL t x)) ∧ Below w.heap.size w w' := by
  induction t with
  | nil => intro v x w h; exact h.elim
  | node b0 o0 n l r ihl ihr =>
    intro v x w ht hall h hn hx
    have IHL := Lib.hid ihl
    have IHR := Lib.hid ihr
    clear ihl ihr
    have hv := Lib.hid h
    obtain ⟨k, y⟩ := n
    have hlen : (flat (.node b0 o0 (k, y) l r)).length = 1 + (flat l).length + (flat r).length := by simp [flat]; omega
    obtain ⟨c, b, o, rfl, hc, hcm, hcell⟩ := h.raw (by omega)
    obtain ⟨hc0, hc1⟩ := node_head hcell.out
    simp only at hc0 hc1
    simp only [flat, List.all_cons, List.all_append, Bool.and_eq_true] at hall
    obtain ⟨hb0, hal, har⟩ := hall
    have hpos : 0 < (flat (.node b0 o0 (k, y) l r)).length := by omega
    rcases ht with ⟨h1, rfl, rfl⟩ | ⟨h1, h2, rfl⟩ | ⟨h1, h2, h3⟩
    · simp only at h1
      rcases leafN hb0 h1 with rfl | rfl
      · have hf := Lib.hid (trL_var (b := b0) (o := o0) (y := y) (l := .nil) (r := .nil) (x := x))
        clear hcell hb0 hal har hn hcm hc hlen h1 hv hx
        generalize trL (.node b0 o0 (0, y) .nil .nil) x = L at *
        generalize (flat (.node b0 o0 (0, y) .nil .nil)).length = m at *
        go_enter Try.func77, Try.ntmps77
        go_wp2_with fail
        refine (l10One_any _ _ _ _).mono ?_
        rintro e w' ⟨v', rfl, ho, hb⟩
        have ho := Lib.hid ho
        go_wp2_with fail
        go_ret
        exact ⟨_, rfl, by rw [hf.out]; exact ho.out, hb⟩
      · have hf := Lib.hid (trL_false (b := b0) (o := o0) (y := y) (l := .nil) (r := .nil) (x := x))
        clear hcell hb0 hal har hn hcm hc hlen h1 hv hx
        generalize trL (.node b0 o0 (1, y) .nil .nil) x = L at *
        generalize (flat (.node b0 o0 (1, y) .nil .nil)).length = m at *
        go_enter Try.func77, Try.ntmps77
        go_wp2_with fail
        refine (l10False_any _).mono ?_
        rintro e w' ⟨v', rfl, ho, hb⟩
        have ho := Lib.hid ho
        go_wp2_with fail
        go_ret
        exact ⟨_, rfl, by rw [hf.out]; exact ho.out, hb⟩
    · simp only at h1
      have h4 := ar1 h1
      have hf := Lib.hid (trL_un (b := b0) (o := o0) (y := y) (l := l) (r := .nil) (x := x) h1)
      have hfl : flat (.node b0 o0 (k, y) l .nil) = (k, y) :: flat l := by simp [flat]
      have hll : (flat l).length ≤ 39 := by omega
      have hlp := flat_pos l h2
      rw [hfl] at hcell hc ⊢
      have hc3 : 1 < c := by simp at hc; omega
      have hpt := node_tail (c := c - 1) hcell.out (by simp at hc; omega) (by unfold maxLen; omega)
      obtain ⟨q0, q1⟩ := trL_len l (1 - x) h2
      have hrec := Lib.hid (fun W (hW : Below w.heap.size w W) => made_of rfl (IHL.out _ (1 - x) W h2 hal (hpt.below hW (Nat.le_refl _)) (by omega) (by omega)))
      have hone := Lib.hid (fun W => made_of (n := 1) rfl (l10One_any 0 x (1 - x) W))
      have hpair := Lib.hid (fun j a c a' c' W (h : Hid (Points W (.slice a 1 c) [((0 : Int), x, 1 - x)])) (h' : Hid (Points W (.slice a' (trL l (1 - x)).length c') (trL l (1 - x)))) => made_of (n := 2 + (trL l (1 - x)).length) (by simp; omega) (l10Pair_any j _ _ _ _ W h.out h'.out (by simp) q0 (by simp) (by omega)))
      have hbind := Lib.hid (fun i j a c W (h : Hid (Points W (.slice a (2 + (trL l (1 - x)).length) c) ((j, 0, 0) :: ([((0 : Int), x, 1 - x)] ++ trL l (1 - x))))) => l10Bind_any i (1 - x) _ _ W h.out (by simp) (by simp; omega))
      have hlen2 : ((k, y) :: flat l).length = (flat l).length + 1 := by simp
      rw [hlen2] at hc ⊢
      clear hcell hb0 hal har hn hcm hlen h1 hv hpt hpos hfl hlen2 hll q0 q1
      generalize trL l (1 - x) = T at *
      generalize T.length = z at *
      generalize (flat l).length = m at *
      generalize trL (.node b0 o0 (k, y) l .nil) x = L at *
      rcases h4 with rfl | rfl <;> rcases hx with rfl | rfl
      all_goals
        go_enter Try.func77, Try.ntmps77
        go_wp2_with fail
        go_region_with (first
          | (go_at_call 111; refine (hone.out _).mono ?_; rintro e w1 ⟨a1, c1, rfl, hP1, b1⟩; have B1 : Below w.heap.size w w1 := ⟨b1.os, b1.tape, b1.output, b1.size, b1.block⟩)
          | (go_at_call 77; refine (hrec.out w1 B1).mono ?_; rintro e w2 ⟨a2, c2, rfl, hP2, b2⟩; have B2 := B1.trans (b2.mono B1.size); have hP3 := Lib.hid (hP1.out.below b2 (Nat.le_refl _)))
          | (go_at_call 113; refine (hpair.out _ _ _ _ _ w2 hP3 hP2).mono ?_; rintro e w3 ⟨a3, c3, rfl, hP4, b3⟩; have B3 := B2.trans (b3.mono B2.size))
          | (go_at_call 116; refine (hbind.out _ _ _ _ w3 hP4).mono ?_; rintro e w4 ⟨v4, rfl, ho4, b4⟩; have B4 := B3.trans (b4.mono B3.size)))
        all_goals
          replace ho4 := Lib.hid ho4
          go_wp2_with fail
          go_ret
          exact ⟨_, rfl, by rw [hf.out]; exact own_mono ho4.out B3.size, B4⟩
    · simp only at h1
      have h4 := ar2 h1
      have hf := Lib.hid (trL_bin (b := b0) (o := o0) (y := y) (l := l) (r := r) (x := x) h1)
      have hfl : flat (.node b0 o0 (k, y) l r) = (k, y) :: (flat l ++ flat r) := rfl
      obtain ⟨q0, q1⟩ := trL_len l x h2
      obtain ⟨q2, q3⟩ := trL_len r x h3
      rw [hfl] at hv hpos ⊢
      have hL := Lib.hid (fun W (hW : Below w.heap.size w W) => l02Left_any _ _ l r W (hv.out.below hW (Nat.le_refl _)) h2 (by omega))
      have hR := Lib.hid (fun W (hW : Below w.heap.size w W) => l02Right_any _ _ l r W (hv.out.below hW (Nat.le_refl _)) h2 h3 (by omega))
      have hrl := Lib.hid (fun v' W hP => made_of rfl (IHL.out v' x W h2 hal hP (by omega) hx))
      have hrr := Lib.hid (fun v' W hP => made_of rfl (IHR.out v' x W h3 har hP (by omega) hx))
      have hpair := Lib.hid (fun j a c a' c' W (h : Hid (Points W (.slice a (trL l x).length c) (trL l x))) (h' : Hid (Points W (.slice a' (trL r x).length c') (trL r x))) => l10Pair_any j _ _ _ _ W h.out h'.out q0 q2 (by omega) (by omega))
      clear hcell hb0 hal har hn hcm hlen h1 hv hfl hc hx q0 q1 q2 q3
      generalize trL (.node b0 o0 (k, y) l r) x = L at *
      generalize trL l x = T at *
      generalize trL r x = U at *
      generalize ((k, y) :: (flat l ++ flat r)).length = m at *
      generalize hTz : T.length = z at *
      generalize hUz : U.length = z2 at *
      replace hTz := Lib.hid hTz
      replace hUz := Lib.hid hUz
      rcases h4 with rfl | rfl | rfl
      all_goals
        go_enter Try.func77, Try.ntmps77
        go_wp2_with fail
        refine (hL.out _ (Below.refl _ _)).mono ?_
        rintro e w1 ⟨⟨vl, rfl, hpl⟩, rfl⟩
        go_wp2_with fail
        refine (hrl.out _ _ hpl).mono ?_
        rintro e w1 ⟨a1, c1, rfl, hP1, B1⟩
        go_wp2_with fail
        refine (hR.out _ B1).mono ?_
        rintro e w2 ⟨⟨vr, rfl, hpr⟩, rfl⟩
        go_wp2_with fail
        refine (hrr.out _ _ hpr).mono ?_
        rintro e w2 ⟨a2, c2, rfl, hP2, b2⟩
        have B2 := keep_step b2 B1
        have hP3 := Lib.hid (hP1.out.below b2 (Nat.le_refl _))
        go_wp2_with fail
        refine (hpair.out _ _ _ _ _ _ hP3 hP2).mono ?_
        rintro e w3 ⟨v3, rfl, ho3, b3⟩
        have B3 := keep_step b3 B2
        replace ho3 := Lib.hid ho3
        go_wp2_with fail
        go_ret
        exact ⟨_, rfl, by rw [hf.out]; exact own_mono ho3.out B2.size, B3⟩
end Go.Proofs.Ytadinbjhpbomkaa
