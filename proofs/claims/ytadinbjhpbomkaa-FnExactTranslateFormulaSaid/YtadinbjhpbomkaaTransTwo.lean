/- TranslateFormula: the program's recursion. -/
import Derived.Test.YtadinbjhpbomkaaTrans
namespace Go.Proofs.Ytadinbjhpbomkaa
open Go.RowKit Go.Deep

theorem made_slN {P : Program} {f : FuncId} {args : Array Value} {W : World} {L : List Nd} {n : Nat} (hL : L.length = n) (h : Calls P f args W fun e w' => (∃ v', e = .returned v' ∧ Nodes W v' L) ∧ W = w') :
    Calls P f args W fun e w' => ∃ a c, e = .returned (.slice a n c) ∧ Hid (Nodes W (.slice a n c) L) ∧ W = w' := by
  refine h.mono ?_
  rintro e w' ⟨⟨v', rfl, hp⟩, rfl⟩
  obtain ⟨a, c, rfl⟩ := hp.shape
  rw [hL] at hp
  exact ⟨a, c, by rw [hL], hp, rfl⟩

set_option maxHeartbeats 1000000 in
theorem overSeen_any (k x y : Int) (v : Value) (L : List Pt) (w : World) (h : Points w v L) (hp : 0 < L.length) (hn : L.length ≤ 900) (hk : k = 5 ∨ k = 6) :
    Calls Try.prog 119 #[.int .i64 k, .int .i64 x, .int .i64 y, v] w fun e w' => ∃ v', e = .returned v' ∧ w'.ownsRow w.heap.size 86 3 v' (ovL k x y L).length (cellsP (ovL k x y L)) ∧ Below w.heap.size w w' := by
  obtain ⟨a, c, rfl⟩ := h.shape
  have hatom := Lib.hid (fun W => made_of (n := 1) rfl (pointAtom_any 0 x y W))
  have hjoin := Lib.hid (fun j a' c' a c W (h' : Hid (Points W (.slice a' 1 c') [((0 : Int), x, y)])) (h : Hid (Points W (.slice a L.length c) L)) => made_of (n := 2 + L.length) (by simp; omega) (pointJoin_any j _ _ _ _ W h'.out h.out (by simp) hp (by simp) (by omega)))
  have hquant := Lib.hid (fun i j a c W (h : Hid (Points W (.slice a (2 + L.length) c) ((j, 0, 0) :: ([((0 : Int), x, y)] ++ L)))) => quantified_any i y _ _ W h.out (by simp) (by simp; omega))
  have h := Lib.hid h
  have h5 := Lib.hid (show ovL 5 x y L = (7, y, 0) :: (6, 0, 0) :: ([((0 : Int), x, y)] ++ L) from rfl)
  have h6 := Lib.hid (show ovL 6 x y L = (8, y, 0) :: (4, 0, 0) :: ([((0 : Int), x, y)] ++ L) from rfl)
  generalize L.length = n at *
  rcases hk with rfl | rfl
  · generalize ovL 5 x y L = O5 at *
    go_enter Try.func119, Try.ntmps119
    go_wp2_with fail
    refine (hatom.out _).mono ?_
    rintro e w1 ⟨a1, c1, rfl, hP1, B1⟩
    have hP2 := Lib.hid (h.out.below B1 (Nat.le_refl _))
    go_wp2_with fail
    refine (hjoin.out _ _ _ _ _ _ hP1 hP2).mono ?_
    rintro e w2 ⟨a2, c2, rfl, hP3, b2⟩
    have B2 := keep_step b2 B1
    go_wp2_with fail
    refine (hquant.out _ _ _ _ _ hP3).mono ?_
    rintro e w3 ⟨v3, rfl, ho3, b3⟩
    have B3 := keep_step b3 B2
    replace ho3 := Lib.hid ho3
    go_wp2_with fail
    go_ret
    exact ⟨_, rfl, by rw [h5.out]; exact own_mono ho3.out B2.size, B3⟩
  · generalize ovL 6 x y L = O6 at *
    go_enter Try.func119, Try.ntmps119
    go_wp2_with fail
    refine (hatom.out _).mono ?_
    rintro e w1 ⟨a1, c1, rfl, hP1, B1⟩
    have hP2 := Lib.hid (h.out.below B1 (Nat.le_refl _))
    go_wp2_with fail
    refine (hjoin.out _ _ _ _ _ _ hP1 hP2).mono ?_
    rintro e w2 ⟨a2, c2, rfl, hP3, b2⟩
    have B2 := keep_step b2 B1
    go_wp2_with fail
    refine (hquant.out _ _ _ _ _ hP3).mono ?_
    rintro e w3 ⟨v3, rfl, ho3, b3⟩
    have B3 := keep_step b3 B2
    replace ho3 := Lib.hid ho3
    go_wp2_with fail
    go_ret
    exact ⟨_, rfl, by rw [h6.out]; exact own_mono ho3.out B2.size, B3⟩

set_option maxHeartbeats 4000000 in
set_option maxRecDepth 100000 in
theorem translate_any (t : Tr) : ∀ (v : Value) (x : Int) (w : World), okT t → (flat t).all nodeB = true → Nodes w v (flat t) → (flat t).length ≤ 40 → (x = 0 ∨ x = 1) →
    Calls Try.prog 80 #[v, .int .i64 x] w fun e w' => ∃ v', e = .returned v' ∧ w'.ownsRow w.heap.size 86 3 v' (trL t x).length (cellsP (trL t x)) ∧ Below w.heap.size w w' := by
  induction t with
  | nil => intro v x w h; exact h.elim
  | node b0 o0 n l r ihl ihr =>
    intro v x w ht hall h hn hx
    have IHL := Lib.hid ihl
    have IHR := Lib.hid ihr
    clear ihl ihr
    have hv := Lib.hid h
    obtain ⟨k, y⟩ := n
    have hlen : (flat (.node b0 o0 (k, y) l r)).length = 1 + (flat l).length + (flat r).length := by simp [flat]; omega
    obtain ⟨c, b, o, rfl, hc, hcm, hcell⟩ := h.raw (by omega)
    obtain ⟨hc0, hc1⟩ := node_head hcell.out
    simp only at hc0 hc1
    simp only [flat, List.all_cons, List.all_append, Bool.and_eq_true] at hall
    obtain ⟨hb0, hal, har⟩ := hall
    have hpos : 0 < (flat (.node b0 o0 (k, y) l r)).length := by omega
    have lb : b < w.heap.size := World.block_lt_of_cell? w _ hc0
    rcases ht with ⟨h1, rfl, rfl⟩ | ⟨h1, h2, rfl⟩ | ⟨h1, h2, h3⟩
    · simp only at h1
      rcases leafN hb0 h1 with rfl | rfl
      · have hf := Lib.hid (trL_var (b := b0) (o := o0) (y := y) (l := .nil) (r := .nil) (x := x))
        clear hcell hb0 hal har hn hcm hc hlen h1 hv hx
        generalize trL (.node b0 o0 (0, y) .nil .nil) x = L at *
        generalize (flat (.node b0 o0 (0, y) .nil .nil)).length = m at *
        go_enter Try.func80, Try.ntmps80
        go_wp2_with fail
        refine (pointAtom_any _ _ _ _).mono ?_
        rintro e w' ⟨v', rfl, ho, hb⟩
        have ho := Lib.hid ho
        go_wp2_with fail
        go_ret
        exact ⟨_, rfl, by rw [hf.out]; exact ho.out, hb⟩
      · have hf := Lib.hid (trL_false (b := b0) (o := o0) (y := y) (l := .nil) (r := .nil) (x := x))
        clear hcell hb0 hal har hn hcm hc hlen h1 hv hx
        generalize trL (.node b0 o0 (1, y) .nil .nil) x = L at *
        generalize (flat (.node b0 o0 (1, y) .nil .nil)).length = m at *
        go_enter Try.func80, Try.ntmps80
        go_wp2_with fail
        refine (pointFalse_any _).mono ?_
        rintro e w' ⟨v', rfl, ho, hb⟩
        have ho := Lib.hid ho
        go_wp2_with fail
        go_ret
        exact ⟨_, rfl, by rw [hf.out]; exact ho.out, hb⟩
    · simp only at h1
      have h4 := ar1 h1
      have hf := Lib.hid (trL_un (b := b0) (o := o0) (y := y) (l := l) (r := .nil) (x := x) h1)
      have hfl : flat (.node b0 o0 (k, y) l .nil) = (k, y) :: (flat l ++ flat .nil) := by simp [flat]
      have hll : (flat l).length ≤ 39 := by omega
      rw [hfl] at hv hpos ⊢
      obtain ⟨q0, q1⟩ := trL_len l (1 - x) h2
      have hfirst := Lib.hid (fun W (hW : Below w.heap.size w W) => made_slN rfl (first_any _ _ l .nil W (hv.out.below hW (Nat.le_refl _)) h2 (by simp [flat]; omega)))
      have hrec := Lib.hid (fun a c W (h : Hid (Nodes W (.slice a (flat l).length c) (flat l))) => made_of rfl (IHL.out _ (1 - x) W h2 hal h.out (by omega) (by omega)))
      have hover := Lib.hid (fun a c W (h : Hid (Points W (.slice a (trL l (1 - x)).length c) (trL l (1 - x)))) => overSeen_any k x (1 - x) _ _ W h.out q0 (by omega) h4)
      clear hcell hb0 hal har hn hcm hlen h1 hv hfl hll q0 q1 hc
      generalize trL l (1 - x) = T at *
      generalize T.length = z at *
      generalize ovL k x (1 - x) T = O at *
      generalize ((k, y) :: (flat l ++ flat .nil)).length = m at *
      generalize (flat l).length = p at *
      generalize trL (.node b0 o0 (k, y) l .nil) x = L at *
      rcases h4 with rfl | rfl <;> rcases hx with rfl | rfl
      all_goals
        go_enter Try.func80, Try.ntmps80
        go_wp2_with fail
        go_region_with (first
          | (go_at_call 120; refine (hfirst.out _ (by first | exact Below.refl _ _ | exact Below.drew (Below.refl _ _) | exact below_drewN' _ _)).mono ?_; rintro e w1 ⟨a1, c1, rfl, hN1, rfl⟩)
          | (go_at_call 80; refine (hrec.out _ _ _ hN1).mono ?_; rintro e w2 ⟨a2, c2, rfl, hP2, b2⟩; have B2 : Below w.heap.size w w2 := ⟨b2.os, b2.tape, b2.output, b2.size, b2.block⟩; have hc02 := (B2.cell (p := ⟨b, o, none⟩) lb).trans hc0)
          | (go_at_call 119; refine (hover.out _ _ _ hP2).mono ?_; rintro e w3 ⟨v3, rfl, ho3, b3⟩; have B3 := B2.trans (b3.mono B2.size); have hc03 := (B3.cell (p := ⟨b, o, none⟩) lb).trans hc0))
        all_goals
          replace ho3 := Lib.hid ho3
          go_wp2_with fail
          go_ret
          exact ⟨_, rfl, by rw [hf.out]; exact own_mono ho3.out B2.size, B3⟩
    · simp only at h1
      have h4 := ar2 h1
      have hf := Lib.hid (trL_bin (b := b0) (o := o0) (y := y) (l := l) (r := r) (x := x) h1)
      have hfl : flat (.node b0 o0 (k, y) l r) = (k, y) :: (flat l ++ flat r) := rfl
      obtain ⟨q0, q1⟩ := trL_len l x h2
      obtain ⟨q2, q3⟩ := trL_len r x h3
      rw [hfl] at hv hpos ⊢
      have hL := Lib.hid (fun W (hW : Below w.heap.size w W) => made_slN rfl (first_any _ _ l r W (hv.out.below hW (Nat.le_refl _)) h2 (by omega)))
      have hR := Lib.hid (fun W (hW : Below w.heap.size w W) => made_slN rfl (second_any _ _ l r W (hv.out.below hW (Nat.le_refl _)) h2 h3 (by omega)))
      have hrl := Lib.hid (fun a c W (h : Hid (Nodes W (.slice a (flat l).length c) (flat l))) => made_of rfl (IHL.out _ x W h2 hal h.out (by omega) hx))
      have hrr := Lib.hid (fun a c W (h : Hid (Nodes W (.slice a (flat r).length c) (flat r))) => made_of rfl (IHR.out _ x W h3 har h.out (by omega) hx))
      have hjoin := Lib.hid (fun j a c a' c' W (h : Hid (Points W (.slice a (trL l x).length c) (trL l x))) (h' : Hid (Points W (.slice a' (trL r x).length c') (trL r x))) => pointJoin_any j _ _ _ _ W h.out h'.out q0 q2 (by omega) (by omega))
      clear hcell hb0 hal har hn hcm hlen h1 hv hfl hc hx q0 q1 q2 q3
      generalize trL (.node b0 o0 (k, y) l r) x = L at *
      generalize trL l x = T at *
      generalize trL r x = U at *
      generalize ((k, y) :: (flat l ++ flat r)).length = m at *
      generalize (flat l).length = p1 at *
      generalize (flat r).length = p2 at *
      generalize hTz : T.length = z at *
      generalize hUz : U.length = z2 at *
      replace hTz := Lib.hid hTz
      replace hUz := Lib.hid hUz
      rcases h4 with rfl | rfl | rfl
      all_goals
        go_enter Try.func80, Try.ntmps80
        go_wp2_with fail
        go_region_with (first
          | (go_at_call 120; refine (hL.out _ (by first | exact Below.refl _ _ | exact Below.drew (Below.refl _ _) | exact below_drewN' _ _)).mono ?_; rintro e w1 ⟨a1, c1, rfl, hN1, rfl⟩)
          | (go_at_call_of 80 (Value.slice a1 p1 c1); refine (hrl.out _ _ _ hN1).mono ?_; rintro e w2 ⟨a2, c2, rfl, hP2, b2⟩; have B2 : Below w.heap.size w w2 := ⟨b2.os, b2.tape, b2.output, b2.size, b2.block⟩; have hc02 := (B2.cell (p := ⟨b, o, none⟩) lb).trans hc0)
          | (go_at_call 122; refine (hR.out _ B2).mono ?_; rintro e w3 ⟨a3, c3, rfl, hN3, rfl⟩)
          | (go_at_call_of 80 (Value.slice a3 p2 c3); refine (hrr.out _ _ _ hN3).mono ?_; rintro e w4 ⟨a4, c4, rfl, hP4, b4⟩; have B4 := B2.trans (b4.mono B2.size); have hP5 := Lib.hid (hP2.out.below b4 (Nat.le_refl _)); have hc04 := (B4.cell (p := ⟨b, o, none⟩) lb).trans hc0)
          | (go_at_call 121; refine (hjoin.out _ _ _ _ _ _ hP5 hP4).mono ?_; rintro e w5 ⟨v5, rfl, ho5, b5⟩; have B5 := B4.trans (b5.mono B4.size); have hc05 := (B5.cell (p := ⟨b, o, none⟩) lb).trans hc0))
        all_goals
          replace ho5 := Lib.hid ho5
          go_wp2_with fail
          go_ret
          exact ⟨_, rfl, by rw [hf.out]; exact own_mono ho5.out B4.size, B5⟩
end Go.Proofs.Ytadinbjhpbomkaa
