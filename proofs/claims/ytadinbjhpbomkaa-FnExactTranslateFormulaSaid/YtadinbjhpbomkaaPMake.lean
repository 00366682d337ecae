/- The makers of point formulas. -/
import Derived.Test.YtadinbjhpbomkaaPConcat
namespace Go.Proofs.Ytadinbjhpbomkaa
open Go.RowKit

theorem lit_own (w : World) (k x y : Int) : (w.alloc (.cells #[.int .i64 k, .int .i64 x, .int .i64 y] 86)).ownsRow w.heap.size 86 3 (.slice (some ⟨w.heap.size, 0, none⟩) 1 1) 1 (cellsP [(k, x, y)]) :=
  World.ownsRow_lit (e := 86) (base := w.heap.size) (size := 3) w #[.int .i64 k, .int .i64 x, .int .i64 y] 1 (Nat.le_refl _) (by simp [maxLen]) rfl
theorem lit_points (w : World) (k x y : Int) (t : TypeId) : Points (w.alloc (.cells #[.int .i64 k, .int .i64 x, .int .i64 y] t)) (.slice (some ⟨w.heap.size, 0, none⟩) 1 1) [(k, x, y)] :=
  points_of_own (e := t) (World.ownsRow_lit (e := t) (base := w.heap.size) (size := 3) w #[.int .i64 k, .int .i64 x, .int .i64 y] 1 (Nat.le_refl _) (by simp [maxLen]) rfl)
theorem slicesP_two (w : World) (a a' : Option Addr) (n n' c c' : Nat) (ns ns' : List Pt) (t : TypeId) : SlicesP (w.alloc (.cells #[.slice a n c, .slice a' n' c'] t)) (.slice (some ⟨w.heap.size, 0, none⟩) 2 2) [((a, n, c), ns), ((a', n', c'), ns')] := by
  refine ⟨rfl, by show 2 ≤ maxLen; unfold maxLen; omega, _, 2, w.heap.size, 0, rfl, by show 2 ≤ 2; omega, fun _ => rfl, fun i u hu => ?_⟩
  rw [World.cell?_alloc_at _ _ _ _ rfl]
  match i, hu with
  | 0, hu => simpa [slVP] using hu
  | 1, hu => simpa [slVP] using hu
  | i + 2, hu => simp at hu
theorem slicesP_three (w : World) (a a' a'' : Option Addr) (n n' n'' c c' c'' : Nat) (ns ns' ns'' : List Pt) (t : TypeId) : SlicesP (w.alloc (.cells #[.slice a n c, .slice a' n' c', .slice a'' n'' c''] t)) (.slice (some ⟨w.heap.size, 0, none⟩) 3 3) [((a, n, c), ns), ((a', n', c'), ns'), ((a'', n'', c''), ns'')] := by
  refine ⟨rfl, by show 3 ≤ maxLen; unfold maxLen; omega, _, 3, w.heap.size, 0, rfl, by show 3 ≤ 3; omega, fun _ => rfl, fun i u hu => ?_⟩
  rw [World.cell?_alloc_at _ _ _ _ rfl]
  match i, hu with
  | 0, hu => simpa [slVP] using hu
  | 1, hu => simpa [slVP] using hu
  | 2, hu => simpa [slVP] using hu
  | i + 3, hu => simp at hu
theorem size_alloc1P (w : World) (o : Obj) : (w.alloc o).heap.size = w.heap.size + 1 := by simp

theorem l10One_any (k x y : Int) (w : World) :
    Calls Try.prog 111 #[.int .i64 k, .int .i64 x, .int .i64 y] w fun e w' => ∃ v', e = .returned v' ∧ w'.ownsRow w.heap.size 86 3 v' ([(k, x, y)]).length (cellsP ([(k, x, y)])) ∧ Below w.heap.size w w' := by
  have hl := Lib.hid (lit_own w k x y)
  go_enter Try.func111, Try.ntmps111
  go_wp2_with fail
  go_ret
  exact ⟨_, rfl, hl.out, (Below.refl _ _).alloc (Nat.le_refl _) _⟩

theorem pointAtom_any (k x y : Int) (w : World) :
    Calls Try.prog 117 #[.int .i64 k, .int .i64 x, .int .i64 y] w fun e w' => ∃ v', e = .returned v' ∧ w'.ownsRow w.heap.size 86 3 v' ([(k, x, y)]).length (cellsP ([(k, x, y)])) ∧ Below w.heap.size w w' := by
  have hl := Lib.hid (lit_own w k x y)
  go_enter Try.func117, Try.ntmps117
  go_wp2_with fail
  go_ret
  exact ⟨_, rfl, hl.out, (Below.refl _ _).alloc (Nat.le_refl _) _⟩

theorem l10False_any (w : World) :
    Calls Try.prog 112 #[] w fun e w' => ∃ v', e = .returned v' ∧ w'.ownsRow w.heap.size 86 3 v' ([((3 : Int), (0 : Int), (0 : Int))]).length (cellsP ([((3 : Int), (0 : Int), (0 : Int))])) ∧ Below w.heap.size w w' := by
  have hl := Lib.hid (lit_own w 3 0 0)
  go_enter Try.func112, Try.ntmps112
  go_wp2_with fail
  go_ret
  exact ⟨_, rfl, hl.out, (Below.refl _ _).alloc (Nat.le_refl _) _⟩

theorem pointFalse_any (w : World) :
    Calls Try.prog 118 #[] w fun e w' => ∃ v', e = .returned v' ∧ w'.ownsRow w.heap.size 86 3 v' ([((3 : Int), (0 : Int), (0 : Int))]).length (cellsP ([((3 : Int), (0 : Int), (0 : Int))])) ∧ Below w.heap.size w w' := by
  have hl := Lib.hid (lit_own w 3 0 0)
  go_enter Try.func118, Try.ntmps118
  go_wp2_with fail
  go_ret
  exact ⟨_, rfl, hl.out, (Below.refl _ _).alloc (Nat.le_refl _) _⟩

set_option maxRecDepth 100000 in
theorem l10Bind_any (k x : Int) (v : Value) (ns : List Pt) (w : World) (h : Points w v ns) (hp : 0 < ns.length) (hn : ns.length ≤ 1000) :
    Calls Try.prog 116 #[.int .i64 k, .int .i64 x, v] w fun e w' => ∃ v', e = .returned v' ∧ w'.ownsRow w.heap.size 86 3 v' ((k, x, 0) :: ns).length (cellsP ((k, x, 0) :: ns)) ∧ Below w.heap.size w w' := by
  obtain ⟨i0, hi, hz0, hz1, hz2⟩ := info_parts info_point
  have hI := Lib.hid (And.intro hi (And.intro hz0 (And.intro hz1 hz2)))
  clear hi hz0 hz1 hz2
  obtain ⟨c, b, o, rfl, hc, hcm, hcell⟩ := h.raw hp
  have hlen := Lib.hid (cellsP_length ns)
  have hl0 := Lib.hid (lit_own w k x 0)
  have hba := Lib.hid ((Below.refl w.heap.size w).alloc (Nat.le_refl _) (.cells #[.int .i64 k, .int .i64 x, .int .i64 0] 86))
  have hsrc := Lib.hid (points_src (cells_below hcell.out hba.out (Nat.le_refl _)))
  have hone := Lib.hid (points_oneCell ns)
  have hls := Lib.hid (show ((k, x, (0 : Int)) :: ns).length = 1 + ns.length by simp; omega)
  clear h
  generalize hm : ns.length = m at *
  replace hm := Lib.hid hm
  go_enter Try.func116, Try.ntmps116
  go_wp2_with (at_builtin; refine wpList_append_own _ rfl _ _ 49 rfl w.heap.size 86 i0 (.agg #[.int .i64 0, .int .i64 0, .int .i64 0]) 3 24 Try.underlying49 hI.out.1 hI.out.2.1 hI.out.2.2.1 hI.out.2.2.2 rfl (by decide) _ _ _ rfl hl0.out ⟨b, o, none⟩ m c (cellsP ns) rfl hlen.out hsrc.out hone.out (by unfold maxLen; omega) (by omega) (by simp) ?_; intro v' w1 hown' hgrow _)
  go_ret
  refine ⟨v', rfl, ?_, ?_⟩
  · have e : ns.length + 1 = 1 + m := by rw [hm.out]; omega
    rw [e]
    exact hown'
  · exact hba.out.grown hgrow (by simp) (fun j hj => (hl0.out.lt j hj).1)

set_option maxHeartbeats 1000000 in
set_option maxRecDepth 100000 in
theorem l10Pair_any (k : Int) (v u : Value) (ns bs : List Pt) (w : World) (h : Points w v ns) (hu : Points w u bs) (hp : 0 < ns.length) (hp' : 0 < bs.length) (hn : ns.length ≤ 1000) (hn' : bs.length ≤ 1000) :
    Calls Try.prog 113 #[.int .i64 k, v, u] w fun e w' => ∃ v', e = .returned v' ∧ w'.ownsRow w.heap.size 86 3 v' ((k, 0, 0) :: (ns ++ bs)).length (cellsP ((k, 0, 0) :: (ns ++ bs))) ∧ Below w.heap.size w w' := by
  obtain ⟨i0, hi, hz0, hz1, hz2⟩ := info_parts info_point
  have hI := Lib.hid (And.intro hi (And.intro hz0 (And.intro hz1 hz2)))
  clear hi hz0 hz1 hz2
  obtain ⟨c, b, o, rfl, hc, hcm, hcell⟩ := h.raw hp
  obtain ⟨c', b', o', rfl, hc', hcm', hcell'⟩ := hu.raw hp'
  have hlen := Lib.hid (cellsP_length ns)
  have hlen' := Lib.hid (cellsP_length bs)
  have hl0 := Lib.hid (lit_own w k 0 0)
  have hba := Lib.hid ((Below.refl w.heap.size w).alloc (Nat.le_refl _) (.cells #[.int .i64 k, .int .i64 0, .int .i64 0] 86))
  have hsrc := Lib.hid (points_src (cells_below hcell.out hba.out (Nat.le_refl _)))
  have hone := Lib.hid (points_oneCell ns)
  have hone' := Lib.hid (points_oneCell bs)
  have hls := Lib.hid (show ((k, (0 : Int), (0 : Int)) :: (ns ++ bs)).length = 1 + ns.length + bs.length by simp; omega)
  clear h hu
  generalize hm : ns.length = m at *
  generalize hm' : bs.length = m' at *
  replace hm := Lib.hid hm
  replace hm' := Lib.hid hm'
  go_enter Try.func113, Try.ntmps113
  go_wp2_with (at_builtin; first
    | (refine wpList_append_own _ rfl _ _ 49 rfl w.heap.size 86 i0 (.agg #[.int .i64 0, .int .i64 0, .int .i64 0]) 3 24 Try.underlying49 hI.out.1 hI.out.2.1 hI.out.2.2.1 hI.out.2.2.2 rfl (by decide) _ _ _ rfl hl0.out ⟨b, o, none⟩ m c (cellsP ns) rfl hlen.out hsrc.out hone.out (by unfold maxLen; omega) (by omega) (by simp) ?_; intro v1 w1 hown1 hgrow1 _; have hb1 := hba.out.grown hgrow1 (by simp) (fun j hj => (hl0.out.lt j hj).1); have hs1 := hb1.size; have hsrc' := Lib.hid (points_src (cells_below hcell'.out hb1 (Nat.le_refl _))); have hown1 := Lib.hid hown1)
    | (refine wpList_append_own _ rfl _ _ 49 rfl w.heap.size 86 i0 (.agg #[.int .i64 0, .int .i64 0, .int .i64 0]) 3 24 Try.underlying49 hI.out.1 hI.out.2.1 hI.out.2.2.1 hI.out.2.2.2 rfl (by decide) _ _ _ rfl (Hid.out ‹Hid (World.ownsRow w1 _ _ _ _ _ _)›) ⟨b', o', none⟩ m' c' (cellsP bs) rfl hlen'.out (Hid.out ‹Hid (∀ j q, (cellsP bs)[j]? = some q → World.cell? w1 _ = some q)›) hone'.out (by unfold maxLen; omega) (by omega) (by omega) ?_; intro v2 w2 hown2 hgrow2 _))
  go_ret
  refine ⟨v2, rfl, ?_, hb1.grown hgrow2 (by omega) (fun j hj => (hown1.out.lt j hj).1)⟩
  have e : (ns ++ bs).length + 1 = 1 + m + m' := by rw [List.length_append, hm.out, hm'.out]; omega
  rw [e, ← List.cons_append, cellsP_append]
  exact hown2

theorem concatP_two (w : World) (k x : Int) (a : Option Addr) (n c : Nat) (ns : List Pt) (t t' : TypeId) (h : Points w (.slice a n c) ns) (hp : 0 < ns.length) (hn : ns.length ≤ 1000) :
    Calls Try.prog 141 #[.slice (some ⟨w.heap.size + 1, 0, none⟩) 2 2] ((w.alloc (.cells #[.int .i64 k, .int .i64 x, .int .i64 0] t)).alloc (.cells #[.slice (some ⟨w.heap.size, 0, none⟩) 1 1, .slice a n c] t')) fun e w' => ∃ v', e = .returned v' ∧ w'.ownsRow w.heap.size 86 3 v' ((k, x, 0) :: ns).length (cellsP ((k, x, 0) :: ns)) ∧ Below w.heap.size w w' := by
  have hb1 := (Below.refl w.heap.size w).alloc (Nat.le_refl _) (.cells #[.int .i64 k, .int .i64 x, .int .i64 0] t)
  have hs := slicesP_two (w.alloc (.cells #[.int .i64 k, .int .i64 x, .int .i64 0] t)) (some ⟨w.heap.size, 0, none⟩) a 1 n 1 c [(k, x, 0)] ns t'
  rw [size_alloc1P] at hs
  have hb2 := (Below.refl (w.heap.size + 1) (w.alloc (.cells #[.int .i64 k, .int .i64 x, .int .i64 0] t))).alloc (by rw [size_alloc1P]; exact Nat.le_refl _) (.cells #[.slice (some ⟨w.heap.size, 0, none⟩) 1 1, .slice a n c] t')
  have hb3 := hb1.trans (hb2.mono (by omega))
  have hz := hb3.size
  have e : catP [(((some ⟨w.heap.size, 0, none⟩, 1, 1) : Option Addr × Nat × Nat), [(k, x, (0 : Int))]), ((a, n, c), ns)] = (k, x, 0) :: ns := by simp [catP]
  refine (concatP_any _ _ _ hs ?_ (by rw [e]; simp) (by rw [e]; simp; omega)).mono ?_
  · intro s hs
    rcases List.mem_cons.1 hs with rfl | hs
    · exact ⟨(lit_points w k x 0 t).below hb2 (by rw [size_alloc1P]; exact Nat.le_refl _), by simp⟩
    · rcases List.mem_cons.1 hs with rfl | hs
      · exact ⟨h.below hb3 (Nat.le_refl _), hp⟩
      · cases hs
  · rintro e' w' ⟨v', rfl, ho, hb⟩
    rw [e] at ho
    exact ⟨v', rfl, own_mono ho hz, hb3.trans (hb.mono hz)⟩
theorem quantified_any (k x : Int) (v : Value) (ns : List Pt) (w : World) (h : Points w v ns) (hp : 0 < ns.length) (hn : ns.length ≤ 1000) :
    Calls Try.prog 140 #[.int .i64 k, .int .i64 x, v] w fun e w' => ∃ v', e = .returned v' ∧ w'.ownsRow w.heap.size 86 3 v' ((k, x, 0) :: ns).length (cellsP ((k, x, 0) :: ns)) ∧ Below w.heap.size w w' := by
  obtain ⟨a, c, rfl⟩ := h.shape
  have hc := Lib.hid (fun t t' => concatP_two w k x a _ c ns t t' h hp hn)
  clear h hp hn
  generalize hL : (k, x, (0 : Int)) :: ns = L at *
  clear hL
  generalize ns.length = n at *
  go_enter Try.func140, Try.ntmps140
  go_wp2_with fail
  refine (hc.out _ _).mono ?_
  rintro e w' ⟨v', rfl, ho, hb⟩
  go_wp2_with fail
  go_ret
  exact ⟨v', rfl, ho, hb⟩

theorem concatP_three (w : World) (k : Int) (a a' : Option Addr) (n c n' c' : Nat) (ns bs : List Pt) (t t' : TypeId) (h : Points w (.slice a n c) ns) (h' : Points w (.slice a' n' c') bs) (hp : 0 < ns.length) (hn : ns.length ≤ 1000) (hp' : 0 < bs.length) (hn' : bs.length ≤ 1000) :
    Calls Try.prog 141 #[.slice (some ⟨w.heap.size + 1, 0, none⟩) 3 3] ((w.alloc (.cells #[.int .i64 k, .int .i64 0, .int .i64 0] t)).alloc (.cells #[.slice (some ⟨w.heap.size, 0, none⟩) 1 1, .slice a n c, .slice a' n' c'] t')) fun e w' => ∃ v', e = .returned v' ∧ w'.ownsRow w.heap.size 86 3 v' ((k, 0, 0) :: (ns ++ bs)).length (cellsP ((k, 0, 0) :: (ns ++ bs))) ∧ Below w.heap.size w w' := by
  have hb1 := (Below.refl w.heap.size w).alloc (Nat.le_refl _) (.cells #[.int .i64 k, .int .i64 0, .int .i64 0] t)
  have hs := slicesP_three (w.alloc (.cells #[.int .i64 k, .int .i64 0, .int .i64 0] t)) (some ⟨w.heap.size, 0, none⟩) a a' 1 n n' 1 c c' [(k, 0, 0)] ns bs t'
  rw [size_alloc1P] at hs
  have hb2 := (Below.refl (w.heap.size + 1) (w.alloc (.cells #[.int .i64 k, .int .i64 0, .int .i64 0] t))).alloc (by rw [size_alloc1P]; exact Nat.le_refl _) (.cells #[.slice (some ⟨w.heap.size, 0, none⟩) 1 1, .slice a n c, .slice a' n' c'] t')
  have hb3 := hb1.trans (hb2.mono (by omega))
  have hz := hb3.size
  have e : catP [(((some ⟨w.heap.size, 0, none⟩, 1, 1) : Option Addr × Nat × Nat), [(k, (0 : Int), (0 : Int))]), ((a, n, c), ns), ((a', n', c'), bs)] = (k, 0, 0) :: (ns ++ bs) := by simp [catP]
  refine (concatP_any _ _ _ hs ?_ (by rw [e]; simp) (by rw [e]; simp; omega)).mono ?_
  · intro s hs
    rcases List.mem_cons.1 hs with rfl | hs
    · exact ⟨(lit_points w k 0 0 t).below hb2 (by rw [size_alloc1P]; exact Nat.le_refl _), by simp⟩
    · rcases List.mem_cons.1 hs with rfl | hs
      · exact ⟨h.below hb3 (Nat.le_refl _), hp⟩
      · rcases List.mem_cons.1 hs with rfl | hs
        · exact ⟨h'.below hb3 (Nat.le_refl _), hp'⟩
        · cases hs
  · rintro e' w' ⟨v', rfl, ho, hb⟩
    rw [e] at ho
    exact ⟨v', rfl, own_mono ho hz, hb3.trans (hb.mono hz)⟩
theorem pointJoin_any (k : Int) (v u : Value) (ns bs : List Pt) (w : World) (h : Points w v ns) (hu : Points w u bs) (hp : 0 < ns.length) (hp' : 0 < bs.length) (hn : ns.length ≤ 1000) (hn' : bs.length ≤ 1000) :
    Calls Try.prog 121 #[.int .i64 k, v, u] w fun e w' => ∃ v', e = .returned v' ∧ w'.ownsRow w.heap.size 86 3 v' ((k, 0, 0) :: (ns ++ bs)).length (cellsP ((k, 0, 0) :: (ns ++ bs))) ∧ Below w.heap.size w w' := by
  obtain ⟨a, c, rfl⟩ := h.shape
  obtain ⟨a', c', rfl⟩ := hu.shape
  have hc := Lib.hid (fun t t' => concatP_three w k a a' _ c _ c' ns bs t t' h hu hp hn hp' hn')
  clear h hp hn hu hp' hn'
  generalize hL : (k, (0 : Int), (0 : Int)) :: (ns ++ bs) = L at *
  clear hL
  generalize ns.length = n at *
  generalize bs.length = n' at *
  go_enter Try.func121, Try.ntmps121
  go_wp2_with fail
  refine (hc.out _ _).mono ?_
  rintro e w' ⟨v', rfl, ho, hb⟩
  go_wp2_with fail
  go_ret
  exact ⟨v', rfl, ho, hb⟩

end Go.Proofs.Ytadinbjhpbomkaa
