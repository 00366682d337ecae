/- Walks of JoinFormulas, of the program and of the reference. -/
import Derived.Test.YtbpkogknmhklbaaJoin
namespace Go.Proofs.Ytbpkogknmhklbaa
open Go.RowKit

set_option maxHeartbeats 1000000 in
theorem l02Pair_any (k : Int) (v u : Value) (ns bs : List Nd) (w : World) (h : Nodes w v ns) (hu : Nodes w u bs) (hp : 0 < ns.length) (hp' : 0 < bs.length) (hn : ns.length ≤ 1000) (hn' : bs.length ≤ 1000) :
    Calls Try.prog 59 #[.int .i64 k, v, u] w fun e w' => ∃ v', e = .returned v' ∧ w'.ownsRow w.heap.size 51 2 v' (1 + ns.length + bs.length) (cellsN ((k, 0) :: ns ++ bs)) ∧ Below w.heap.size w w' := by
  obtain ⟨i0, hi, hz0, hz1, hz2⟩ := info_parts info_node
  obtain ⟨c, b, o, rfl, hc, hcm, hcell⟩ := h.raw hp
  obtain ⟨c', b', o', rfl, hc', hcm', hcell'⟩ := hu.raw hp'
  have hlen := Lib.hid (cellsN_length ns)
  have hlen' := Lib.hid (cellsN_length bs)
  have hl0 := Lib.hid (World.ownsRow_lit (e := 51) (base := w.heap.size) (size := 2) w #[.int .i64 k, .int .i64 0] 1 (Nat.le_refl _) (by simp [maxLen]) rfl)
  have hba := Lib.hid ((Below.refl w.heap.size w).alloc (Nat.le_refl _) (.cells #[.int .i64 k, .int .i64 0] 51))
  have hsrc := Lib.hid (nodes_src (cells_below hcell.out hba.out (Nat.le_refl _)))
  have hone := Lib.hid (nodes_oneCell ns)
  have hone' := Lib.hid (nodes_oneCell bs)
  clear h hu
  generalize hm : ns.length = m at *
  generalize hm' : bs.length = m' at *
  have hm := Lib.hid hm
  have hm' := Lib.hid hm'
  go_enter Try.func59, Try.ntmps59
  go_wp2_with (at_builtin; first
    | (refine wpList_append_own _ rfl _ _ 25 rfl w.heap.size 51 i0 (.agg #[.int .i64 0, .int .i64 0]) 2 16 Try.underlying25 hi hz0 hz1 hz2 rfl (by decide) _ _ _ rfl hl0.out ⟨b, o, none⟩ m c (cellsN ns) rfl hlen.out hsrc.out hone.out (by unfold maxLen; omega) (by omega) (by simp) ?_; intro v1 w1 hown1 hgrow1 _; have hb1 := hba.out.grown hgrow1 (by simp) (fun j hj => (hl0.out.lt j hj).1); have hs1 := hb1.size; have hsrc' := Lib.hid (nodes_src (cells_below hcell'.out hb1 (Nat.le_refl _))); have hown1 := Lib.hid hown1)
    | (refine wpList_append_own _ rfl _ _ 25 rfl w.heap.size 51 i0 (.agg #[.int .i64 0, .int .i64 0]) 2 16 Try.underlying25 hi hz0 hz1 hz2 rfl (by decide) _ _ _ rfl (Hid.out ‹Hid (World.ownsRow w1 _ _ _ _ _ _)›) ⟨b', o', none⟩ m' c' (cellsN bs) rfl hlen'.out (Hid.out ‹Hid (∀ j q, (cellsN bs)[j]? = some q → World.cell? w1 _ = some q)›) hone'.out (by unfold maxLen; omega) (by omega) (by omega) ?_; intro v2 w2 hown2 hgrow2 _))
  go_ret
  refine ⟨v2, rfl, ?_, hb1.grown hgrow2 (by omega) (fun j hj => (hown1.out.lt j hj).1)⟩
  rw [← List.cons_append, cellsN_append]
  exact hown2

theorem concat_three (w : World) (k : Int) (a a' : Option Addr) (n c n' c' : Nat) (ns bs : List Nd) (t t' : TypeId) (h : Nodes w (.slice a n c) ns) (h' : Nodes w (.slice a' n' c') bs) (hp : 0 < ns.length) (hn : ns.length ≤ 1000) (hp' : 0 < bs.length) (hn' : bs.length ≤ 1000) :
    Calls Try.prog 85 #[.slice (some ⟨w.heap.size + 1, 0, none⟩) 3 3] ((w.alloc (.cells #[.int .i64 k, .int .i64 0] t)).alloc (.cells #[.slice (some ⟨w.heap.size, 0, none⟩) 1 1, .slice a n c, .slice a' n' c'] t')) fun e w' => ∃ v', e = .returned v' ∧ w'.ownsRow w.heap.size 51 2 v' (1 + ns.length + bs.length) (cellsN ((k, 0) :: ns ++ bs)) ∧ Below w.heap.size w w' := by
  have hb1 := (Below.refl w.heap.size w).alloc (Nat.le_refl _) (.cells #[.int .i64 k, .int .i64 0] t)
  have hs := slices_three (w.alloc (.cells #[.int .i64 k, .int .i64 0] t)) (some ⟨w.heap.size, 0, none⟩) a a' 1 n n' 1 c c' [(k, 0)] ns bs t'
  rw [size_alloc1] at hs
  have hb2 := (Below.refl (w.heap.size + 1) (w.alloc (.cells #[.int .i64 k, .int .i64 0] t))).alloc (by rw [size_alloc1]; exact Nat.le_refl _) (.cells #[.slice (some ⟨w.heap.size, 0, none⟩) 1 1, .slice a n c, .slice a' n' c'] t')
  have hb3 := hb1.trans (hb2.mono (by omega))
  have hz := hb3.size
  have e : catL [(((some ⟨w.heap.size, 0, none⟩, 1, 1) : Option Addr × Nat × Nat), [(k, (0 : Int))]), ((a, n, c), ns), ((a', n', c'), bs)] = (k, 0) :: ns ++ bs := by simp [catL]
  have el : ((k, (0 : Int)) :: ns ++ bs).length = 1 + ns.length + bs.length := by simp; omega
  refine (concat_any _ _ _ hs ?_ (by rw [e, el]; omega) (by rw [e, el]; omega)).mono ?_
  · intro s hs
    rcases List.mem_cons.1 hs with rfl | hs
    · exact ⟨(lit_nodes w k t).below hb2 (by rw [size_alloc1]; exact Nat.le_refl _), by simp⟩
    · rcases List.mem_cons.1 hs with rfl | hs
      · exact ⟨h.below hb3 (Nat.le_refl _), hp⟩
      · rcases List.mem_cons.1 hs with rfl | hs
        · exact ⟨h'.below hb3 (Nat.le_refl _), hp'⟩
        · cases hs
  · rintro e' w' ⟨v', rfl, ho, hb⟩
    rw [e, el] at ho
    exact ⟨v', rfl, own_mono ho hz, hb3.trans (hb.mono hz)⟩

theorem join_any (k : Int) (v u : Value) (ns bs : List Nd) (w : World) (h : Nodes w v ns) (hu : Nodes w u bs) (hp : 0 < ns.length) (hp' : 0 < bs.length) (hn : ns.length ≤ 1000) (hn' : bs.length ≤ 1000) :
    Calls Try.prog 61 #[.int .i64 k, v, u] w fun e w' => ∃ v', e = .returned v' ∧ w'.ownsRow w.heap.size 51 2 v' (1 + ns.length + bs.length) (cellsN ((k, 0) :: ns ++ bs)) ∧ Below w.heap.size w w' := by
  obtain ⟨a, c, rfl⟩ := h.shape
  obtain ⟨a', c', rfl⟩ := hu.shape
  have hc := Lib.hid (fun t t' => concat_three w k a a' _ c _ c' ns bs t t' h hu hp hn hp' hn')
  clear h hp hn hu hp' hn'
  generalize ns.length = n at *
  generalize bs.length = n' at *
  go_enter Try.func61, Try.ntmps61
  go_wp2_with fail
  refine (hc.out _ _).mono ?_
  rintro e w' ⟨v', rfl, ho, hb⟩
  go_wp2_with fail
  go_ret
  exact ⟨v', rfl, ho, hb⟩

def joinCode (k : Int) (ns bs : List Nd) : Int := if (formB ns && formB bs) then (if ar k = 2 then (if 1 + ns.length + bs.length ≤ 40 then 0 else 3) else 2) else 1
def joinR (k : Int) (ns bs : List Nd) : List Nd := if joinCode k ns bs = 0 then (k, 0) :: ns ++ bs else []
theorem join_cases (k : Int) (ns bs : List Nd) : ((formB ns && formB bs) = false ∧ joinCode k ns bs = 1 ∧ joinR k ns bs = []) ∨ ((formB ns && formB bs) = true ∧ ¬ ar k = 2 ∧ joinCode k ns bs = 2 ∧ joinR k ns bs = []) ∨
    ((formB ns && formB bs) = true ∧ ar k = 2 ∧ 40 < 1 + ns.length + bs.length ∧ joinCode k ns bs = 3 ∧ joinR k ns bs = []) ∨ ((formB ns && formB bs) = true ∧ ar k = 2 ∧ 1 + ns.length + bs.length ≤ 40 ∧ joinCode k ns bs = 0 ∧ joinR k ns bs = (k, 0) :: ns ++ bs) := by
  unfold joinR joinCode
  cases (formB ns && formB bs) <;> by_cases h1 : ar k = 2 <;> by_cases h2 : 1 + ns.length + bs.length ≤ 40 <;> simp [h1, h2] <;> omega
theorem join_len (k : Int) (ns bs : List Nd) : ((k, (0 : Int)) :: ns ++ bs).length = 1 + ns.length + bs.length := by simp; omega
theorem joinR_length (k : Int) (ns bs : List Nd) : (joinR k ns bs).length ≤ 64 := by
  rcases join_cases k ns bs with h | h | h | h
  · rw [h.2.2]; simp
  · rw [h.2.2.2]; simp
  · rw [h.2.2.2.2]; simp
  · rw [h.2.2.2.2, join_len]; omega
theorem ar_two_iff (k : Int) : ar k = 2 ↔ inR k 2 4 = true := by
  rw [inR_iff]
  constructor
  · intro h; rcases ar_cases k with rfl | rfl | rfl | rfl | rfl | h' <;> first | omega | (simp [ar] at h; done) | (rw [ar_none h'] at h; cases h)
  · exact fun h => ar_two (by omega)

set_option maxHeartbeats 1000000 in
theorem implJoinFormulas_any (k : Int) (v : Value) (ns : List Nd) (u : Value) (bs : List Nd) (w : World) (h : Nodes w v ns) (hu : Nodes w u bs) :
    Calls Try.prog 34 #[.int .i64 k, v, u] w fun e w' => ∃ v', e = .returned (.tuple #[v', .int .i64 (joinCode k ns bs)]) ∧ w'.ownsRow w.heap.size 51 2 v' (joinR k ns bs).length (cellsN (joinR k ns bs)) ∧ Below w.heap.size w w' := by
  obtain ⟨a, c, rfl⟩ := h.shape
  obtain ⟨a', c', rfl⟩ := hu.shape
  have hv := Lib.hid h
  have hu := Lib.hid hu
  clear h
  have hare := Lib.hid (fun t : TypeId => areFormulas_two w a a' _ _ c c' ns bs t hv.out hu.out)
  rcases join_cases k ns bs with ⟨h1, h2, h3⟩ | ⟨h1, h2, h3, h4⟩ | ⟨h1, h2, hl, h3, h4⟩ | ⟨h1, h2, hl, h3, h4⟩
  · have hf := Lib.hid h1
    have h2 := Lib.hid h2
    have h3 := Lib.hid h3
    clear h1
    generalize ns.length = n at *
    generalize bs.length = n' at *
    go_enter Try.func34, Try.ntmps34
    go_wp2_with fail
    refine (hare.out _).mono ?_
    rintro e w1 ⟨rfl, hb1⟩
    rw [hf.out]
    go_wp2_with fail
    go_ret2
    exact ⟨_, by rw [h2.out]; rfl, by rw [h3.out]; exact World.ownsRow_nil _ _ _ _, hb1⟩
  · have hne : ((ar k : Int) != 2) = true := by simp; omega
    have hf := Lib.hid h1
    have h3 := Lib.hid h3
    have h4 := Lib.hid h4
    clear h1 h2
    generalize ns.length = n at *
    generalize bs.length = n' at *
    go_enter Try.func34, Try.ntmps34
    go_wp2_with fail
    refine (hare.out _).mono ?_
    rintro e w1 ⟨rfl, hb1⟩
    rw [hf.out]
    go_wp2_with fail
    refine (partsOf_any _ _).mono ?_
    rintro e w2 ⟨rfl, rfl⟩
    go_wp2_with fail
    go_ret2
    exact ⟨_, by rw [h3.out]; rfl, by rw [h4.out]; exact World.ownsRow_nil _ _ _ _, hb1⟩
  all_goals
    have hne : ((ar k : Int) != 2) = false := by simp; omega
    have h1' := (Bool.and_eq_true _ _).mp h1
    obtain ⟨hp0, hp1⟩ := form_len2 h1'.1
    obtain ⟨hq0, hq1⟩ := form_len2 h1'.2
    have hj := Lib.hid (fun w1 (hb : Below w.heap.size w w1) => join_any k _ _ ns bs w1 (hv.out.below hb (Nat.le_refl _)) (hu.out.below hb (Nat.le_refl _)) hp0 hq0 (by omega) (by omega))
    have hjl := Lib.hid (join_len k ns bs)
    have hf := Lib.hid h1
    have h3 := Lib.hid h3
    have h4 := Lib.hid h4
    clear h1 h2 h1'
    generalize ns.length = n at *
    generalize bs.length = n' at *
    go_enter Try.func34, Try.ntmps34
    go_wp2_with fail
    refine (hare.out _).mono ?_
    rintro e w1 ⟨rfl, hb1⟩
    have hs1 := hb1.size
    rw [hf.out]
    go_wp2_with fail
    refine (partsOf_any _ _).mono ?_
    rintro e w2 ⟨rfl, rfl⟩
    go_wp2_with fail
    refine (hj.out _ hb1).mono ?_
    rintro e w2 ⟨v', rfl, ho, hb2⟩
    have hb3 := hb1.trans (hb2.mono hs1)
    obtain ⟨a1, c1, hsh⟩ := (nodes_of_own ho).shape
    rw [hjl.out] at hsh
    subst hsh
    have ho := Lib.hid (own_mono ho hs1)
    have h4 := Lib.hid h4
    have hN1000 : 1 + n + n' ≤ 1000 := by omega
    generalize 1 + n + n' = N at *
    go_wp2_with fail
    first
      | refine (limited_no _ _ _ _ hl (by omega)).mono ?_
      | refine (limited_ok _ _ _ _ hl).mono ?_
    rintro e w3 ⟨rfl, rfl⟩
    go_wp2_with fail
    go_ret2
    first
      | exact ⟨_, by rw [h3.out]; rfl, by rw [h4.out.out]; exact World.ownsRow_nil _ _ _ _, hb3⟩
      | exact ⟨_, by rw [h3.out]; rfl, by rw [h4.out.out, hjl.out]; exact ho.out, hb3⟩

set_option maxHeartbeats 1000000 in
theorem specJoinFormulas_any (k : Int) (v : Value) (ns : List Nd) (u : Value) (bs : List Nd) (w : World) (h : Nodes w v ns) (hu : Nodes w u bs) :
    Calls Try.prog 33 #[.int .i64 k, v, u] w fun e w' => ∃ v', e = .returned (.tuple #[v', .int .i64 (joinCode k ns bs)]) ∧ w'.ownsRow w.heap.size 51 2 v' (joinR k ns bs).length (cellsN (joinR k ns bs)) ∧ Below w.heap.size w w' := by
  have hv := Lib.hid h
  have hu := Lib.hid hu
  clear h
  have hia := Lib.hid (l02Is_any v ns w hv.out)
  have hib := Lib.hid (l02Is_any u bs w hu.out)
  rcases join_cases k ns bs with ⟨h1, h2, h3⟩ | ⟨h1, h2, h3, h4⟩ | ⟨h1, h2, hl, h3, h4⟩ | ⟨h1, h2, hl, h3, h4⟩
  · have h2 := Lib.hid h2
    have h3 := Lib.hid h3
    cases hB : formB ns
    · have hf := Lib.hid hB
      clear h1
      go_enter Try.func33, Try.ntmps33
      go_wp2_with fail
      refine hia.out.mono ?_
      rintro e w1 ⟨rfl, rfl⟩
      rw [hf.out]
      go_wp2_with fail
      go_ret2
      exact ⟨_, by rw [h2.out]; rfl, by rw [h3.out]; exact World.ownsRow_nil _ _ _ _, Below.refl _ _⟩
    · have hf := Lib.hid hB
      have hg := Lib.hid (show formB bs = false by rw [hB] at h1; simpa using h1)
      clear h1
      go_enter Try.func33, Try.ntmps33
      go_wp2_with fail
      refine hia.out.mono ?_
      rintro e w1 ⟨rfl, rfl⟩
      rw [hf.out]
      go_wp2_with fail
      refine hib.out.mono ?_
      rintro e w1 ⟨rfl, rfl⟩
      rw [hg.out]
      go_wp2_with fail
      go_ret2
      exact ⟨_, by rw [h2.out]; rfl, by rw [h3.out]; exact World.ownsRow_nil _ _ _ _, Below.refl _ _⟩
  · have hne : inR k 2 4 = false := by rw [Bool.eq_false_iff]; exact fun h => h2 ((ar_two_iff k).2 h)
    have h1' := (Bool.and_eq_true _ _).mp h1
    have hf := Lib.hid h1'.1
    have hg := Lib.hid h1'.2
    have hne := Lib.hid hne
    have h3 := Lib.hid h3
    have h4 := Lib.hid h4
    clear h1 h2 h1'
    go_enter Try.func33, Try.ntmps33
    go_wp2_with fail
    refine hia.out.mono ?_
    rintro e w1 ⟨rfl, rfl⟩
    rw [hf.out]
    go_wp2_with fail
    refine hib.out.mono ?_
    rintro e w1 ⟨rfl, rfl⟩
    rw [hg.out]
    go_wp2_with fail
    refine (l01In_any _ _ _ _).mono ?_
    rintro e w1 ⟨rfl, rfl⟩
    rw [hne.out]
    go_wp2_with fail
    go_ret2
    exact ⟨_, by rw [h3.out]; rfl, by rw [h4.out]; exact World.ownsRow_nil _ _ _ _, Below.refl _ _⟩
  all_goals
    have hne := Lib.hid ((ar_two_iff k).1 h2)
    have h1' := (Bool.and_eq_true _ _).mp h1
    have hf := Lib.hid h1'.1
    have hg := Lib.hid h1'.2
    obtain ⟨hp0, hp1⟩ := form_len2 h1'.1
    obtain ⟨hq0, hq1⟩ := form_len2 h1'.2
    have hj := Lib.hid (l02Pair_any k _ _ ns bs w hv.out hu.out hp0 hq0 (by omega) (by omega))
    have hjl := Lib.hid (join_len k ns bs)
    have h3 := Lib.hid h3
    have h4 := Lib.hid h4
    clear h1 h2 h1'
    go_enter Try.func33, Try.ntmps33
    go_wp2_with fail
    refine hia.out.mono ?_
    rintro e w1 ⟨rfl, rfl⟩
    rw [hf.out]
    go_wp2_with fail
    refine hib.out.mono ?_
    rintro e w1 ⟨rfl, rfl⟩
    rw [hg.out]
    go_wp2_with fail
    refine (l01In_any _ _ _ _).mono ?_
    rintro e w1 ⟨rfl, rfl⟩
    rw [hne.out]
    go_wp2_with fail
    refine hj.out.mono ?_
    rintro e w2 ⟨v', rfl, ho, hb3⟩
    obtain ⟨a1, c1, hsh⟩ := (nodes_of_own ho).shape
    rw [hjl.out] at hsh
    subst hsh
    have ho := Lib.hid ho
    have h4 := Lib.hid h4
    have hN1000 : 1 + ns.length + bs.length ≤ 1000 := by omega
    generalize 1 + ns.length + bs.length = N at *
    go_wp2_with fail
    first
      | refine (l02Made_no _ _ _ _ hl (by omega)).mono ?_
      | refine (l02Made_ok _ _ _ _ hl).mono ?_
    rintro e w3 ⟨rfl, rfl⟩
    go_wp2_with fail
    go_ret2
    first
      | exact ⟨_, by rw [h3.out]; rfl, by rw [h4.out.out]; exact World.ownsRow_nil _ _ _ _, hb3⟩
      | exact ⟨_, by rw [h3.out]; rfl, by rw [h4.out.out, hjl.out]; exact ho.out, hb3⟩
end Go.Proofs.Ytbpkogknmhklbaa
