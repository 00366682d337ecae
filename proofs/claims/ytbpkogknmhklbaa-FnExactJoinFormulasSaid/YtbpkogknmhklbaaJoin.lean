/- Walks of PrefixFormula and JoinFormulas, of the program and of the reference. -/
import Derived.Test.YtbpkogknmhklbaaConcat
import Derived.Test.YtbpkogknmhklbaaPlain
namespace Go.Proofs.Ytbpkogknmhklbaa
open Go.RowKit

theorem lit_nodes (w : World) (k : Int) (t : TypeId) : Nodes (w.alloc (.cells #[.int .i64 k, .int .i64 0] t)) (.slice (some ⟨w.heap.size, 0, none⟩) 1 1) [(k, 0)] :=
  nodes_of_own (e := t) (World.ownsRow_lit (e := t) (base := w.heap.size) (size := 2) w #[.int .i64 k, .int .i64 0] 1 (Nat.le_refl _) (by simp [maxLen]) rfl)

theorem slices_three (w : World) (a a' a'' : Option Addr) (n n' n'' c c' c'' : Nat) (ns ns' ns'' : List Nd) (t : TypeId) : Slices (w.alloc (.cells #[.slice a n c, .slice a' n' c', .slice a'' n'' c''] t)) (.slice (some ⟨w.heap.size, 0, none⟩) 3 3) [((a, n, c), ns), ((a', n', c'), ns'), ((a'', n'', c''), ns'')] := by
  refine ⟨rfl, by show 3 ≤ maxLen; unfold maxLen; omega, _, 3, w.heap.size, 0, rfl, by show 3 ≤ 3; omega, fun _ => rfl, fun i u hu => ?_⟩
  rw [World.cell?_alloc_at _ _ _ _ rfl]
  match i, hu with
  | 0, hu => simpa [slV] using hu
  | 1, hu => simpa [slV] using hu
  | 2, hu => simpa [slV] using hu
  | i + 3, hu => simp at hu

theorem size_alloc1 (w : World) (o : Obj) : (w.alloc o).heap.size = w.heap.size + 1 := by simp

theorem concat_two (w : World) (k : Int) (a : Option Addr) (n c : Nat) (ns : List Nd) (t t' : TypeId) (h : Nodes w (.slice a n c) ns) (hp : 0 < ns.length) (hn : ns.length ≤ 1000) :
    Calls Try.prog 85 #[.slice (some ⟨w.heap.size + 1, 0, none⟩) 2 2] ((w.alloc (.cells #[.int .i64 k, .int .i64 0] t)).alloc (.cells #[.slice (some ⟨w.heap.size, 0, none⟩) 1 1, .slice a n c] t')) fun e w' => ∃ v', e = .returned v' ∧ w'.ownsRow w.heap.size 51 2 v' (ns.length + 1) (cellsN ((k, 0) :: ns)) ∧ Below w.heap.size w w' := by
  have hb1 := (Below.refl w.heap.size w).alloc (Nat.le_refl _) (.cells #[.int .i64 k, .int .i64 0] t)
  have hs := slices_two (w.alloc (.cells #[.int .i64 k, .int .i64 0] t)) (some ⟨w.heap.size, 0, none⟩) a 1 n 1 c [(k, 0)] ns t'
  rw [size_alloc1] at hs
  have hb2 := (Below.refl (w.heap.size + 1) (w.alloc (.cells #[.int .i64 k, .int .i64 0] t))).alloc (by rw [size_alloc1]; exact Nat.le_refl _) (.cells #[.slice (some ⟨w.heap.size, 0, none⟩) 1 1, .slice a n c] t')
  have hb3 := hb1.trans (hb2.mono (by omega))
  have hz := hb3.size
  have e : catL [(((some ⟨w.heap.size, 0, none⟩, 1, 1) : Option Addr × Nat × Nat), [(k, (0 : Int))]), ((a, n, c), ns)] = (k, 0) :: ns := by simp [catL]
  have el : ((k, (0 : Int)) :: ns).length = ns.length + 1 := rfl
  refine (concat_any _ _ _ hs ?_ (by rw [e]; simp) (by rw [e, el]; omega)).mono ?_
  · intro s hs
    rcases List.mem_cons.1 hs with rfl | hs
    · exact ⟨(lit_nodes w k t).below hb2 (by rw [size_alloc1]; exact Nat.le_refl _), by simp⟩
    · rcases List.mem_cons.1 hs with rfl | hs
      · exact ⟨h.below hb3 (Nat.le_refl _), hp⟩
      · cases hs
  · rintro e' w' ⟨v', rfl, ho, hb⟩
    rw [e, el] at ho
    exact ⟨v', rfl, own_mono ho hz, hb3.trans (hb.mono hz)⟩

theorem prefix_any (k : Int) (v : Value) (ns : List Nd) (w : World) (h : Nodes w v ns) (hp : 0 < ns.length) (hn : ns.length ≤ 1000) :
    Calls Try.prog 57 #[.int .i64 k, v] w fun e w' => ∃ v', e = .returned v' ∧ w'.ownsRow w.heap.size 51 2 v' (ns.length + 1) (cellsN ((k, 0) :: ns)) ∧ Below w.heap.size w w' := by
  obtain ⟨a, c, rfl⟩ := h.shape
  have hc := Lib.hid (fun t t' => concat_two w k a _ c ns t t' h hp hn)
  clear h hp hn
  generalize ns.length = n at *
  go_enter Try.func57, Try.ntmps57
  go_wp2_with fail
  refine (hc.out _ _).mono ?_
  rintro e w' ⟨v', rfl, ho, hb⟩
  go_wp2_with fail
  go_ret
  exact ⟨v', rfl, ho, hb⟩

theorem limited_ok (a : Option Addr) (n c : Nat) (w : World) (hn : n ≤ 40) :
    Calls Try.prog 56 #[.slice a n c] w fun e w' => e = .returned (.tuple #[.slice a n c, .int .i64 0]) ∧ w = w' := by
  go_enter Try.func56, Try.ntmps56
  go_wp2_with fail
  go_ret2
  exact ⟨rfl, rfl⟩
theorem limited_no (a : Option Addr) (n c : Nat) (w : World) (hn : 40 < n) (hm : n ≤ 1000) :
    Calls Try.prog 56 #[.slice a n c] w fun e w' => e = .returned (.tuple #[.slice none 0 0, .int .i64 3]) ∧ w = w' := by
  go_enter Try.func56, Try.ntmps56
  go_wp2_with fail
  go_ret2
  exact ⟨rfl, rfl⟩
theorem l02Made_ok (a : Option Addr) (n c : Nat) (w : World) (hn : n ≤ 40) :
    Calls Try.prog 53 #[.slice a n c] w fun e w' => e = .returned (.tuple #[.slice a n c, .int .i64 0]) ∧ w = w' := by
  go_enter Try.func53, Try.ntmps53
  go_wp2_with fail
  go_ret2
  exact ⟨rfl, rfl⟩
theorem l02Made_no (a : Option Addr) (n c : Nat) (w : World) (hn : 40 < n) (hm : n ≤ 1000) :
    Calls Try.prog 53 #[.slice a n c] w fun e w' => e = .returned (.tuple #[.slice none 0 0, .int .i64 3]) ∧ w = w' := by
  go_enter Try.func53, Try.ntmps53
  go_wp2_with fail
  go_ret2
  exact ⟨rfl, rfl⟩

def prefCode (k : Int) (ns : List Nd) : Int := if formB ns then (if ar k = 1 then (if ns.length + 1 ≤ 40 then 0 else 3) else 2) else 1
def prefR (k : Int) (ns : List Nd) : List Nd := if prefCode k ns = 0 then (k, 0) :: ns else []
theorem pref_cases (k : Int) (ns : List Nd) : (formB ns = false ∧ prefCode k ns = 1 ∧ prefR k ns = []) ∨ (formB ns = true ∧ ¬ ar k = 1 ∧ prefCode k ns = 2 ∧ prefR k ns = []) ∨
    (formB ns = true ∧ ar k = 1 ∧ 40 < ns.length + 1 ∧ prefCode k ns = 3 ∧ prefR k ns = []) ∨ (formB ns = true ∧ ar k = 1 ∧ ns.length + 1 ≤ 40 ∧ prefCode k ns = 0 ∧ prefR k ns = (k, 0) :: ns) := by
  unfold prefR prefCode
  cases formB ns <;> by_cases h1 : ar k = 1 <;> by_cases h2 : ns.length + 1 ≤ 40 <;> simp [h1, h2] <;> omega
theorem prefR_length (k : Int) (ns : List Nd) : (prefR k ns).length ≤ 64 := by
  rcases pref_cases k ns with h | h | h | h
  · rw [h.2.2]; simp
  · rw [h.2.2.2]; simp
  · rw [h.2.2.2.2]; simp
  · rw [h.2.2.2.2, List.length_cons]; omega
theorem form_len2 {ns : List Nd} (h : formB ns = true) : 0 < ns.length ∧ ns.length ≤ 40 := by
  simp only [formB, Bool.and_eq_true, decide_eq_true_eq] at h; omega
theorem ar_one_iff (k : Int) : ar k = 1 ↔ (k = 5 ∨ k = 6) := by
  constructor
  · intro h; rcases ar_cases k with rfl | rfl | rfl | rfl | rfl | h' <;> first | (simp [ar] at h; done) | omega | (rw [ar_none h'] at h; cases h)
  · exact fun h => ar_one h

set_option maxHeartbeats 1000000 in
theorem implPrefixFormula_any (k : Int) (v : Value) (ns : List Nd) (w : World) (h : Nodes w v ns) :
    Calls Try.prog 31 #[.int .i64 k, v] w fun e w' => ∃ v', e = .returned (.tuple #[v', .int .i64 (prefCode k ns)]) ∧ w'.ownsRow w.heap.size 51 2 v' (prefR k ns).length (cellsN (prefR k ns)) ∧ Below w.heap.size w w' := by
  have hv := Lib.hid h
  clear h
  rcases pref_cases k ns with ⟨h1, h2, h3⟩ | ⟨h1, h2, h3, h4⟩ | ⟨h1, h2, hl, h3, h4⟩ | ⟨h1, h2, hl, h3, h4⟩
  · have hf := Lib.hid h1
    have h2 := Lib.hid h2
    have h3 := Lib.hid h3
    go_enter Try.func31, Try.ntmps31
    go_wp2_with fail
    refine (isFormula_any _ ns _ hv.out).mono ?_
    rintro e w1 ⟨rfl, hb1⟩
    rw [hf.out]
    go_wp2_with fail
    go_ret2
    exact ⟨_, by rw [h2.out]; rfl, by rw [h3.out]; exact World.ownsRow_nil _ _ _ _, hb1⟩
  · have hne : ((ar k : Int) != 1) = true := by simp; omega
    have hf := Lib.hid h1
    have h3 := Lib.hid h3
    have h4 := Lib.hid h4
    clear h1 h2
    go_enter Try.func31, Try.ntmps31
    go_wp2_with fail
    refine (isFormula_any _ ns _ hv.out).mono ?_
    rintro e w1 ⟨rfl, hb1⟩
    rw [hf.out]
    go_wp2_with fail
    refine (partsOf_any _ _).mono ?_
    rintro e w2 ⟨rfl, rfl⟩
    go_wp2_with fail
    go_ret2
    exact ⟨_, by rw [h3.out]; rfl, by rw [h4.out]; exact World.ownsRow_nil _ _ _ _, hb1⟩
  all_goals
    have hne : ((ar k : Int) != 1) = false := by simp; omega
    obtain ⟨hp0, hp1⟩ := form_len2 h1
    have hf := Lib.hid h1
    have h3 := Lib.hid h3
    have h4 := Lib.hid h4
    clear h1 h2
    go_enter Try.func31, Try.ntmps31
    go_wp2_with fail
    refine (isFormula_any _ ns _ hv.out).mono ?_
    rintro e w1 ⟨rfl, hb1⟩
    have hs1 := hb1.size
    rw [hf.out]
    go_wp2_with fail
    refine (partsOf_any _ _).mono ?_
    rintro e w2 ⟨rfl, rfl⟩
    go_wp2_with fail
    refine (prefix_any _ _ ns _ (hv.out.below hb1 (Nat.le_refl _)) hp0 (by omega)).mono ?_
    rintro e w2 ⟨v', rfl, ho, hb2⟩
    have hb3 := hb1.trans (hb2.mono hs1)
    obtain ⟨a', c', hsh⟩ := (nodes_of_own (ns := (k, 0) :: ns) ho).shape
    have hl1 : ((k, (0 : Int)) :: ns).length = ns.length + 1 := rfl
    rw [hl1] at hsh
    subst hsh
    have ho := Lib.hid (own_mono ho hs1)
    clear hl1
    have h4 := Lib.hid h4
    generalize hN : ns.length + 1 = N at *
    have hN := Lib.hid hN
    go_wp2_with fail
    first
      | refine (limited_no _ _ _ _ hl (by omega)).mono ?_
      | refine (limited_ok _ _ _ _ hl).mono ?_
    rintro e w3 ⟨rfl, rfl⟩
    go_wp2_with fail
    go_ret2
    first
      | exact ⟨_, by rw [h3.out]; rfl, by rw [h4.out.out]; exact World.ownsRow_nil _ _ _ _, hb3⟩
      | exact ⟨_, by rw [h3.out]; rfl, by rw [h4.out.out, List.length_cons, hN.out]; exact ho.out, hb3⟩

set_option maxHeartbeats 1000000 in
theorem specPrefixFormula_any (k : Int) (v : Value) (ns : List Nd) (w : World) (h : Nodes w v ns) :
    Calls Try.prog 30 #[.int .i64 k, v] w fun e w' => ∃ v', e = .returned (.tuple #[v', .int .i64 (prefCode k ns)]) ∧ w'.ownsRow w.heap.size 51 2 v' (prefR k ns).length (cellsN (prefR k ns)) ∧ Below w.heap.size w w' := by
  have hv := Lib.hid h
  clear h
  rcases pref_cases k ns with ⟨h1, h2, h3⟩ | ⟨h1, h2, h3, h4⟩ | ⟨h1, h2, hl, h3, h4⟩ | ⟨h1, h2, hl, h3, h4⟩
  · have hf := Lib.hid h1
    have h2 := Lib.hid h2
    have h3 := Lib.hid h3
    go_enter Try.func30, Try.ntmps30
    go_wp2_with fail
    refine (l02Is_any _ ns _ hv.out).mono ?_
    rintro e w1 ⟨rfl, rfl⟩
    rw [hf.out]
    go_wp2_with fail
    go_ret2
    exact ⟨_, by rw [h2.out]; rfl, by rw [h3.out]; exact World.ownsRow_nil _ _ _ _, Below.refl _ _⟩
  · have hn5 : (k != 5) = true := by rw [bne_iff_ne]; exact fun h => h2 ((ar_one_iff k).2 (.inl h))
    have hn6 : (k != 6) = true := by rw [bne_iff_ne]; exact fun h => h2 ((ar_one_iff k).2 (.inr h))
    have hf := Lib.hid h1
    have h3 := Lib.hid h3
    have h4 := Lib.hid h4
    clear h1 h2
    go_enter Try.func30, Try.ntmps30
    go_wp2_with fail
    refine (l02Is_any _ ns _ hv.out).mono ?_
    rintro e w1 ⟨rfl, rfl⟩
    rw [hf.out]
    go_wp2_with fail
    go_ret2
    exact ⟨_, by rw [h3.out]; rfl, by rw [h4.out]; exact World.ownsRow_nil _ _ _ _, Below.refl _ _⟩
  all_goals
    obtain ⟨hp0, hp1⟩ := form_len2 h1
    have hf := Lib.hid h1
    have h3 := Lib.hid h3
    have h4 := Lib.hid h4
    have hk := (ar_one_iff k).1 h2
    clear h1 h2
    rcases hk with rfl | rfl
    all_goals
      go_enter Try.func30, Try.ntmps30
      go_wp2_with fail
      refine (l02Is_any _ ns _ hv.out).mono ?_
      rintro e w1 ⟨rfl, rfl⟩
      rw [hf.out]
      go_wp2_with fail
      refine (l02Pre_any _ _ ns _ hv.out hp0 (by omega)).mono ?_
      rintro e w2 ⟨v', rfl, ho, hb3⟩
      obtain ⟨a', c', hsh⟩ := (nodes_of_own ho).shape
      rw [List.length_cons] at hsh ho
      subst hsh
      have ho := Lib.hid ho
      have h4 := Lib.hid h4
      generalize hN : ns.length + 1 = N at *
      have hN := Lib.hid hN
      go_wp2_with fail
      first
        | refine (l02Made_no _ _ _ _ hl (by omega)).mono ?_
        | refine (l02Made_ok _ _ _ _ hl).mono ?_
      rintro e w3 ⟨rfl, rfl⟩
      go_wp2_with fail
      go_ret2
      first
        | exact ⟨_, by rw [h3.out]; rfl, by rw [h4.out.out]; exact World.ownsRow_nil _ _ _ _, hb3⟩
        | exact ⟨_, by rw [h3.out]; rfl, by rw [h4.out.out, List.length_cons, hN.out]; exact ho.out, hb3⟩
end Go.Proofs.Ytbpkogknmhklbaa
