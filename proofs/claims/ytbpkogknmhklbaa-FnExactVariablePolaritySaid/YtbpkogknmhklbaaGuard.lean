/- Walks of IsGuarded, of the program and of the reference. -/
import Derived.Test.YtbpkogknmhklbaaLists
import Derived.Test.YtbpkogknmhklbaaPlain
namespace Go.Proofs.Ytbpkogknmhklbaa
open Go.RowKit Go.Deep

/-- Whether all nodes of a variable are below modalities. -/
def guardT (u : Int) : Tr → Bool
  | .nil => true
  | .node _ _ n l r => modalB n.1 || (!(decide (n.1 = 0) && decide (n.2 = u)) && (guardT u l && guardT u r))

def codeV (ns : List Nd) (u : Int) : Int := if formB ns then (if inR u 0 5 then 0 else 2) else 1
def guardR (ns : List Nd) (u : Int) : Bool := if codeV ns u = 0 then guardT u (treeOf ns) else false
def flats (ts : List Tr) : List Nd := ts.flatMap flat
def guards (u : Int) (ts : List Tr) : Bool := ts.all (guardT u)

theorem codeV_cases (ns : List Nd) (u : Int) : (formB ns = false ∧ codeV ns u = 1) ∨ (formB ns = true ∧ inR u 0 5 = false ∧ codeV ns u = 2) ∨ (formB ns = true ∧ inR u 0 5 = true ∧ codeV ns u = 0) := by
  unfold codeV
  cases formB ns <;> cases inR u 0 5 <;> simp

/-- The next node of a list of trees: a variable's own, another leaf, a modality, a join. -/
theorem flats_next {ns : List Nd} {i : Nat} {ts : List Tr} (u : Int) (h : ns.drop i = flats ts) (ht : ∀ t ∈ ts, okT t) (hi : i < ns.length) :
    ∃ x y, ns[i]? = some (x, y) ∧
      ((ar x = 0 ∧ ∃ ts', ns.drop (i + 1) = flats ts' ∧ (∀ t ∈ ts', okT t) ∧ guards u ts = (!(decide (x = 0) && decide (y = u)) && guards u ts')) ∨
       (ar x = 1 ∧ ∃ m ts', partEndL ns i = ((i + 1 + m : Nat) : Int) ∧ i + 1 + m ≤ ns.length ∧ ns.drop (i + 1 + m) = flats ts' ∧ (∀ t ∈ ts', okT t) ∧ guards u ts = guards u ts') ∨
       (ar x = 2 ∧ ∃ ts', ns.drop (i + 1) = flats ts' ∧ (∀ t ∈ ts', okT t) ∧ guards u ts = guards u ts')) := by
  cases ts with
  | nil =>
    exfalso
    have h1 := congrArg List.length h
    simp [flats] at h1
    omega
  | cons t ts =>
    have hok := ht t (by simp)
    have hoks : ∀ t ∈ ts, okT t := fun t h => ht t (by simp [h])
    cases t with
    | nil => exact hok.elim
    | node b o n l r =>
      obtain ⟨x, y⟩ := n
      have hd : ns.drop i = (x, y) :: (flat l ++ flat r ++ flats ts) := by rw [h]; simp [flats, flat]
      have hx : ns[i]? = some (x, y) := by
        have := congrArg (fun l => l[0]?) hd
        simpa [List.getElem?_drop] using this
      have hd1 : ns.drop (i + 1) = flat l ++ flat r ++ flats ts := by
        rw [← List.drop_drop, hd, List.drop_one, List.tail_cons]
      refine ⟨x, y, hx, ?_⟩
      rcases hok with ⟨h1, rfl, rfl⟩ | ⟨h1, h2, rfl⟩ | ⟨h1, h2, h3⟩
      · refine .inl ⟨h1, ts, by rw [hd1]; simp [flat], hoks, ?_⟩
        have hm : modalB x = false := modal_no (by rcases ar_cases x with rfl | rfl | rfl | rfl | rfl | h' <;> first | omega | (simp [ar] at h1))
        simp [guards, guardT, hm]
      · refine .inr (.inl ⟨h1, (flat l).length, ts, ?_, ?_, ?_, hoks, ?_⟩)
        · have hs := skip_flat (.node b o (x, y) l .nil) (.inr (.inl ⟨h1, h2, rfl⟩)) (flats ts) 0
          have he : ns.drop i = flat (.node b o (x, y) l .nil) ++ flats ts := by rw [hd]; simp [flat]
          rw [skip_zero, ← he] at hs
          unfold partEndL
          rw [hs]
          have hl := congrArg List.length hd
          simp [flat] at hl
          show (ns.length : Int) - ((flats ts).length : Nat) = _
          omega
        · have hl := congrArg List.length hd
          simp [flat] at hl
          omega
        · rw [← List.drop_drop, hd1]
          simp [flat]
        · have hm : modalB x = true := modal_yes (by rcases ar_cases x with rfl | rfl | rfl | rfl | rfl | h' <;> first | omega | (simp [ar] at h1; done) | (rw [ar_none h'] at h1; cases h1))
          simp [guards, guardT, hm]
      · refine .inr (.inr ⟨h1, l :: r :: ts, by rw [hd1]; simp [flats], ?_, ?_⟩)
        · intro t ht'
          rcases List.mem_cons.1 ht' with rfl | ht'
          · exact h2
          · rcases List.mem_cons.1 ht' with rfl | ht'
            · exact h3
            · exact hoks t ht'
        · have hm : modalB x = false := modal_no (by rcases ar_cases x with rfl | rfl | rfl | rfl | rfl | h' <;> first | omega | (simp [ar] at h1))
          have hx0 : x ≠ 0 := by rintro rfl; simp [ar] at h1
          simp [guards, guardT, hm, hx0, Bool.and_assoc]

set_option maxHeartbeats 1600000 in
theorem l03Guarded_any (u : Int) (v : Value) (ns : List Nd) (w : World) (h : Nodes w v ns) (hf : formB ns = true) :
    Calls Try.prog 50 #[v, .int .i64 u] w fun e w' => e = .returned (.bool (guardT u (treeOf ns))) ∧ w = w' := by
  have hv := Lib.hid h
  obtain ⟨hp0, hp1⟩ : 0 < ns.length ∧ ns.length ≤ 40 := by simp only [formB, Bool.and_eq_true, decide_eq_true_eq] at hf; omega
  obtain ⟨hok, hfl⟩ := treeOf_spec hf
  generalize treeOf ns = t0 at *
  obtain ⟨hm, a, c, b, o, rfl, hc, h0, hcell⟩ := h.opened
  clear h hm hf
  obtain rfl : a = some ⟨b, o, none⟩ := by rcases h0 with h0 | ⟨_, h0⟩; · omega
                                           exact h0
  clear h0
  have hst := Lib.hid (show ∃ ts : List Tr, ns.drop 0 = flats ts ∧ (∀ t ∈ ts, okT t) ∧ guardT u t0 = guards u ts from ⟨[t0], by simp [flats, hfl], by simpa using hok, by simp [guards]⟩)
  clear hfl
  go_enter Try.func50, Try.ntmps50
  go_wp2_with fail
  go_loop [5] (fun i => ∃ k : Nat, k ≤ ns.length ∧ i = .int .i64 k ∧ Hid (∃ ts : List Tr, ns.drop k = flats ts ∧ (∀ t ∈ ts, okT t) ∧ guardT u t0 = guards u ts)) (fun i => ns.length - (intOf i).toNat)
  case atStart => exact ⟨0, Nat.zero_le _, rfl, hst.out⟩
  case round =>
    obtain ⟨k, hk, rfl, hrelk⟩ := hrel
    by_cases hlt : k < ns.length
    · obtain ⟨ts, hd, hts, hgu0⟩ := hrelk.out
      obtain ⟨x, y, hx, hcx, hcy⟩ := hcell.out k hlt
      obtain ⟨x', y', hx', hcase⟩ := flats_next u hd hts hlt
      obtain ⟨rfl, rfl⟩ : x = x' ∧ y = y' := by rw [hx] at hx'; simpa using hx'
      have hgu := Lib.hid hgu0
      clear hgu0 hd hts hx hx'
      rcases hcase with ⟨h1, ts', hd', hts', hg'⟩ | ⟨h1, m, ts', hpe, hpl, hd', hts', hg'⟩ | ⟨h1, ts', hd', hts', hg'⟩
      · have hne : ((ar x : Int) == 1) = false := by rw [h1]; rfl
        by_cases hx0 : x = 0
        · subst hx0
          by_cases hyu : y = u
          · subst hyu
            have hfin := Lib.hid (show guardT y t0 = false by rw [hgu.out, hg']; simp)
            clear h1 hne hd' hts' hg'
            go_wp2_with fail
            go_ret
            exact ⟨ret_bool hfin.out.symm, rfl⟩
          · have hyf : (y == u) = false := by rw [beq_eq_false_iff_ne]; exact hyu
            have hnx := Lib.hid (show ∃ ts : List Tr, ns.drop (k + 1) = flats ts ∧ (∀ t ∈ ts, okT t) ∧ guardT u t0 = guards u ts from ⟨ts', hd', hts', by rw [hgu.out, hg']; simp [hyu]⟩)
            clear h1 hd' hts' hg' hyu
            go_wp2_with fail
            refine (l02Parts_any _ _).mono ?_
            rintro e w' ⟨rfl, rfl⟩
            go_wp2_with fail
            go_round
            case rel => exact ⟨k + 1, by omega, by go_num, hnx.out⟩
            case measure => simp [intOf]; omega
        · have hxf : (x == 0) = false := by rw [beq_eq_false_iff_ne]; exact hx0
          have hnx := Lib.hid (show ∃ ts : List Tr, ns.drop (k + 1) = flats ts ∧ (∀ t ∈ ts, okT t) ∧ guardT u t0 = guards u ts from ⟨ts', hd', hts', by rw [hgu.out, hg']; simp [hx0]⟩)
          clear h1 hd' hts' hg' hx0
          go_wp2_with fail
          refine (l02Parts_any _ _).mono ?_
          rintro e w' ⟨rfl, rfl⟩
          go_wp2_with fail
          go_round
          case rel => exact ⟨k + 1, by omega, by go_num, hnx.out⟩
          case measure => simp [intOf]; omega
      · have hne : ((ar x : Int) == 1) = true := by rw [h1]; rfl
        have hxf : (x == 0) = false := by rw [beq_eq_false_iff_ne]; rintro rfl; simp [ar] at h1
        have hnx := Lib.hid (show ∃ ts : List Tr, ns.drop (k + 1 + m) = flats ts ∧ (∀ t ∈ ts, okT t) ∧ guardT u t0 = guards u ts from ⟨ts', hd', hts', by rw [hgu.out, hg']⟩)
        have hpe := Lib.hid hpe
        clear h1 hd' hts' hg'
        go_wp2_with fail
        refine (l02Parts_any _ _).mono ?_
        rintro e w' ⟨rfl, rfl⟩
        go_wp2_with fail
        refine (l02Part_any _ ns _ _ hv.out (by omega) (by omega) (by omega)).mono ?_
        rintro e w' ⟨rfl, rfl⟩
        rw [Int.toNat_natCast, hpe.out]
        go_wp2_with fail
        go_round
        case rel => exact ⟨k + 1 + m, by omega, by go_num, hnx.out⟩
        case measure => simp [intOf]; omega
      · have hne : ((ar x : Int) == 1) = false := by rw [h1]; rfl
        have hxf : (x == 0) = false := by rw [beq_eq_false_iff_ne]; rintro rfl; simp [ar] at h1
        have hnx := Lib.hid (show ∃ ts : List Tr, ns.drop (k + 1) = flats ts ∧ (∀ t ∈ ts, okT t) ∧ guardT u t0 = guards u ts from ⟨ts', hd', hts', by rw [hgu.out, hg']⟩)
        clear h1 hd' hts' hg'
        go_wp2_with fail
        refine (l02Parts_any _ _).mono ?_
        rintro e w' ⟨rfl, rfl⟩
        go_wp2_with fail
        go_round
        case rel => exact ⟨k + 1, by omega, by go_num, hnx.out⟩
        case measure => simp [intOf]; omega
    · have hfin := Lib.hid (show guardT u t0 = true by
        obtain ⟨ts, hd, hts, hgu⟩ := hrelk.out
        rw [List.drop_eq_nil_of_le (by omega)] at hd
        cases ts with
        | nil => rw [hgu]; rfl
        | cons t ts =>
          exfalso
          have h1 := congrArg List.length hd
          have h2 := flat_pos t (hts t (by simp))
          simp [flats] at h1
          omega)
      obtain rfl : k = ns.length := by omega
      clear hrelk
      go_wp2_with fail
      go_ret
      exact ⟨ret_bool hfin.out.symm, rfl⟩

theorem l03Code_any (v : Value) (ns : List Nd) (u : Int) (w : World) (h : Nodes w v ns) :
    Calls Try.prog 49 #[v, .int .i64 u] w fun e w' => e = .returned (.int .i64 (codeV ns u)) ∧ w = w' := by
  have hv := Lib.hid h
  clear h
  rcases codeV_cases ns u with ⟨h1, h2⟩ | ⟨h1, h2, h3⟩ | ⟨h1, h2, h3⟩
  · have hf := Lib.hid h1
    have hc := Lib.hid h2
    clear h1 h2
    go_enter Try.func49, Try.ntmps49
    go_wp2_with fail
    refine (l02Is_any _ ns _ hv.out).mono ?_
    rintro e w1 ⟨rfl, rfl⟩
    rw [hf.out]
    go_wp2_with fail
    go_ret
    exact ⟨ret_int hc.out.symm, rfl⟩
  all_goals
    have hf := Lib.hid h1
    have hi := Lib.hid h2
    have hc := Lib.hid h3
    clear h1 h2 h3
    go_enter Try.func49, Try.ntmps49
    go_wp2_with fail
    refine (l02Is_any _ ns _ hv.out).mono ?_
    rintro e w1 ⟨rfl, rfl⟩
    rw [hf.out]
    go_wp2_with fail
    refine (l01In_any _ _ _ _).mono ?_
    rintro e w1 ⟨rfl, rfl⟩
    rw [hi.out]
    go_wp2_with fail
    go_ret
    exact ⟨ret_int hc.out.symm, rfl⟩

theorem specIsGuarded_same (v : Value) (ns : List Nd) (u : Int) (w : World) (h : Nodes w v ns) :
    Calls Try.prog 28 #[v, .int .i64 u] w fun e w' => e = .returned (.tuple #[.bool (guardR ns u), .int .i64 (codeV ns u)]) ∧ w = w' := by
  have hv := Lib.hid h
  clear h
  have hcode := Lib.hid (l03Code_any v ns u w hv.out)
  by_cases h0 : codeV ns u = 0
  · have hf : formB ns = true := by rcases codeV_cases ns u with h | h | h <;> first | exact h.1 | (exfalso; omega)
    have hr := Lib.hid (show guardR ns u = guardT u (treeOf ns) by simp [guardR, h0])
    have hg := Lib.hid (l03Guarded_any u v ns w hv.out hf)
    have hc := Lib.hid h0
    clear h0 hf
    go_enter Try.func28, Try.ntmps28
    go_wp2_with fail
    refine hcode.out.mono ?_
    rintro e w1 ⟨rfl, rfl⟩
    rw [hc.out]
    go_wp2_with fail
    refine hg.out.mono ?_
    rintro e w1 ⟨rfl, rfl⟩
    go_wp2_with fail
    go_ret2
    exact ⟨by rw [hr.out, hc.out]; rfl, rfl⟩
  · have hr := Lib.hid (show guardR ns u = false by simp [guardR, h0])
    have hne : (codeV ns u != 0) = true := by simpa using h0
    clear h0
    go_enter Try.func28, Try.ntmps28
    go_wp2_with fail
    refine hcode.out.mono ?_
    rintro e w1 ⟨rfl, rfl⟩
    go_wp2_with fail
    go_ret2
    exact ⟨by rw [hr.out]; rfl, rfl⟩

theorem variableCode_any (v : Value) (ns : List Nd) (u : Int) (w : World) (h : Nodes w v ns) :
    Calls Try.prog 51 #[v, .int .i64 u] w fun e w' => e = .returned (.int .i64 (codeV ns u)) ∧ Below w.heap.size w w' := by
  have hv := Lib.hid h
  clear h
  rcases codeV_cases ns u with ⟨h1, h2⟩ | ⟨h1, h2, h3⟩ | ⟨h1, h2, h3⟩
  · have hf := Lib.hid h1
    have hc := Lib.hid h2
    clear h1 h2
    go_enter Try.func51, Try.ntmps51
    go_wp2_with fail
    refine (isFormula_any _ ns _ hv.out).mono ?_
    rintro e w1 ⟨rfl, hb⟩
    rw [hf.out]
    go_wp2_with fail
    go_ret
    exact ⟨ret_int hc.out.symm, hb⟩
  all_goals
    have hf := Lib.hid h1
    have hi := Lib.hid h2
    have hc := Lib.hid h3
    clear h1 h2 h3
    go_enter Try.func51, Try.ntmps51
    go_wp2_with fail
    refine (isFormula_any _ ns _ hv.out).mono ?_
    rintro e w1 ⟨rfl, hb⟩
    rw [hf.out]
    go_wp2_with fail
    refine (isVariable_any _ _).mono ?_
    rintro e w1 ⟨rfl, rfl⟩
    rw [hi.out]
    go_wp2_with fail
    go_ret
    exact ⟨ret_int hc.out.symm, hb⟩
end Go.Proofs.Ytbpkogknmhklbaa
