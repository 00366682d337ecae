/- spec.l04Resolve: the resolvent of two clauses on one variable, by a look at every literal. -/
import Derived.Test.YtobbhflajkhcdaaResList
namespace Go.Proofs.Ytobbhflajkhcdaa
open Go.RowKit Go.Lib
set_option linter.unusedVariables false

def resP (c d : List Int) (v l : Int) : Bool := decide (l / 2 ≠ v) && (decide (l ∈ c) || decide (l ∈ d))
def resT (c d : List Int) (v : Int) (k : Nat) : List Int := (lits12.take k).filter (resP c d v)
theorem resT_all (c d : List Int) (v : Int) : resT c d v 12 = resL c d v := by
  unfold resT
  rw [List.take_of_length_le (by simp [lits12])]
  rfl
theorem resT_succ (c d : List Int) (v : Int) (k : Nat) (hk : k < 12) : resT c d v (k + 1) = resT c d v k ++ (if resP c d v (k : Int) then [(k : Int)] else []) := by
  unfold resT
  have h1 : lits12[k]? = some (k : Int) := by simp [lits12, hk]
  rw [List.take_add_one, h1, List.filter_append]
  by_cases h : resP c d v (k : Int) = true <;> simp [h]
theorem resT_len (c d : List Int) (v : Int) (k : Nat) : (resT c d v k).length ≤ 12 := by
  have h1 := List.length_filter_le (resP c d v) (lits12.take k)
  have h2 : (lits12.take k).length ≤ 12 := by rw [List.length_take]; simp [lits12]; omega
  unfold resT
  omega
set_option maxHeartbeats 8000000 in
set_option maxRecDepth 100000 in
theorem l04Resolve_any (vc vd : Value) (c d : List Int) (k : Nat) (w : World) (hc : Ints w vc c) (hd : Ints w vd d) (hk : k < 6) :
    Calls Try.prog 27 #[vc, vd, .int .i64 (k : Int)] w fun e w' => ∃ v', e = .returned (.tuple #[v', .bool (resOk c d k)]) ∧ Hid (resOk c d k = true → w'.ownsRow w.heap.size 2 1 v' (resL c d k).length ((resL c d k).map (Value.int .i64))) ∧ Below w.heap.size w w' := by
  obtain ⟨i0, hi, hz0, hz1, hz2⟩ := info_parts info_i64
  have hx1 := Lib.hid (fun x W (hb : Below w.heap.size w W) => l01Has_any vc c x W (hc.below hb (Nat.le_refl _)))
  have hx2 := Lib.hid (fun x W (hb : Below w.heap.size w W) => l01Has_any vd d x W (hd.below hb (Nat.le_refl _)))
  have hok := Lib.hid (show resOk c d k = (decide (2 * (k : Int) ∈ c) && decide (2 * (k : Int) + 1 ∈ d) && clauseB (resL c d k)) from rfl)
  have hcl := Lib.hid (fun v W (h : Ints W v (resL c d k)) => specIsClause_any v (resL c d k) W h)
  have hsuc := Lib.hid (fun (l : Nat) (hl : l < 12) => resT_succ c d k l hl)
  have htl := Lib.hid (fun (l : Nat) => resT_len c d k l)
  have hall := Lib.hid (resT_all c d k)
  have hP := Lib.hid (fun (l : Nat) => show resP c d k (l : Int) = (decide ((l : Int) / 2 ≠ (k : Int)) && (decide ((l : Int) ∈ c) || decide ((l : Int) ∈ d))) from rfl)
  have hb0 := Below.refl w.heap.size w
  have hl0 := Lib.hid (World.ownsRow_lit (e := 2) (base := w.heap.size) (size := 1) w #[] 0 (Nat.le_refl _) (by simp [maxLen]) rfl)
  have hba := Lib.hid ((Below.refl w.heap.size w).alloc (Nat.le_refl _) (.cells #[] 2))
  have hT0 := Lib.hid (show resT c d k 0 = [] from rfl)
  generalize resL c d k = RL at *
  generalize resOk c d k = RO at *
  generalize resT c d k = T at *
  generalize resP c d k = P9 at *
  clear hc hd
  go_enter Try.func27, Try.ntmps27
  go_wp2_with fail
  refine (hx1.out _ _ hb0).mono ?_
  rintro e w1 ⟨rfl, rfl⟩
  cases m1 : decide (2 * (k : Int) ∈ c)
  · have hok2 : RO = false := by rw [hok.out, m1]; rfl
    subst hok2
    clear hok m1
    go_wp2_with fail
    go_ret2
    exact ⟨_, rfl, Lib.hid (fun h => by cases h), hb0⟩
  go_wp2_with fail
  refine (hx2.out _ _ hb0).mono ?_
  rintro e w1 ⟨rfl, rfl⟩
  cases m2 : decide (2 * (k : Int) + 1 ∈ d)
  · have hok2 : RO = false := by rw [hok.out, m1, m2]; rfl
    subst hok2
    clear hok m1 m2
    go_wp2_with fail
    go_ret2
    exact ⟨_, rfl, Lib.hid (fun h => by cases h), hb0⟩
  have hok2 : RO = clauseB RL := by rw [hok.out, m1, m2]; rfl
  subst hok2
  clear hok m1 m2
  go_wp2_with fail
  go_loopw [8, 9] (fun v i wr => ∃ l : Nat, l ≤ 12 ∧ i = .int .i64 l ∧ Hid (wr.ownsRow w.heap.size 2 1 v (T l).length ((T l).map (Value.int .i64))) ∧ Below w.heap.size w wr) (fun _ i _ => 12 - (intOf i).toNat)
  case atStart => exact ⟨0, by omega, rfl, Lib.hid (by rw [hT0.out]; exact hl0.out), hba.out⟩
  case round =>
    clear hl0 hba
    obtain ⟨l, hl, rfl, ho, hb⟩ := hrel
    by_cases hlt : l < 12
    · have hli : (l : Int) < 12 := by omega
      have hq : IntKind.i64.wrap ((l : Int).tdiv 2) = (l : Int) / 2 := by rw [Int.tdiv_eq_ediv_of_nonneg (by omega), IntKind.wrap_i64]; omega
      have b3 := Lib.hid (hb.alloc hb.size (.cells #[.int .i64 (l : Int)] 2))
      have ho3 := Lib.hid (own_below ho.out ((Below.refl wr.heap.size wr).alloc (Nat.le_refl _) (.cells #[.int .i64 (l : Int)] 2)) (Nat.le_refl _))
      have hnew := Lib.hid (cell_one_new wr (.int .i64 (l : Int)) 2)
      have hks := b3.out.size
      have hTl := htl.out l
      have hz := hb.size
      by_cases hv : (l : Int) / 2 = k
      · have hs1 := Lib.hid (show T (l + 1) = T l by rw [hsuc.out l hlt, hP.out, decide_eq_false (by simpa using hv)]; simp)
        go_wp2_with fail
        go_roundw
        case rel => exact ⟨l + 1, by omega, by go_num, by rw [hs1.out]; exact ho, hb⟩
        case measure => simp [intOf]; omega
      · replace hv : (l : Int) / 2 ≠ k := hv
        go_wp2_with fail
        refine (hx1.out _ _ hb).mono ?_
        rintro e w1 ⟨rfl, rfl⟩
        cases n1 : decide ((l : Int) ∈ c)
        · go_wp2_with fail
          refine (hx2.out _ _ hb).mono ?_
          rintro e w1 ⟨rfl, rfl⟩
          cases n2 : decide ((l : Int) ∈ d)
          · have hs1 := Lib.hid (show T (l + 1) = T l by rw [hsuc.out l hlt, hP.out, decide_eq_true hv, n1, n2]; simp)
            clear n1 n2
            go_wp2_with fail
            go_roundw
            case rel => exact ⟨l + 1, by omega, by go_num, by rw [hs1.out]; exact ho, hb⟩
            case measure => simp [intOf]; omega
          · have hs1 := Lib.hid (show T (l + 1) = T l ++ [(l : Int)] by rw [hsuc.out l hlt, hP.out, decide_eq_true hv, n1, n2]; rfl)
            clear n1 n2 hsuc hP
            go_wp2_with (at_builtin; refine wpList_append_own_at _ rfl _ _ 30 rfl w.heap.size 2 i0 (.int .i64 0) 1 8 Try.underlying30 hi hz0 hz1 hz2 rfl (by decide) _ (T l).length ((T l).map (Value.int .i64)) rfl ho3.out ⟨wr.heap.size, 0, none⟩ 1 1 [.int .i64 (l : Int)] rfl rfl hnew.out (by simp [Value.oneCell']) (by unfold maxLen; omega) (by omega) hks ?_; intro v3 w3 hown3 hgrow3 _ _)
            go_roundw
            case rel =>
              refine ⟨l + 1, by omega, by go_num, Lib.hid ?_, b3.out.grown hgrow3 hks (fun j hj => (ho3.out.lt j hj).1)⟩
              rw [hs1.out, List.length_append, List.map_append]
              exact hown3
            case measure => simp [intOf]; omega
        · have hs1 := Lib.hid (show T (l + 1) = T l ++ [(l : Int)] by rw [hsuc.out l hlt, hP.out, decide_eq_true hv, n1]; rfl)
          clear n1 hsuc hP
          go_wp2_with (at_builtin; refine wpList_append_own_at _ rfl _ _ 30 rfl w.heap.size 2 i0 (.int .i64 0) 1 8 Try.underlying30 hi hz0 hz1 hz2 rfl (by decide) _ (T l).length ((T l).map (Value.int .i64)) rfl ho3.out ⟨wr.heap.size, 0, none⟩ 1 1 [.int .i64 (l : Int)] rfl rfl hnew.out (by simp [Value.oneCell']) (by unfold maxLen; omega) (by omega) hks ?_; intro v3 w3 hown3 hgrow3 _ _)
          go_roundw
          case rel =>
            refine ⟨l + 1, by omega, by go_num, Lib.hid ?_, b3.out.grown hgrow3 hks (fun j hj => (ho3.out.lt j hj).1)⟩
            rw [hs1.out, List.length_append, List.map_append]
            exact hown3
          case measure => simp [intOf]; omega
    · obtain rfl : l = 12 := by omega
      rw [hall.out] at ho
      go_wp2_with fail
      refine (hcl.out _ _ (ints_of_own ho.out)).mono ?_
      rintro e w2 ⟨rfl, b2⟩
      have o2 := Lib.hid (own_below ho.out b2 (Nat.le_refl _))
      go_wp2_with fail
      go_ret2
      exact ⟨_, rfl, Lib.hid (fun _ => o2.out), keep_step b2 hb⟩
end Go.Proofs.Ytobbhflajkhcdaa
