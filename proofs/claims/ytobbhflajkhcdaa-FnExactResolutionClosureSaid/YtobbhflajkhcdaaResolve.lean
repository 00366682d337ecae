/- impl.resolve: the resolvent of two clauses on one variable. -/
import Derived.Test.YtobbhflajkhcdaaResSort
namespace Go.Proofs.Ytobbhflajkhcdaa
open Go.RowKit Go.Lib
set_option linter.unusedVariables false

theorem firstAt_at {xs : List Int} {x i : Int} (h : firstAt xs x i) : (i = -1 ∧ decide (x ∈ xs) = false) ∨ ∃ k : Nat, i = k ∧ k < xs.length ∧ xs[k]? = some x ∧ decide (x ∈ xs) = true := by
  rcases h with ⟨rfl, h⟩ | ⟨k, rfl, h, _⟩
  · exact .inl ⟨rfl, by simpa using h⟩
  · exact .inr ⟨k, rfl, (List.getElem?_eq_some_iff.1 h).1, h, by simpa using List.mem_of_getElem? h⟩
set_option maxHeartbeats 4000000 in
set_option maxRecDepth 100000 in
theorem resolve_any (vc vd : Value) (c d : List Int) (k : Nat) (w : World) (hc : Ints w vc c) (hd : Ints w vd d) (cc : clauseB c = true) (cd : clauseB d = true) (hk : k < 6) :
    Calls Try.prog 40 #[vc, vd, .int .i64 (k : Int)] w fun e w' => ∃ v', e = .returned (.tuple #[v', .bool (resOk c d k)]) ∧ Hid (resOk c d k = true → w'.ownsRow w.heap.size 2 1 v' (resL c d k).length ((resL c d k).map (Value.int .i64))) ∧ Below w.heap.size w w' := by
  obtain ⟨i0, hi, hz0, hz1, hz2⟩ := info_parts info_i64
  have hx1 := Lib.hid (fun W (hb : Below w.heap.size w W) => indexI_any vc c (2 * (k : Int)) W (hc.below hb (Nat.le_refl _)))
  have hx2 := Lib.hid (fun W (hb : Below w.heap.size w W) => indexI_any vd d (2 * (k : Int) + 1) W (hd.below hb (Nat.le_refl _)))
  have hlc := clause_len cc
  have hld := clause_len cd
  have hd1 := Lib.hid (fun (i : Nat) (hi : i < c.length) W (hb : Below w.heap.size w W) => dropped_any vc c i W (hc.below hb (Nat.le_refl _)) hi (by omega))
  have hd2 := Lib.hid (fun (i : Nat) (hi : i < d.length) W (hb : Below w.heap.size w W) => dropped_any vd d i W (hd.below hb (Nat.le_refl _)) hi (by omega))
  have hres := Lib.hid (fun (i j : Nat) (hi : c[i]? = some (2 * (k : Int))) (hj : d[j]? = some (2 * (k : Int) + 1)) => res_sorted cc cd hi hj)
  have hok := Lib.hid (show resOk c d k = (decide (2 * (k : Int) ∈ c) && decide (2 * (k : Int) + 1 ∈ d) && clauseB (resL c d k)) from rfl)
  have hb0 := Below.refl w.heap.size w
  have hrl := Lib.hid (resL_len c d k)
  generalize hRL : resL c d k = RL at *
  generalize hRO : resOk c d k = RO at *
  clear hRL hRO hc hd cc cd
  go_enter Try.func40, Try.ntmps40
  go_wp2_with fail
  refine (hx1.out _ hb0).mono ?_
  rintro e w1 ⟨⟨i, rfl, f1⟩, rfl⟩
  have f1 := Lib.hid f1
  go_wp2_with fail
  refine (hx2.out _ hb0).mono ?_
  rintro e w1 ⟨⟨j, rfl, f2⟩, rfl⟩
  rcases firstAt_at f1.out.out with ⟨rfl, m1⟩ | ⟨i, rfl, li, gi, m1⟩
  · have hok2 : RO = false := by rw [hok.out, m1]; rfl
    subst hok2
    clear hok hres
    go_wp2_with fail
    go_ret2
    exact ⟨_, rfl, Lib.hid (fun h => by cases h), hb0⟩
  rcases firstAt_at f2.out with ⟨rfl, m2⟩ | ⟨j, rfl, lj, gj, m2⟩
  · have hok2 : RO = false := by rw [hok.out, m1, m2]; rfl
    subst hok2
    clear hok hres
    go_wp2_with fail
    go_ret2
    exact ⟨_, rfl, Lib.hid (fun h => by cases h), hb0⟩
  have hok2 : RO = clauseB RL := by rw [hok.out, m1, m2]; rfl
  subst hok2
  have hre := Lib.hid (hres.out i j gi gj)
  clear hok hres f1 f2 gi gj m1 m2
  have hlX : (c.take i ++ c.drop (i + 1)).length = c.length - 1 := by simp; omega
  have hlY : (d.take j ++ d.drop (j + 1)).length = d.length - 1 := by simp; omega
  replace hd1 := Lib.hid (hd1.out i li)
  replace hd2 := Lib.hid (hd2.out j lj)
  rw [← hlX] at hd1
  rw [← hlY] at hd2
  generalize c.take i ++ c.drop (i + 1) = XS at *
  generalize d.take j ++ d.drop (j + 1) = YS at *
  replace hlX := Lib.hid hlX
  replace hlY := Lib.hid hlY
  have hsrt := Lib.hid (fun B v W (h : W.ownsRow B 2 1 v (XS ++ YS).length ((XS ++ YS).map (Value.int .i64))) => sortI_any B v (XS ++ YS) W h (by rw [List.length_append, hlX.out, hlY.out]; omega))
  have hsl := Lib.hid (show (sortI (XS ++ YS)).length = (XS ++ YS).length from List.length_mergeSort _)
  have hcmp := Lib.hid (fun B v W (h : W.ownsRow B 2 1 v (sortI (XS ++ YS)).length ((sortI (XS ++ YS)).map (Value.int .i64))) => compactI_any B v (sortI (XS ++ YS)) W h (by rw [hsl.out, List.length_append, hlX.out, hlY.out]; omega))
  rw [hre.out] at hcmp
  have hcl := Lib.hid (fun v W (h : Ints W v RL) => isClause_any v RL W h)
  have hXn : XS.length ≤ 12 := by rw [hlX.out]; omega
  have hYn : YS.length ≤ 12 := by rw [hlY.out]; omega
  clear hre hlX hlY
  go_wp2_with fail
  refine (hd1.out _ hb0).mono ?_
  rintro e w1 ⟨v1, rfl, o1, b1⟩
  go_wp2_with fail
  refine (hd2.out _ b1).mono ?_
  rintro e w2 ⟨v2, rfl, o2, b2⟩
  have o1 := own_below o1 b2 (Nat.le_refl _)
  have hb2 := b1.trans (b2.mono b1.size)
  have hsz := hb2.size
  obtain ⟨_, a1, cp1, bb1, oo1, rfl, hcp1, _, _⟩ := (ints_of_own o1).opened
  replace o1 := Lib.hid o1
  have hXl := Lib.hid (show (XS.map (Value.int .i64)).length = XS.length * 1 by simp)
  have hYl := Lib.hid (show (YS.map (Value.int .i64)).length = YS.length * 1 by simp)
  have hYo := Lib.hid (ints_oneCell YS)
  have hmap := Lib.hid (show XS.map (Value.int .i64) ++ YS.map (Value.int .i64) = (XS ++ YS).map (Value.int .i64) by rw [List.map_append])
  have hlen := Lib.hid (show (XS ++ YS).length = XS.length + YS.length from List.length_append)
  rcases o2.2 with ⟨rfl, y0⟩ | ⟨g2, cp2, cur2, rfl, _, _, _, _, _, _⟩
  · have hY : YS = [] := List.eq_nil_of_length_eq_zero y0
    subst hY
    have own3 := Lib.hid (show w2.ownsRow w.heap.size 2 1 (.slice a1 XS.length cp1) (XS ++ []).length ((XS ++ []).map (Value.int .i64)) by rw [List.append_nil]; exact o1.out)
    have hb3 := Lib.hid hb2
    clear o2 hXl hYl hYo hmap hlen
    go_wp2_with (at_builtin; refine wpList_append_none rfl _ _ 30 rfl 2 i0 Try.underlying30 hi _ _ _ _ rfl rfl hcp1 ?_)
    have hs3 := hb3.out.size
    go_wp2_with fail
    refine (hsrt.out _ _ _ own3.out).mono ?_
    rintro e w4 ⟨rfl, o4, g4⟩
    rw [← hsl.out] at o4
    have b4 := Lib.hid (hb3.out.grown g4 hs3 (fun k hk => (own3.out.lt k hk).1))
    go_wp2_with fail
    refine (hcmp.out _ _ _ o4).mono ?_
    rintro e w5 ⟨v5, rfl, o5, g5⟩
    have b5 := Lib.hid (b4.out.grown g5 b4.out.size (fun k hk => (o4.lt k hk).1))
    have o5 := Lib.hid o5
    clear o4 g4 g5 b4 own3 hb3
    go_wp2_with fail
    refine (hcl.out _ _ (ints_of_own o5.out)).mono ?_
    rintro e w6 ⟨rfl, rfl⟩
    go_wp2_with fail
    go_ret2
    exact ⟨_, rfl, Lib.hid (fun _ => o5.out), b5.out⟩
  · have hYs := Lib.hid (o2.cells (g := g2) rfl)
    replace o2 := Lib.hid o2
    go_wp2_with (at_builtin; refine wpList_append_own _ rfl _ _ 30 rfl w.heap.size 2 i0 (.int .i64 0) 1 8 Try.underlying30 hi hz0 hz1 hz2 rfl (by decide) _ _ _ rfl o1.out ⟨g2, 0, none⟩ _ cp2 (YS.map (Value.int .i64)) rfl hYl.out hYs.out hYo.out (by unfold maxLen; omega) (by omega) hsz ?_; intro v3 w3 hown3 hgrow3 _)
    rw [hmap.out, ← hlen.out] at hown3
    have own3 := Lib.hid hown3
    have hb3 := Lib.hid (hb2.grown hgrow3 hsz (fun k hk => (o1.out.lt k hk).1))
    clear hown3 hgrow3 o2 hYs hXl hYl hYo hmap hlen
    have hs3 := hb3.out.size
    go_wp2_with fail
    refine (hsrt.out _ _ _ own3.out).mono ?_
    rintro e w4 ⟨rfl, o4, g4⟩
    rw [← hsl.out] at o4
    have b4 := Lib.hid (hb3.out.grown g4 hs3 (fun k hk => (own3.out.lt k hk).1))
    go_wp2_with fail
    refine (hcmp.out _ _ _ o4).mono ?_
    rintro e w5 ⟨v5, rfl, o5, g5⟩
    have b5 := Lib.hid (b4.out.grown g5 b4.out.size (fun k hk => (o4.lt k hk).1))
    have o5 := Lib.hid o5
    clear o4 g4 g5 b4 own3 hb3
    go_wp2_with fail
    refine (hcl.out _ _ (ints_of_own o5.out)).mono ?_
    rintro e w6 ⟨rfl, rfl⟩
    go_wp2_with fail
    go_ret2
    exact ⟨_, rfl, Lib.hid (fun _ => o5.out), b5.out⟩
end Go.Proofs.Ytobbhflajkhcdaa
