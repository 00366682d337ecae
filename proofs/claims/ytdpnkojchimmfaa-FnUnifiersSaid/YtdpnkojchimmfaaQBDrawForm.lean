/- What the laws draw out of a code: formulas, of which only the length is wanted. -/
import Derived.Test.YtdpnkojchimmfaaQBDrawTwoM
import Derived.Test.YtdpnkojchimmfaaQBReplTwo
import Derived.Test.YtdpnkojchimmfaaQBCompareM

namespace Go.Proofs.Ytdpnkojchimmfaa
open Go.RowKit Go.Deep
set_option linter.unusedVariables false

theorem Turned.of_below {lo hi K : Nat} {w w' : World} (h : Below K w w') (hk : w.heap.size ≤ K) : Turned lo hi w w' := ⟨h.os, h.tape, h.output, h.size, fun k hk' _ => h.block k (by omega)⟩
/-- Nodes in new memory, at most m of them. -/
structure Made (K : Nat) (w : World) (v : Value) (ns : List Nd) (m : Int) : Prop where
  own : w.ownsRow K 41 2 v ns.length (cellsN ns)
  pos : 0 < ns.length
  le : (ns.length : Int) ≤ m
theorem Made.turned {K b : Nat} {w w' : World} {v : Value} {ns : List Nd} {m : Int} (h : Made K w v ns m) (ht : Turned b (b + 1) w w') (hb : b < K) : Made K w' v ns m :=
  ⟨row_same h.own fun k _ hB hlt => ht.block k hlt (.inr (by omega)), h.pos, h.le⟩
theorem Made.below {K : Nat} {w w' : World} {v : Value} {ns : List Nd} {m : Int} (h : Made K w v ns m) (hb : Below w.heap.size w w') : Made K w' v ns m := ⟨own_below h.own hb (Nat.le_refl _), h.pos, h.le⟩
theorem Made.mono {K K' : Nat} {w : World} {v : Value} {ns : List Nd} {m m' : Int} (h : Made K w v ns m) (hk : K' ≤ K) (hm : m ≤ m') : Made K' w v ns m' := ⟨own_mono h.own hk, h.pos, Int.le_trans h.le hm⟩

theorem l02VarG_any (i : Int) (w : World) :
    Calls Try.prog 52 #[.int .i64 i] w fun e w' => ∃ v, e = .returned v ∧ w'.ownsRow w.heap.size 41 2 v 1 (cellsN [(0, i)]) ∧ Below w.heap.size w w' := by
  have hl0 := Lib.hid (World.ownsRow_lit (e := 41) (base := w.heap.size) (size := 2) w #[.int .i64 0, .int .i64 i] 1 (Nat.le_refl _) (by simp [maxLen]) rfl)
  go_enter Try.func52, Try.ntmps52
  go_wp2_with fail
  go_ret
  exact ⟨_, rfl, hl0.out, (Below.refl w.heap.size w).alloc (Nat.le_refl _) _⟩

theorem l02VarH_any (i : Int) (w : World) :
    Calls Try.prog 52 #[.int .i64 i] w fun e w' => e = .returned (.slice (some ⟨w.heap.size, 0, none⟩) 1 1) ∧ w'.ownsRow w.heap.size 41 2 (.slice (some ⟨w.heap.size, 0, none⟩) 1 1) 1 (cellsN [(0, i)]) ∧ Below w.heap.size w w' := by
  have hl0 := Lib.hid (World.ownsRow_lit (e := 41) (base := w.heap.size) (size := 2) w #[.int .i64 0, .int .i64 i] 1 (Nat.le_refl _) (by simp [maxLen]) rfl)
  go_enter Try.func52, Try.ntmps52
  go_wp2_with fail
  go_ret
  exact ⟨rfl, hl0.out, (Below.refl _ _).alloc (Nat.le_refl _) _⟩

set_option maxHeartbeats 4000000 in
theorem l02Draw_any (w0 : World) (b : Nat) (cv : Value) (zs : List Int) (vars : Int) (hB : Bytes w0 cv zs) (hL : zs.length ≤ 4096) (hv1 : 1 ≤ vars) (hv2 : vars ≤ 6) :
    ∀ (N : Nat) (n : Int), 1 ≤ n → n ≤ N → n ≤ 100 → ∀ w : World, St w0 b cv zs.length w →
    Calls Try.prog 53 #[.pointer (some ⟨b, 0, none⟩), .int .i64 n, .int .i64 vars, .bool true] w fun e w' => (∃ v ns, e = .returned v ∧ Hid (Made w.heap.size w' v ns n)) ∧ Hid (St w0 b cv zs.length w') ∧ Hid (Turned b (b + 1) w w') := by
  intro N
  induction N with
  | zero => intro n h1 h2; omega
  | succ N ih =>
    intro n h1 hN h100 w hs
    have hnext := Lib.hid (fun (k : Int) (W : World) (hW : St w0 b cv zs.length W) (k1 : 1 ≤ k) (k2 : k ≤ 9223372036854775807) => l01Next_any w0 b cv zs k W hB hW k1 k2 hL)
    have ih := Lib.hid (fun (m : Int) (m1 : 1 ≤ m) (m2 : m < n) (W : World) (hW : St w0 b cv zs.length W) => ih m m1 (by omega) (by omega) W hW)
    have hbl := hs.lt
    have hs := Lib.hid hs
    clear hB hN
    have hvi : vars ≤ 9223372036854775807 := by omega
    by_cases hn : n ≤ 2
    · have hn2 : ¬ ((2 : Int) < n) := by omega
      clear hn
      go_enter Try.func53, Try.ntmps53
      go_wp2_with fail
      refine (hnext.out 8 _ hs.out (by omega) (by omega)).mono ?_
      rintro e w2 ⟨⟨y, rfl, y0, y1⟩, hs2, t2⟩
      have hz2 := t2.size
      have hs2 := Lib.hid hs2
      have t2 := Lib.hid (t2)
      by_cases h0 : y = 0
      · subst h0
        go_wp2_with fail
        refine (l02False_any _).mono ?_
        rintro e w5 ⟨v5, rfl, o5, b5⟩
        have hm5 := Lib.hid (show Made w.heap.size w5 v5 [((1 : Int), (0 : Int))] n from ⟨own_mono o5 (show w.heap.size ≤ w2.heap.size by omega), by simp, by simp; omega⟩)
        have hs5 := Lib.hid (hs2.out.below b5 (Nat.le_refl _))
        have t5 := Lib.hid (t2.out.trans (Turned.of_below b5 (Nat.le_refl _)))
        clear o5 b5 hs2 t2
        go_wp2_with fail
        go_ret
        exact ⟨⟨_, _, rfl, hm5⟩, hs5, t5⟩
      · have e0 : (y == 0) = false := by rw [beq_eq_false_iff_ne]; exact h0
        clear h0
        go_wp2_with fail
        refine (hnext.out vars _ hs2.out (by omega) (by omega)).mono ?_
        rintro e w3 ⟨⟨z, rfl, z0, z1⟩, hs3, t3⟩
        have hz3 := t3.size
        have hs3 := Lib.hid hs3
        have t3 := Lib.hid (t2.out.trans t3)
        clear e0 hs2 t2
        go_wp2_with fail
        refine (l02VarG_any _ _).mono ?_
        rintro e w5 ⟨v5, rfl, o5, b5⟩
        have hm5 := Lib.hid (show Made w.heap.size w5 v5 [((0 : Int), z)] n from ⟨own_mono o5 (show w.heap.size ≤ w3.heap.size by omega), by simp, by simp; omega⟩)
        have hs5 := Lib.hid (hs3.out.below b5 (Nat.le_refl _))
        have t5 := Lib.hid (t3.out.trans (Turned.of_below b5 (Nat.le_refl _)))
        clear o5 b5 hs3 t3
        go_wp2_with fail
        go_ret
        exact ⟨⟨_, _, rfl, hm5⟩, hs5, t5⟩
    · have hn2 : (2 : Int) < n := by omega
      clear hn
      go_enter Try.func53, Try.ntmps53
      go_wp2_with fail
      refine (hnext.out 9 _ hs.out (by omega) (by omega)).mono ?_
      rintro e w1 ⟨⟨x, rfl, x0, x1⟩, hs1, t1⟩
      have hz1 := t1.size
      have hs1 := Lib.hid hs1
      have t1 := Lib.hid t1
      by_cases h0 : x = 0
      · subst h0
        go_wp2_with fail
        refine (hnext.out 8 _ hs1.out (by omega) (by omega)).mono ?_
        rintro e w2 ⟨⟨y, rfl, y0, y1⟩, hs2, t2⟩
        have hz2 := t2.size
        have hs2 := Lib.hid hs2
        have t2 := Lib.hid (t1.out.trans t2)
        by_cases h0 : y = 0
        · subst h0
          go_wp2_with fail
          refine (l02False_any _).mono ?_
          rintro e w5 ⟨v5, rfl, o5, b5⟩
          have hm5 := Lib.hid (show Made w.heap.size w5 v5 [((1 : Int), (0 : Int))] n from ⟨own_mono o5 (show w.heap.size ≤ w2.heap.size by omega), by simp, by simp; omega⟩)
          have hs5 := Lib.hid (hs2.out.below b5 (Nat.le_refl _))
          have t5 := Lib.hid (t2.out.trans (Turned.of_below b5 (Nat.le_refl _)))
          clear o5 b5 hs2 t2
          go_wp2_with fail
          go_ret
          exact ⟨⟨_, _, rfl, hm5⟩, hs5, t5⟩
        · have e0 : (y == 0) = false := by rw [beq_eq_false_iff_ne]; exact h0
          clear h0
          go_wp2_with fail
          refine (hnext.out vars _ hs2.out (by omega) (by omega)).mono ?_
          rintro e w3 ⟨⟨z, rfl, z0, z1⟩, hs3, t3⟩
          have hz3 := t3.size
          have hs3 := Lib.hid hs3
          have t3 := Lib.hid (t2.out.trans t3)
          clear e0 hs2 t2
          go_wp2_with fail
          refine (l02VarG_any _ _).mono ?_
          rintro e w5 ⟨v5, rfl, o5, b5⟩
          have hm5 := Lib.hid (show Made w.heap.size w5 v5 [((0 : Int), z)] n from ⟨own_mono o5 (show w.heap.size ≤ w3.heap.size by omega), by simp, by simp; omega⟩)
          have hs5 := Lib.hid (hs3.out.below b5 (Nat.le_refl _))
          have t5 := Lib.hid (t3.out.trans (Turned.of_below b5 (Nat.le_refl _)))
          clear o5 b5 hs3 t3
          go_wp2_with fail
          go_ret
          exact ⟨⟨_, _, rfl, hm5⟩, hs5, t5⟩
      · have e0 : (x == 0) = false := by rw [beq_eq_false_iff_ne]; exact h0
        clear h0
        go_wp2_with fail
        refine (hnext.out 3 _ hs1.out (by omega) (by omega)).mono ?_
        rintro e w2 ⟨⟨y, rfl, y0, y1⟩, hs2, t2⟩
        have hz2 := t2.size
        have hs2 := Lib.hid hs2
        have t2 := Lib.hid (t1.out.trans t2)
        clear e0 hs1 t1
        by_cases h0 : y = 0
        · subst h0
          go_wp2_with fail
          refine (hnext.out 2 _ hs2.out (by omega) (by omega)).mono ?_
          rintro e w3 ⟨⟨z, rfl, z0, z1⟩, hs3, t3⟩
          have hz3 := t3.size
          have hs3 := Lib.hid hs3
          have t3 := Lib.hid (t2.out.trans t3)
          clear hs2 t2
          go_wp2_with fail
          refine (ih.out (n - 1) (by omega) (by omega) _ hs3.out).mono ?_
          rintro e w4 ⟨⟨v4, ns4, rfl, hm4⟩, hs4, t4⟩
          have hz4 := t4.out.size
          have hl4 := hm4.out.le
          have hp4 := hm4.out.pos
          go_wp2_with fail
          refine (l02Pre_any _ _ ns4 _ (nodes_of_own hm4.out.own) hp4 (by omega)).mono ?_
          rintro e w5 ⟨v5, rfl, o5, b5⟩
          have hm5 := Lib.hid (Made.mk (m := n) (own_mono o5 (show w.heap.size ≤ w4.heap.size by omega)) (by simp) (by simp; omega))
          have hs5 := Lib.hid (hs4.out.below b5 (Nat.le_refl _))
          have t5 := Lib.hid ((t3.out.trans t4.out).trans (Turned.of_below b5 (Nat.le_refl _)))
          clear o5 b5 hm4 hs4 t4 hs3 t3
          go_wp2_with fail
          go_ret
          exact ⟨⟨_, _, rfl, hm5⟩, hs5, t5⟩
        · have e0 : (y == 0) = false := by rw [beq_eq_false_iff_ne]; exact h0
          clear h0
          go_wp2_with fail
          refine (hnext.out 6 _ hs2.out (by omega) (by omega)).mono ?_
          rintro e w3 ⟨⟨z, rfl, z0, z1⟩, hs3, t3⟩
          have hz3 := t3.size
          have hs3 := Lib.hid hs3
          have t3 := Lib.hid (t2.out.trans t3)
          clear e0 hs2 t2
          by_cases h0 : z = 0
          · subst h0
            go_wp2_with fail
            refine (ih.out (n - 2) (by omega) (by omega) _ hs3.out).mono ?_
            rintro e w4 ⟨⟨v4, ns4, rfl, hm4⟩, hs4, t4⟩
            have hz4 := t4.out.size
            have hl4 := hm4.out.le
            have hp4 := hm4.out.pos
            go_wp2_with fail
            refine (l02Not_any _ ns4 _ (nodes_of_own hm4.out.own) hp4 (by omega)).mono ?_
            rintro e w5 ⟨v5, rfl, o5, b5⟩
            have hlen5 : ((4, 0) :: ns4 ++ [(1, 0)] : List Nd).length = 1 + ns4.length + 1 := by simp; omega
            have hm5 := Lib.hid (Made.mk (m := n) (own_mono (by rw [hlen5]; exact o5) (show w.heap.size ≤ w4.heap.size by omega)) (by simp) (by rw [hlen5]; omega))
            have hs5 := Lib.hid (hs4.out.below b5 (Nat.le_refl _))
            have t5 := Lib.hid ((t3.out.trans t4.out).trans (Turned.of_below b5 (Nat.le_refl _)))
            clear o5 b5 hm4 hs4 t4 hs3 t3
            go_wp2_with fail
            go_ret
            exact ⟨⟨_, _, rfl, hm5⟩, hs5, t5⟩
          · have e0 : (z == 0) = false := by rw [beq_eq_false_iff_ne]; exact h0
            clear h0
            go_wp2_with fail
            refine (hnext.out (n - 2) _ hs3.out (by omega) (by omega)).mono ?_
            rintro e w4 ⟨⟨q, rfl, q0, q1⟩, hs4, t4⟩
            have hz4 := t4.size
            have hs4 := Lib.hid hs4
            have t4 := Lib.hid (t3.out.trans t4)
            clear e0 hs3 t3
            go_wp2_with fail
            refine (ih.out (1 + q) (by omega) (by omega) _ hs4.out).mono ?_
            rintro e w5 ⟨⟨v5, ns5, rfl, hm5⟩, hs5, t5⟩
            have hz5 := t5.out.size
            have hl5 := hm5.out.le
            have hp5 := hm5.out.pos
            have t5 := Lib.hid (t4.out.trans t5.out)
            clear hs4 t4
            go_wp2_with fail
            refine (hnext.out 3 _ hs5.out (by omega) (by omega)).mono ?_
            rintro e w6 ⟨⟨r, rfl, r0, r1⟩, hs6, t6⟩
            have hz6 := t6.size
            have hs6 := Lib.hid hs6
            have hm6 := Lib.hid (hm5.out.turned t6 (by omega))
            have t6 := Lib.hid (t5.out.trans t6)
            clear hs5 t5 hm5
            go_wp2_with fail
            refine (ih.out (n - 1 - (1 + q)) (by omega) (by omega) _ hs6.out).mono ?_
            rintro e w7 ⟨⟨v7, ns7, rfl, hm7⟩, hs7, t7⟩
            have hz7 := t7.out.size
            have hl7 := hm7.out.le
            have hp7 := hm7.out.pos
            have hm6 := Lib.hid (hm6.out.turned t7.out (by omega))
            have t7 := Lib.hid (t6.out.trans t7.out)
            clear hs6 t6
            go_wp2_with fail
            refine (l02Pair_any _ _ _ ns5 ns7 _ (nodes_of_own hm6.out.own) (nodes_of_own hm7.out.own) hp5 hp7 (by omega) (by omega)).mono ?_
            rintro e w8 ⟨v8, rfl, o8, b8⟩
            have hlen8 : ∀ k : Int, ((k, 0) :: ns5 ++ ns7 : List Nd).length = 1 + ns5.length + ns7.length := fun k => by simp; omega
            have hm8 := Lib.hid (Made.mk (m := n) (own_mono (by rw [hlen8]; exact o8) (show w.heap.size ≤ w7.heap.size by omega)) (by simp) (by rw [hlen8]; omega))
            have hs8 := Lib.hid (hs7.out.below b8 (Nat.le_refl _))
            have t8 := Lib.hid (t7.out.trans (Turned.of_below b8 (Nat.le_refl _)))
            clear o8 b8 hm6 hm7 hs7 t7
            go_wp2_with fail
            go_ret
            exact ⟨⟨_, _, rfl, hm8⟩, hs8, t8⟩
end Go.Proofs.Ytdpnkojchimmfaa
