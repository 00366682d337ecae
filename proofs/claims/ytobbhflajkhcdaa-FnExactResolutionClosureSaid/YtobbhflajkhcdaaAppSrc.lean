/- append of a slice that reads, be it nil or not, to a row of one's own; slices.Grow and slices.Concat at two lists of lists. -/
import Derived.Test.YtobbhflajkhcdaaIConcat
import Derived.Test.YtobbhflajkhcdaaIntGrow
import Derived.Test.YtobbhflajkhcdaaAppendNil
namespace Go.Proofs.Ytobbhflajkhcdaa
open Go.RowKit
set_option linter.unusedVariables false

theorem reads_src {w : World} {p : Option Addr} {m c : Nat} {cs : List Value} (h : Reads w 1 (.slice p m c) m cs) : (m = 0 ∧ p = none) ∨ ∃ ad : Addr, p = some ad ∧ ∀ j u, cs[j]? = some u → w.cell? (ad.add j) = some u := by
  obtain ⟨hl, _, a, c', b, o, hv, hc, ha, hcell⟩ := h
  injection hv with e1 e2 e3
  subst e1; subst e3
  cases hp : p with
  | none =>
    left
    refine ⟨?_, rfl⟩
    rcases Nat.eq_zero_or_pos m with h | h
    · exact h
    · have := ha h; rw [hp] at this; cases this
  | some ad =>
    right
    refine ⟨ad, rfl, fun j u hu => ?_⟩
    have hj : j < m := by have := (List.getElem?_eq_some_iff.1 hu).1; omega
    have := ha (by omega)
    rw [hp] at this
    obtain rfl := Option.some.inj this
    rw [Addr.add_lit]
    exact hcell j u hu
theorem wpList_append_src {P : Program} {w : World} {ops : Array Oper} {rest : List Oper} {o : Oper} {a : Act} {Q : Exit → Act → World → Prop} (hgd : o.guard = none) (s x : Operand) (t : TypeId)
    (ho : o.op = .call { callee := .builtin .append, args := #[s, x], argTypes := #[t, t] })
    (base : Nat) (e : TypeId) (i : TypeInfo) (z : Value) (bytes : Nat) (ht : P.underlying t = some (.slice e)) (hi : P.info? e = some i) (hz : i.zero = some z)
    (hsize : i.size = 1) (hby : i.bytes = bytes) (hzs : z.cells.size = 1)
    (v : Value) (n : Nat) (xs : List Value) (hs : a.eval s = v) (hown : w.ownsRow base e 1 v n xs)
    (p : Option Addr) (m c : Nat) (news : List Value) (hx : a.eval x = .slice p m c) (hl : news.length = m) (hsrc : (m = 0 ∧ p = none) ∨ ∃ ad : Addr, p = some ad ∧ ∀ j u, news[j]? = some u → w.cell? (ad.add j) = some u) (h1 : ∀ u ∈ news, u.oneCell' = true)
    (h63 : n + m ≤ maxLen) (hbytes : (n + m) * bytes ≤ 140737488355328) (hbase : base ≤ w.heap.size)
    (h : ∀ v' w', w'.ownsRow base e 1 v' (n + m) (xs ++ news) → w.grownBy w' v.ownBlock → (v'.ownBlock = v.ownBlock ∨ v'.ownBlock = some w.heap.size) → wpList P ops Q rest (a.put o.dst v') w') :
    wpList P ops Q (o :: rest) a w := by
  rcases hsrc with ⟨rfl, rfl⟩ | ⟨ad, rfl, hsrc⟩
  · have hn : news = [] := List.eq_nil_of_length_eq_zero hl
    subst hn
    obtain ⟨b, cv, rfl, hnc⟩ : ∃ b cv, v = .slice b n cv ∧ n ≤ cv := by
      rcases hown.2 with ⟨rfl, h0⟩ | ⟨g, cap, cur, rfl, _, _, hnc, _⟩
      · exact ⟨none, 0, by rw [h0], by omega⟩
      · exact ⟨_, _, rfl, hnc⟩
    refine wpList_append_none hgd s x t ho e i ht hi b n cv c hs hx hnc (h _ _ ?_ (World.grownBy.refl _ _) (.inl rfl))
    rw [List.append_nil]
    exact hown
  · exact wpList_append_own_at w hgd s x t ho base e i z 1 bytes ht hi hz hsize hby hzs (by decide) v n xs hs hown ad m c news hx (by omega) hsrc h1 h63 hbytes hbase (fun v' w' h1 h2 _ h4 => h v' w' h1 h2 h4)

set_option maxHeartbeats 1000000 in
theorem growII_any (n : Nat) (hn : n ≤ 1000000) (w : World) :
    Calls Try.prog 39 #[.slice none 0 0, .int .i64 (n : Int)] w fun e w' => ∃ v, e = .returned v ∧ w'.ownsRow w.heap.size 30 1 v 0 [] ∧ Below w.heap.size w w' := by
  obtain ⟨i0, hi, hz0, hz1, hz2⟩ := info_parts info_ints
  rcases Nat.eq_zero_or_pos n with h0 | h0
  · subst h0
    go_enter Try.func39, Try.ntmps39
    go_wp2_with fail
    go_ret
    exact ⟨.slice none 0 0, rfl, World.ownsRow_nil _ _ _ _, Below.refl _ _⟩
  have happ := Lib.run_append_nil_zeros (P := Try.prog) w 22 3 22 30 i0 (.slice none 0 0) .i64 .i64 Try.underlying22 Try.underlying3 hi hz0 n (by omega) (by omega) (by omega) (by rw [hz2]; omega)
  generalize hcap : grownCap w n 0 30 = cap2 at happ
  have hcapge : n ≤ cap2 := by rw [← hcap]; exact grownCap_ge w _ 0 30
  have hcaple : cap2 ≤ maxLen := by rw [← hcap]; exact grownCap_le_maxLen w _ 0 30 (by unfold maxLen; omega)
  generalize hZ : (Builtin.zeroCells (Value.slice none 0 0).cells n ++ Builtin.zeroCells (Value.slice none 0 0).cells (cap2 - n)) = Z at happ
  have hZs : Z.size = cap2 * 1 := by
    rw [← hZ]
    simp only [Array.size_append, size_zeroCells]
    rw [show (Value.slice none 0 0).cells.size = 1 from rfl, ← Nat.add_mul]
    congr 1
    omega
  have hcm := hcaple
  unfold maxLen at hcm
  have hcaple := Lib.hid hcaple
  have hZs := Lib.hid hZs
  clear hcap hZ
  go_enter Try.func39, Try.ntmps39
  go_wp2_with (at_builtin; refine Lib.wpList_append_run _ rfl _ _ _ _ rfl _ _ rfl rfl _ _ happ ?_)
  go_ret
  refine ⟨_, rfl, ⟨by simp, .inr ⟨w.heap.size, cap2, Z, rfl, Nat.le_refl _, heap_alloc_new w.drew _, Nat.zero_le _, hcaple.out, hZs.out, by simp⟩⟩, Below.alloc (Below.drew (Below.refl _ _)) (Nat.le_refl _) _⟩
set_option maxHeartbeats 4000000 in
set_option maxRecDepth 100000 in
theorem concat2II_any (g : Nat) (p1 p2 : Option Addr) (n1 c1 n2 c2 : Nat) (X1 X2 : List Value) (w : World) (h1 : w.cell? ⟨g, 0, none⟩ = some (.slice p1 n1 c1)) (h2 : w.cell? ⟨g, 1, none⟩ = some (.slice p2 n2 c2))
    (r1 : Reads w 1 (.slice p1 n1 c1) n1 X1) (r2 : Reads w 1 (.slice p2 n2 c2) n2 X2) (o1 : ∀ u ∈ X1, u.oneCell' = true) (o2 : ∀ u ∈ X2, u.oneCell' = true) (hn1 : n1 ≤ 1000) (hn2 : n2 ≤ 1000) :
    Calls Try.prog 20 #[.slice (some ⟨g, 0, none⟩) 2 2] w fun e w' => ∃ v', e = .returned v' ∧ w'.ownsRow w.heap.size 30 1 v' (n1 + n2) (X1 ++ X2) ∧ Below w.heap.size w w' := by
  obtain ⟨i0, hi, hz0, hz1, hz2⟩ := info_parts info_ints
  have hs1 := Lib.hid (fun W (hW : Below w.heap.size w W) => reads_src (r1.below hW (Nat.le_refl _)))
  have hs2 := Lib.hid (fun W (hW : Below w.heap.size w W) => reads_src (r2.below hW (Nat.le_refl _)))
  have hl1 := Lib.hid (show X1.length = n1 by have := r1.1; omega)
  have hl2 := Lib.hid (show X2.length = n2 by have := r2.1; omega)
  have ho1 := Lib.hid o1
  have ho2 := Lib.hid o2
  clear r1 r2 o1 o2
  go_enter Try.func20, Try.ntmps20
  go_wp2_with fail
  go_loop [3, 11] (fun s i => (i = .int .i64 0 ∧ s = .int .i64 0) ∨ (i = .int .i64 1 ∧ s = .int .i64 (n1 : Int)) ∨ (i = .int .i64 2 ∧ s = .int .i64 ((n1 + n2 : Nat) : Int))) (fun _ i => 2 - (intOf i).toNat)
  case atStart => exact .inl ⟨rfl, rfl⟩
  case round =>
    rcases hrel with ⟨rfl, rfl⟩ | ⟨rfl, rfl⟩ | ⟨rfl, rfl⟩
    · go_wp2_with fail
      go_round
      case rel => exact .inr (.inl ⟨by go_num, by go_num⟩)
      case measure => simp [intOf]
    · go_wp2_with fail
      go_round
      case rel => exact .inr (.inr ⟨by go_num, by go_num⟩)
      case measure => simp [intOf]
    · have hgr := Lib.hid (fun W => growII_any (n1 + n2) (by omega) W)
      have hm1 : 0 + n1 ≤ maxLen := by unfold maxLen; omega
      have hm2 : n1 + n2 ≤ maxLen := by unfold maxLen; omega
      go_wp2_with fail
      refine (hgr.out _).mono ?_
      rintro e w1 ⟨v1, rfl, og, bg⟩
      have og := Lib.hid og
      go_wp2_with fail
      go_loopw [6, 27] (fun v i wr => ((i = .int .i64 0 ∧ Hid (wr.ownsRow w.heap.size 30 1 v 0 [])) ∨ (i = .int .i64 1 ∧ Hid (wr.ownsRow w.heap.size 30 1 v n1 X1)) ∨ (i = .int .i64 2 ∧ Hid (wr.ownsRow w.heap.size 30 1 v (n1 + n2) (X1 ++ X2)))) ∧ Below w.heap.size w wr) (fun _ i _ => 2 - (intOf i).toNat)
      case atStart => exact ⟨.inl ⟨rfl, og⟩, bg⟩
      case round =>
        clear og bg
        obtain ⟨⟨rfl, ho⟩ | ⟨rfl, ho⟩ | ⟨rfl, ho⟩, hb⟩ := hrel
        · have hc1 := keep_cell hb h1
          have hsz := hb.size
          go_wp2_with (at_builtin; refine wpList_append_src rfl _ _ 22 rfl w.heap.size 30 i0 (.slice none 0 0) 24 Try.underlying22 hi hz0 hz1 hz2 rfl _ 0 [] rfl ho.out p1 n1 c1 X1 rfl hl1.out (hs1.out _ hb) ho1.out hm1 (by omega) hsz ?_; intro v3 w3 hown3 hgrow3 hblk3)
          rw [Nat.zero_add, List.nil_append] at hown3
          have B3 := Lib.hid (hb.grown hgrow3 hsz (fun j hj => (ho.out.lt j hj).1))
          have o3 := Lib.hid hown3
          clear hown3 hgrow3 hblk3
          go_roundw
          case rel => exact ⟨.inr (.inl ⟨by go_num, o3⟩), B3.out⟩
          case measure => simp [intOf]
        · have hc2 := keep_cell hb h2
          have hsz := hb.size
          go_wp2_with (at_builtin; refine wpList_append_src rfl _ _ 22 rfl w.heap.size 30 i0 (.slice none 0 0) 24 Try.underlying22 hi hz0 hz1 hz2 rfl _ n1 X1 rfl ho.out p2 n2 c2 X2 rfl hl2.out (hs2.out _ hb) ho2.out hm2 (by omega) hsz ?_; intro v3 w3 hown3 hgrow3 hblk3)
          have B3 := Lib.hid (hb.grown hgrow3 hsz (fun j hj => (ho.out.lt j hj).1))
          have o3 := Lib.hid hown3
          clear hown3 hgrow3 hblk3
          go_roundw
          case rel => exact ⟨.inr (.inr ⟨by go_num, o3⟩), B3.out⟩
          case measure => simp [intOf]
        · go_wp2_with fail
          go_ret
          exact ⟨_, rfl, ho.out, hb⟩
end Go.Proofs.Ytobbhflajkhcdaa
