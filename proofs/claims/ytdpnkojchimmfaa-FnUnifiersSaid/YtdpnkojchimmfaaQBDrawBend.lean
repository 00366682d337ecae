/- What the laws draw out of a code: a list of nodes that was changed. -/
import Derived.Test.YtdpnkojchimmfaaQBDrawForm
import Derived.Deep.AppendLies
import Derived.Deep.RegionLaw
import Derived.Deep.RegionWith
import Derived.Deep.Cut
import Derived.Deep.DeepCutAuto

namespace Go.Proofs.Ytdpnkojchimmfaa
open Go.RowKit Go.Deep
set_option linter.unusedVariables false

/-- Nodes in new memory, perhaps none. -/
structure MadeZ (K : Nat) (w : World) (v : Value) (ns : List Nd) (m : Int) : Prop where
  own : w.ownsRow K 41 2 v ns.length (cellsN ns)
  le : (ns.length : Int) ≤ m
theorem Made.z {K : Nat} {w : World} {v : Value} {ns : List Nd} {m : Int} (h : Made K w v ns m) : MadeZ K w v ns m := ⟨h.own, h.le⟩
theorem MadeZ.turned {K b : Nat} {w w' : World} {v : Value} {ns : List Nd} {m : Int} (h : MadeZ K w v ns m) (ht : Turned b (b + 1) w w') (hb : b < K) : MadeZ K w' v ns m :=
  ⟨row_same h.own fun k _ hB hlt => ht.block k hlt (.inr (by omega)), h.le⟩
theorem MadeZ.below {K : Nat} {w w' : World} {v : Value} {ns : List Nd} {m : Int} (h : MadeZ K w v ns m) (hb : Below w.heap.size w w') : MadeZ K w' v ns m := ⟨own_below h.own hb (Nat.le_refl _), h.le⟩
theorem MadeZ.mono {K K' : Nat} {w : World} {v : Value} {ns : List Nd} {m m' : Int} (h : MadeZ K w v ns m) (hk : K' ≤ K) (hm : m ≤ m') : MadeZ K' w v ns m' := ⟨own_mono h.own hk, Int.le_trans h.le hm⟩

theorem own_cut {w : World} {B s g n cap : Nat} {e : TypeId} {xs : List Value} (h : w.ownsRow B e s (.slice (some ⟨g, 0, none⟩) n cap) n xs) {k : Nat} (hk : k ≤ n) : w.ownsRow B e s (.slice (some ⟨g, 0, none⟩) k cap) k (xs.take (k * s)) := by
  obtain ⟨h1, h2⟩ := h
  have hks : k * s ≤ n * s := Nat.mul_le_mul_right s hk
  refine ⟨by rw [List.length_take, h1]; omega, ?_⟩
  rcases h2 with ⟨h2, _⟩ | ⟨g', cap', cur, hv, hB, hg, hc, hm, hs, ht⟩
  · cases h2
  · obtain ⟨rfl, rfl⟩ : g = g' ∧ cap = cap' := by simpa using hv
    refine .inr ⟨g, cap, cur, rfl, hB, hg, by omega, hm, hs, ?_⟩
    rw [← ht, List.take_take, Nat.min_eq_left hks]
theorem cellsN_put (ns : List Nd) (k : Nat) (x : Int) : (∃ ms : List Nd, ms.length = ns.length ∧ cellsN ms = (cellsN ns).set (k * 2) (.int .i64 x)) ∧ (∃ ms : List Nd, ms.length = ns.length ∧ cellsN ms = (cellsN ns).set (k * 2 + 1) (.int .i64 x)) := by
  induction k generalizing ns with
  | zero =>
    cases ns with
    | nil => exact ⟨⟨[], rfl, rfl⟩, ⟨[], rfl, rfl⟩⟩
    | cons n ns => exact ⟨⟨(x, n.2) :: ns, rfl, by simp [cellsN, encN]⟩, ⟨(n.1, x) :: ns, rfl, by simp [cellsN, encN]⟩⟩
  | succ k ih =>
    cases ns with
    | nil => exact ⟨⟨[], rfl, rfl⟩, ⟨[], rfl, rfl⟩⟩
    | cons n ns =>
      obtain ⟨⟨m1, l1, e1⟩, ⟨m2, l2, e2⟩⟩ := ih ns
      have h1 : ∀ l, cellsN (n :: l) = .int .i64 n.1 :: .int .i64 n.2 :: cellsN l := fun l => by simp [cellsN, encN]
      refine ⟨⟨n :: m1, by simp [l1], ?_⟩, ⟨n :: m2, by simp [l2], ?_⟩⟩
      · rw [h1, h1, e1, show (k + 1) * 2 = k * 2 + 1 + 1 by omega]; rfl
      · rw [h1, h1, e2, show (k + 1) * 2 + 1 = k * 2 + 1 + 1 + 1 by omega]; rfl

theorem five_cells (w : World) (a b c d f : Int) (t : TypeId) : ∀ j, j < 5 → ∃ y : Int, (w.alloc (.cells #[.int .i64 a, .int .i64 b, .int .i64 c, .int .i64 d, .int .i64 f] t)).cell? ⟨w.heap.size, j, none⟩ = some (.int .i64 y) := by
  intro j hj
  rw [World.cell?_alloc_at _ _ _ _ rfl]
  match j, hj with
  | 0, _ => exact ⟨a, rfl⟩
  | 1, _ => exact ⟨b, rfl⟩
  | 2, _ => exact ⟨c, rfl⟩
  | 3, _ => exact ⟨d, rfl⟩
  | 4, _ => exact ⟨f, rfl⟩

/-- An append of cells that lie anywhere, perhaps none, in a region that draws. -/
theorem step_append_own {P : Program} {w : World} {ops : Array Oper} {o : Oper} {a : Act} {K : Act → World → Prop} {Q : Exit → Act → World → Prop} {E : Prop} (hgd : o.guard = none) (s x : Operand) (t : TypeId)
    (ho : o.op = .call { callee := .builtin .append, args := #[s, x], argTypes := #[t, t] })
    (base : Nat) (e : TypeId) (i : TypeInfo) (z : Value) (size bytes : Nat) (ht : P.underlying t = some (.slice e)) (hi : P.info? e = some i) (hz : i.zero = some z)
    (hsize : i.size = size) (hby : i.bytes = bytes) (hzs : z.cells.size = size) (hsz : 0 < size)
    (v : Value) (n : Nat) (xs : List Value) (hs : a.eval s = v) (hown : w.ownsRow base e size v n xs)
    (ad : Addr) (m c : Nat) (news : List Value) (hx : a.eval x = .slice (some ad) m c) (hl : news.length = m * size) (hnews : ∀ j u, news[j]? = some u → w.cell? (ad.add j) = some u) (h1 : ∀ u ∈ news, u.oneCell' = true)
    (h63 : n + m ≤ maxLen) (hbytes : (n + m) * bytes ≤ 140737488355328) (hbase : base ≤ w.heap.size)
    (h : ∀ v' w', w'.ownsRow base e size v' (n + m) (xs ++ news) → w.grownBy w' v.ownBlock → (v'.ownBlock = v.ownBlock ∨ v'.ownBlock = some w.heap.size) → K (a.put o.dst v') w') :
    if Region.wanted o (yielded ops a.tmps) = true then Oper.wp P o a w K Q else E := by
  have hw : Region.wanted o (yielded ops a.tmps) = true := by simp [Region.wanted, hgd]
  rw [if_pos hw]
  obtain ⟨v', w', hr, h2, h3, h4, h5⟩ := run_append_own_at (P := P) w base t o.type e i z size bytes ht hi hz hsize hby hzs hsz v n xs hown ad m c news hl hnews h1 h63 hbytes hbase
  unfold Oper.wp execOp
  simp only [ho, resolve, invoke, builtin, Sem.run_bind, Sem.run_pure, Result.andThen_ok, List.map_toArray, List.map_cons, List.map_nil, hs, hx, hr]
  exact h _ _ h2 h3 h5

theorem some_ne {a b : Nat} (h : a ≠ b) : some a ≠ some b := fun e => h (by simpa using e)
theorem St.set {w0 w : World} {b L g : Nat} {cv : Value} (h : St w0 b cv L w) {B : Nat} (hB : B ≤ g) (hb : b < B) (k : Nat) (x : Value) : St w0 b cv L (w.setCell ⟨g, k, none⟩ x) := by
  obtain ⟨t, y, hs, r⟩ := h.src
  have hw := h.bel.size
  refine ⟨⟨t, y, ?_, r⟩, ⟨h.bel.os, h.bel.tape, h.bel.output, by simp [World.setCell]; exact hw, fun j hj => ?_⟩, h.le⟩
  · unfold Src at *
    rw [Below.heap_setCell _ _ _ _ (show b ≠ g by omega)]; exact hs
  · have := h.le
    rw [Below.heap_setCell _ _ _ _ (show j ≠ g by omega)]; exact h.bel.block j hj
theorem Turned.put {b g : Nat} {w w' : World} (h : Turned b (b + 1) w w') (hB : w.heap.size ≤ g) (k : Nat) (x : Value) : Turned b (b + 1) w (w'.setCell ⟨g, k, none⟩ x) :=
  ⟨h.os, h.tape, h.output, by simp [World.setCell]; exact h.size, fun j hj h2 => (Below.heap_setCell _ _ _ _ (show j ≠ g by omega)).trans (h.block j hj h2)⟩
theorem St.grown {w0 w w' : World} {b L g : Nat} {cv : Value} (h : St w0 b cv L w) (hg : w.grownBy w' (some g)) {B : Nat} (hB : B ≤ g) (hb : b < B) : St w0 b cv L w' := by
  obtain ⟨t, y, hs, r⟩ := h.src
  have hl := hs.lt
  have h9 := h.le
  refine ⟨⟨t, y, ?_, r⟩, ⟨hg.os.trans h.bel.os, hg.tape.trans h.bel.tape, hg.output.trans h.bel.output, Nat.le_trans h.bel.size hg.size, fun j hj => ?_⟩, h.le⟩
  · unfold Src at *
    rw [hg.block b hl (some_ne (show b ≠ g by omega))]; exact hs
  · have := h.bel.size
    rw [hg.block j (by omega) (some_ne (show j ≠ g by omega))]; exact h.bel.block j hj
theorem Turned.putG {b g : Nat} {w w' w2 : World} (h : Turned b (b + 1) w w') (hg : w'.grownBy w2 (some g)) (hB : w.heap.size ≤ g) : Turned b (b + 1) w w2 :=
  ⟨hg.os.trans h.os, hg.tape.trans h.tape, hg.output.trans h.output, Nat.le_trans h.size hg.size, fun j hj h2 => (hg.block j (Nat.lt_of_lt_of_le hj h.size) (some_ne (show j ≠ g by omega))).trans (h.block j hj h2)⟩

set_option maxHeartbeats 4000000 in
theorem l02Bend_any (w0 : World) (b : Nat) (cv : Value) (zs : List Int) (hB : Bytes w0 cv zs) (hL : zs.length ≤ 4096) (v : Value) (ns : List Nd) (w : World) (hs : St w0 b cv zs.length w) (h : Nodes w v ns) (hp : 0 < ns.length) (hn : ns.length ≤ 1000) :
    Calls Try.prog 71 #[.pointer (some ⟨b, 0, none⟩), v] w fun e w' => (∃ v' ms, e = .returned v' ∧ Hid (MadeZ w.heap.size w' v' ms (ns.length + 1))) ∧ Hid (St w0 b cv zs.length w') ∧ Hid (Turned b (b + 1) w w') := by
  obtain ⟨i0, hi, hz0, hz1, hz2⟩ := info_parts info_node
  have hnext := Lib.hid (fun (k : Int) (W : World) (hW : St w0 b cv zs.length W) (k1 : 1 ≤ k) (k2 : k ≤ 9223372036854775807) => l01Next_any w0 b cv zs k W hB hW k1 k2 hL)
  have hpick := Lib.hid (fun (g : Nat) (W : World) (hW : St w0 b cv zs.length W) (hg : b < g) hc => l01Pick_any w0 b cv zs g 5 W hB hW hL (by omega) (by omega) hg hc)
  have hown := Lib.hid (l02Own_any v ns w h hp hn)
  have hbl := hs.lt
  have hs := Lib.hid hs
  clear hB h
  go_enter Try.func71, Try.ntmps71
  go_wp2_with fail
  refine hown.out.mono ?_
  rintro e w1 ⟨v1, rfl, o1, b1⟩
  obtain ⟨g, cap, rfl, _, _⟩ := World.ownsRow.form o1 hp
  have hgl := (o1.lt g rfl)
  have hcap : ns.length ≤ cap := by
    rcases o1.2 with ⟨h2, _⟩ | ⟨g', cap', cur, hv, hB, hg, hc, hm, hs, ht⟩
    · cases h2
    · obtain ⟨rfl, rfl⟩ : g = g' ∧ cap = cap' := by simpa using hv
      exact hc
  have hs1 := Lib.hid (hs.out.below b1 (Nat.le_refl _))
  have t1 := Lib.hid (Turned.of_below (lo := b) (hi := b + 1) b1 (Nat.le_refl _))
  have o1 := Lib.hid o1
  have hz1' := b1.size
  clear b1 hown hs
  go_wp2_with fail
  refine (hnext.out (ns.length : Int) _ hs1.out (by omega) (by omega)).mono ?_
  rintro e w2 ⟨⟨x, rfl, x0, x1⟩, hs2, t2⟩
  have hs2 := Lib.hid hs2
  have o2 := Lib.hid (row_same o1.out fun k _ hB hlt => t2.block k hlt (.inr (by omega)))
  have hz2' := t2.size
  have t2 := Lib.hid (t1.out.trans t2)
  obtain ⟨k, rfl⟩ := Int.eq_ofNat_of_zero_le x0
  have hk : k < ns.length := by omega
  clear hs1 t1 o1
  go_wp2_with fail
  refine (hnext.out 5 _ hs2.out (by omega) (by omega)).mono ?_
  rintro e w3 ⟨⟨y, rfl, y0, y1⟩, hs3, t3⟩
  have hs3 := Lib.hid hs3
  have o3 := Lib.hid (row_same o2.out fun k _ hB hlt => t3.block k hlt (.inr (by omega)))
  have hz3' := t3.size
  have t3 := Lib.hid (t2.out.trans t3)
  clear hs2 t2 o2
  have hfin : ∀ (W : World) (v' : Value) (ms : List Nd), Hid (W.ownsRow w.heap.size 41 2 v' ms.length (cellsN ms)) → ms.length ≤ ns.length + 1 → MadeZ w.heap.size W v' ms (ns.length + 1) := fun W v' ms h1 h2 => ⟨h1.out, by omega⟩
  have hfin := Lib.hid hfin
  have hy : y = 0 ∨ y = 1 ∨ y = 2 ∨ y = 3 ∨ y = 4 := by omega
  rcases hy with rfl | rfl | rfl | rfl | rfl
  · go_wp2_with fail
    refine (hnext.out 9 _ hs3.out (by omega) (by omega)).mono ?_
    rintro e w4 ⟨⟨q, rfl, q0, q1⟩, hs4, t4⟩
    have hs4 := Lib.hid hs4
    have o4 := Lib.hid (row_same o3.out fun k _ hB hlt => t4.block k hlt (.inr (by omega)))
    have hz4' := t4.size
    have t4 := Lib.hid (t3.out.trans t4)
    clear hs3 t3 o3
    have hc := o4.out.cellAt (k * 2) (by omega)
    rw [(List.getElem?_eq_getElem (by rw [cellsN_length]; omega) : (cellsN ns)[k * 2]? = _)] at hc
    have hf := o4.out.frozenAt (k * 2)
    obtain ⟨⟨ms, hml, hme⟩, _⟩ := cellsN_put ns k (q - 1)
    have o5 := Lib.hid (o4.out.stored (k * 2) (.int .i64 (q - 1))).1
    have hml2 := Lib.hid hml
    rw [← hme] at o5
    have o5 : Hid (World.ownsRow (w4.setCell ⟨g, k * 2, none⟩ (.int .i64 (q - 1))) w.heap.size 41 2 (.slice (some ⟨g, 0, none⟩) ns.length cap) ms.length (cellsN ms)) := by rw [hml2.out]; exact o5
    clear hml hme
    go_wp2_with fail
    go_ret
    exact ⟨⟨_, ms, rfl, hfin.out _ _ _ o5 (by have := hml2.out; omega)⟩, Lib.hid (hs4.out.set hgl.1 hbl (k * 2) _), Lib.hid (Turned.put t4.out hgl.1 (k * 2) _)⟩
  · have hW := Lib.hid (hs3.out.below ((Below.refl w3.heap.size w3).alloc (Nat.le_refl _) (.cells #[.int .i64 (-1), .int .i64 0, .int .i64 1, .int .i64 5, .int .i64 6] 2)) (Nat.le_refl _))
    have hc5 := Lib.hid (five_cells w3 (-1) 0 1 5 6 2)
    have tA := Lib.hid (Turned.of_below (lo := b) (hi := b + 1) ((Below.refl w3.heap.size w3).alloc (Nat.le_refl _) (.cells #[.int .i64 (-1), .int .i64 0, .int .i64 1, .int .i64 5, .int .i64 6] 2)) (Nat.le_refl _))
    have oA := Lib.hid (row_same o3.out fun k _ hB hlt => tA.out.block k hlt (.inr (by omega)))
    have hzA := tA.out.size
    go_wp2_with fail
    refine (hpick.out _ _ hW.out hs3.out.lt hc5.out).mono ?_
    rintro e w4 ⟨⟨q, rfl⟩, hs4, t4⟩
    have hs4 := Lib.hid hs4
    have o4 := Lib.hid (row_same oA.out fun k _ hB hlt => t4.block k hlt (.inr (by omega)))
    have hz4' := t4.size
    have t4 := Lib.hid ((t3.out.trans tA.out).trans t4)
    clear hs3 t3 o3 hW hc5 tA oA
    have hc := o4.out.cellAt (k * 2 + 1) (by omega)
    rw [(List.getElem?_eq_getElem (by rw [cellsN_length]; omega) : (cellsN ns)[k * 2 + 1]? = _)] at hc
    have hf := o4.out.frozenAt (k * 2 + 1)
    obtain ⟨_, ⟨ms, hml, hme⟩⟩ := cellsN_put ns k q
    have o5 := Lib.hid (o4.out.stored (k * 2 + 1) (.int .i64 q)).1
    have hml2 := Lib.hid hml
    rw [← hme] at o5
    have o5 : Hid (World.ownsRow (w4.setCell ⟨g, k * 2 + 1, none⟩ (.int .i64 q)) w.heap.size 41 2 (.slice (some ⟨g, 0, none⟩) ns.length cap) ms.length (cellsN ms)) := by rw [hml2.out]; exact o5
    clear hml hme
    go_wp2_with fail
    go_ret
    exact ⟨⟨_, ms, rfl, hfin.out _ _ _ o5 (by have := hml2.out; omega)⟩, Lib.hid (hs4.out.set hgl.1 hbl (k * 2 + 1) _), Lib.hid (Turned.put t4.out hgl.1 (k * 2 + 1) _)⟩
  · go_wp2_with fail
    refine (hnext.out 7 _ hs3.out (by omega) (by omega)).mono ?_
    rintro e w4 ⟨⟨q, rfl, q0, q1⟩, hs4, t4⟩
    have hs4 := Lib.hid hs4
    have o4 := row_same o3.out fun k _ hB hlt => t4.block k hlt (.inr (by omega))
    have hz4' := t4.size
    have t4 := Lib.hid (t3.out.trans t4)
    clear hs3 t3 o3
    have hb5 := Lib.hid ((Below.refl w4.heap.size w4).alloc (Nat.le_refl _) (.cells #[.int .i64 q, .int .i64 0] 41))
    have o5 := Lib.hid (own_below o4 hb5.out (Nat.le_refl _))
    have hnew := Lib.hid (World.news_of_block (cs := #[.int .i64 q, .int .i64 0]) (t := 41) (fr := (0, 0)) (heap_alloc_new w4 (.cells #[.int .i64 q, .int .i64 0] 41)))
    have hn4 : w.heap.size ≤ w4.heap.size := by omega
    have hmax : ns.length + 1 ≤ maxLen := by unfold maxLen; omega
    go_wp2_with (at_builtin; refine wpList_append_own_at _ rfl _ _ 27 rfl w.heap.size 41 i0 _ 2 16 Try.underlying27 hi hz0 hz1 hz2 rfl (by decide) _ ns.length (cellsN ns) rfl o5.out ⟨w4.heap.size, 0, none⟩ 1 1 [.int .i64 q, .int .i64 0] rfl rfl hnew.out (by simp [Value.oneCell']) hmax (by omega) (by simp; omega) ?_; intro v6 w6 hown6 hgrow6 _ hblk6)
    have e6 : cellsN ns ++ [.int .i64 q, .int .i64 0] = cellsN (ns ++ [(q, 0)]) := by rw [cellsN_append]; rfl
    rw [e6] at hown6
    have hown6 := Lib.hid hown6
    have s6 := Lib.hid (hs4.out.below hb5.out (Nat.le_refl _))
    have t6 := Lib.hid (t4.out.trans (Turned.of_below hb5.out (Nat.le_refl _)))
    have hsz6 := hgrow6.size
    have hgrow6 := Lib.hid hgrow6
    clear hblk6
    go_wp2_with fail
    go_ret
    exact ⟨⟨_, ns ++ [(q, 0)], rfl, hfin.out _ _ _ (by rw [List.length_append]; exact hown6) (by simp)⟩, Lib.hid (s6.out.grown hgrow6.out hgl.1 hbl), Lib.hid (t6.out.putG hgrow6.out hgl.1)⟩
  · have o4 := Lib.hid (own_cut o3.out (k := k) (by omega))
    rw [← cellsN_take] at o4
    have e4 : (ns.take k).length = k := by rw [List.length_take]; omega
    have hm4 := Lib.hid (hfin.out w3 (.slice (some ⟨g, 0, none⟩) k cap) (ns.take k) (by rw [e4]; exact o4) (by omega))
    clear o3 o4
    have hkc : (k : Int) ≤ (cap : Int) := by omega
    go_wp2_with fail
    go_ret
    exact ⟨⟨_, _, rfl, hm4⟩, hs3, t3⟩
  · have o4 := Lib.hid (own_cut o3.out (k := k) (by omega))
    rw [← cellsN_take] at o4
    have hml := o3.out.cells (g := g) rfl
    obtain ⟨ad, had, hsrc0⟩ : ∃ ad : Addr, (if cap = k + 1 then some (⟨g, 0, none⟩ : Addr) else some ⟨g, (k + 1) * 2, none⟩) = some ad ∧ ∀ j u, (cellsN (ns.drop (k + 1)))[j]? = some u → w3.cell? (ad.add j) = some u := by
      by_cases hcc : cap = k + 1
      · refine ⟨_, if_pos hcc, fun j u hu => ?_⟩
        rw [List.drop_of_length_le (by omega)] at hu
        cases j <;> cases hu
      · refine ⟨_, if_neg hcc, fun j u hu => ?_⟩
        rw [cellsN_drop, List.getElem?_drop] at hu
        have := hml _ u hu
        rw [Addr.add_lit] at this ⊢
        rw [show (k + 1) * 2 + j = 0 + ((k + 1) * 2 + j) by omega]
        exact this
    have hsrc := Lib.hid hsrc0
    have hwr : IntKind.i64.wrap ((k : Int) + 1) = (k : Int) + 1 := by rw [IntKind.wrap_i64]; omega
    have htn : ((k : Int) + 1).toNat = k + 1 := by omega
    have hk0 : (0 : Int) ≤ (k : Int) + 1 := by omega
    have hone := Lib.hid (fun u hu => nodes_oneCell (ns.drop (k + 1)) u hu)
    have hlen9 := Lib.hid (show (cellsN (ns.drop (k + 1))).length = (ns.length - (k + 1)) * 2 by rw [cellsN_length, List.length_drop])
    have hkc : (k : Int) ≤ (cap : Int) := by omega
    have hkn : ((k : Int) + 1) ≤ (ns.length : Int) := by omega
    have hsum : k + (ns.length - (k + 1)) ≤ maxLen := by unfold maxLen; omega
    have hwb : w.heap.size ≤ w3.heap.size := by omega
    have hcat := Lib.hid (show cellsN (ns.take k) ++ cellsN (ns.drop (k + 1)) = cellsN (ns.take k ++ ns.drop (k + 1)) by rw [cellsN_append])
    have hctl := Lib.hid (show (ns.take k ++ ns.drop (k + 1)).length = k + (ns.length - (k + 1)) by simp; omega)
    clear o3 hml hsrc0
    generalize cellsN (ns.drop (k + 1)) = dropped at *
    generalize cellsN (ns.take k) = taken at *
    have hbel3 := Lib.hid (fun (n : Nat) => below_drewN' (w := w3) n w3.heap.size)
    have o4d := Lib.hid (fun (n : Nat) => own_below o4.out (hbel3.out n) (Nat.le_refl _))
    have hsd := Lib.hid (fun (n : Nat) => show ∀ j u, dropped[j]? = some u → (w3.drewN n).cell? (ad.add j) = some u from fun j u hu => keep_cell (hbel3.out n) (hsrc.out j u hu))
    have hw3 := Lib.hid hwb
    go_wp2_with fail
    go_region_law (refine step_append_own (by rfl) _ _ _ (by rfl) w.heap.size 41 i0 _ 2 16 Try.underlying27 hi hz0 hz1 hz2 rfl (by decide) _ k taken (by rfl) (o4d.out _) ad (ns.length - (k + 1)) _ dropped (by rfl) hlen9.out (hsd.out _) hone.out hsum (by omega) hw3.out ?_; intro v6 w6 hown6 hgrow6 hblk6)
    all_goals
      rw [hcat.out, ← hctl.out] at hown6
      have hown6 := Lib.hid hown6
      have hbd : Below w3.heap.size w3 w3.drew := Below.drew (Below.refl _ _)
      have s6 := Lib.hid (hs3.out.below hbd (Nat.le_refl _))
      have t6 := Lib.hid (t3.out.trans (Turned.of_below hbd (Nat.le_refl _)))
      have hgrow6 := Lib.hid hgrow6
      clear hblk6
      go_wp2_with fail
      go_ret
      exact ⟨⟨_, ns.take k ++ ns.drop (k + 1), rfl, hfin.out _ _ _ hown6 (by have := hctl.out; omega)⟩, Lib.hid (s6.out.grown hgrow6.out hgl.1 hbl), Lib.hid (t6.out.putG hgrow6.out hgl.1)⟩
end Go.Proofs.Ytdpnkojchimmfaa
