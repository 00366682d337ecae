/- The laws' own helpers on []Node: a copy, equality, the marks that are written into a result and read again. -/
import Derived.Test.YtmhkcicjbgifnaaGreatMInts
import Derived.Test.YtmhkcicjbgifnaaGreatMTree
import Derived.Deep.RegionHeld3

namespace Go.Proofs.YtmhkcicjbgifnaaGreat
open Go.RowKit

/-- The cells of a node. -/
def encN (n : Nd) : List Value := [.int .i64 n.1, .int .i64 n.2]
def cellsN (ns : List Nd) : List Value := ns.flatMap encN

theorem cellsN_length (ns : List Nd) : (cellsN ns).length = ns.length * 2 := by
  induction ns with
  | nil => rfl
  | cons n ns ih => simp only [cellsN, List.flatMap_cons, List.length_append] at ih ⊢; rw [ih]; simp [encN]; omega

theorem cellsN_get (ns : List Nd) (k : Nat) (n : Nd) (h : ns[k]? = some n) : (cellsN ns)[k * 2]? = some (.int .i64 n.1) ∧ (cellsN ns)[k * 2 + 1]? = some (.int .i64 n.2) := by
  induction ns generalizing k with
  | nil => simp at h
  | cons m ns ih =>
    cases k with
    | zero => simp at h; subst h; simp [cellsN, encN]
    | succ k =>
      simp only [List.getElem?_cons_succ] at h
      have := ih k h
      rw [show (k + 1) * 2 = k * 2 + 1 + 1 by omega]
      simp only [cellsN, List.flatMap_cons, encN, List.cons_append, List.nil_append, List.getElem?_cons_succ]
      exact this

theorem cellsN_append (a b : List Nd) : cellsN (a ++ b) = cellsN a ++ cellsN b := by simp [cellsN]

theorem cellsN_set (ns : List Nd) (k : Nat) (m n : Nd) (h : ns[k]? = some m) : ((cellsN ns).set (k * 2) (.int .i64 n.1)).set (k * 2 + 1) (.int .i64 n.2) = cellsN (ns.set k n) := by
  induction ns generalizing k with
  | nil => simp at h
  | cons x ns ih =>
    cases k with
    | zero => simp [cellsN, encN]
    | succ k =>
      simp only [List.getElem?_cons_succ] at h
      have := ih k h
      rw [show (k + 1) * 2 = k * 2 + 1 + 1 by omega]
      simp only [cellsN, List.flatMap_cons, encN, List.cons_append, List.nil_append, List.set_cons_succ] at this ⊢
      rw [this]

/-- A slice of nodes. -/
def Nodes (w : World) (v : Value) (ns : List Nd) : Prop := Reads w 2 v ns.length (cellsN ns)

theorem Nodes.below {w w' : World} {v : Value} {ns : List Nd} {K : Nat} (h : Nodes w v ns) (hb : Below K w w') (hk : w.heap.size ≤ K) : Nodes w' v ns := Reads.below h hb hk

theorem nodes_of_own {w : World} {B : Nat} {e : TypeId} {v : Value} {n : Nat} {ns : List Nd} (h : w.ownsRow B e 2 v n (cellsN ns)) : Nodes w v ns := by
  have hn : n = ns.length := by have := h.1; rw [cellsN_length] at this; omega
  subst hn
  exact reads_of_own h

theorem Nodes.cap {w : World} {v : Value} {ns : List Nd} (h : Nodes w v ns) : ns.length ≤ maxLen := h.2.1

theorem Nodes.opened {w : World} {v : Value} {ns : List Nd} (h : Nodes w v ns) : ns.length ≤ maxLen ∧ ∃ a c b o, v = .slice a ns.length c ∧ ns.length ≤ c ∧ (ns.length ≤ 0 ∨ 0 < ns.length ∧ a = some ⟨b, o, none⟩) ∧
    Hid (∀ k, k < ns.length → ∃ x y, ns[k]? = some (x, y) ∧ w.cell? ⟨b, o + k * 2, none⟩ = some (.int .i64 x) ∧ w.cell? ⟨b, o + k * 2 + 1, none⟩ = some (.int .i64 y)) := by
  obtain ⟨_, h2, a, c, b, o, hv, hc, ha, hcell⟩ := h
  refine ⟨h2, a, c, b, o, hv, hc, ?_, fun k hk => ⟨ns[k].1, ns[k].2, by simp [hk], ?_, ?_⟩⟩
  · rcases Nat.eq_zero_or_pos ns.length with h | h
    · exact .inl (by omega)
    · exact .inr ⟨h, ha h⟩
  · exact hcell (k * 2) _ (cellsN_get ns k ns[k] (by simp [hk])).1
  · rw [Nat.add_assoc]; exact hcell (k * 2 + 1) _ (cellsN_get ns k ns[k] (by simp [hk])).2

theorem info_node : (Tryz.prog.info? 40).map (fun i => (i.zero, i.size, i.bytes)) = some (some (.agg #[.int .i64 0, .int .i64 0]), 2, 16) := by kernel_rfl

theorem toNode_any (x y : Int) (w : World) :
    Calls Tryz.prog 19 #[.agg #[.int .i64 x, .int .i64 y]] w fun e w' => e = .returned (.agg #[.int .i64 x, .int .i64 y]) ∧ Below w.heap.size w w' := by
  go_enter Tryz.func19, Tryz.ntmps19
  go_wp2
  refine bodyPost_ret (v := .agg #[.int .i64 x, .int .i64 y]) (by simp [results, Tryz.results19, go_sem]) rfl ⟨rfl, ?_⟩
  exact ((((Below.refl _ _).alloc (Nat.le_refl _) _).alloc (by simp) _).alloc (by simp; omega) _)

theorem eqNode_same (x y : Int) (w : World) :
    Calls Tryz.prog 26 #[.agg #[.int .i64 x, .int .i64 y], .agg #[.int .i64 x, .int .i64 y]] w fun e w' => e = .returned (.bool true) ∧ Below w.heap.size w w' := by
  go_enter Tryz.func26, Tryz.ntmps26
  go_wp2
  go_ret
  exact ⟨rfl, ((Below.refl _ _).alloc (Nat.le_refl _) _).alloc (by simp) _⟩

theorem made_nodes (n : Nat) : (madeCells (Value.agg #[.int .i64 0, .int .i64 0]).cells (n * 2)).toList = cellsN (List.replicate n (0, 0)) := by
  have e : (Value.agg #[.int .i64 0, .int .i64 0]).cells = #[.int .i64 0, .int .i64 0] := rfl
  rw [e]
  have h1 : ∀ i, i < n * 2 → (madeCells #[Value.int .i64 0, .int .i64 0] (n * 2)).toList[i]? = some (.int .i64 0) := by
    intro i hi
    have h2 : i % 2 = 0 ∨ i % 2 = 1 := by omega
    rcases h2 with h2 | h2 <;> simp [madeCells, hi, h2]
  have h3 : cellsN (List.replicate n (0, 0)) = List.replicate (n * 2) (.int .i64 0) := by
    induction n with
    | zero => rfl
    | succ n ih =>
      rw [List.replicate_succ, show (n + 1) * 2 = n * 2 + 1 + 1 by omega, List.replicate_succ, List.replicate_succ]
      simp only [cellsN, List.flatMap_cons, encN, List.cons_append, List.nil_append] at ih ⊢
      rw [ih (fun i hi => by
        have h2 : i % 2 = 0 ∨ i % 2 = 1 := by omega
        rcases h2 with h2 | h2 <;> simp [madeCells, hi, h2])]
  rw [h3]
  apply List.ext_getElem?
  intro i
  by_cases hi : i < n * 2
  · rw [h1 i hi]; simp [hi]
  · simp [madeCells, hi]

theorem own_cellN {w : World} {B : Nat} {e : TypeId} {g n cap k : Nat} {zs : List Nd} (h : w.ownsRow B e 2 (.slice (some ⟨g, 0, none⟩) n cap) n (cellsN zs)) (hk : k < n) :
    (∃ x y, zs[k]? = some (x, y) ∧ w.cell? ⟨g, k * 2, none⟩ = some (.int .i64 x) ∧ w.cell? ⟨g, k * 2 + 1, none⟩ = some (.int .i64 y)) ∧ w.frozen? ⟨g, k * 2, none⟩ = false ∧ w.frozen? ⟨g, k * 2 + 1, none⟩ = false := by
  refine ⟨?_, h.frozenAt _, h.frozenAt _⟩
  have hl : zs.length = n := by have := h.1; rw [cellsN_length] at this; omega
  have hz : zs[k]? = some (zs[k]'(by omega)) := by simp [hl, hk]
  have hc := cellsN_get zs k _ hz
  refine ⟨(zs[k]'(by omega)).1, (zs[k]'(by omega)).2, hz, ?_, ?_⟩
  · rw [h.cellAt (k * 2) (by omega)]; exact hc.1
  · rw [h.cellAt (k * 2 + 1) (by omega)]; exact hc.2

theorem own_storeN {w : World} {B : Nat} {e : TypeId} {g n cap k : Nat} {xs bs : List Nd} {x y : Int}
    (h : w.ownsRow B e 2 (.slice (some ⟨g, 0, none⟩) n cap) n (cellsN (xs.take k ++ bs.drop k))) (hx : xs[k]? = some (x, y)) (hk : k < bs.length) :
    ((w.setCell ⟨g, k * 2, none⟩ (.int .i64 x)).setCell ⟨g, k * 2 + 1, none⟩ (.int .i64 y)).ownsRow B e 2 (.slice (some ⟨g, 0, none⟩) n cap) n (cellsN (xs.take (k + 1) ++ bs.drop (k + 1))) := by
  have h1 := ((h.stored (k * 2) (.int .i64 x)).1.stored (k * 2 + 1) (.int .i64 y)).1
  have hka : k < xs.length := (List.getElem?_eq_some_iff.1 hx).1
  have hm : (xs.take k ++ bs.drop k)[k]? = some (bs[k]) := by
    rw [List.getElem?_append_right (by simp; omega)]
    simp [Nat.min_eq_left (Nat.le_of_lt hka)]
  rw [cellsN_set _ k _ (x, y) hm, set_take_drop xs bs k (x, y) hx hk] at h1
  exact h1

set_option maxHeartbeats 400000 in
theorem toNodeS_any (v : Value) (ns : List Nd) (w : World) (h : Nodes w v ns) (hn : ns.length ≤ 1048576) :
    Calls Tryz.prog 7 #[v] w fun e w' => ∃ v', e = .returned v' ∧ w'.ownsRow w.heap.size 40 2 v' ns.length (cellsN ns) ∧ Below w.heap.size w w' := by
  obtain ⟨hm, a, c, b, o, rfl, hc, h0, hcell⟩ := h.opened
  obtain ⟨i0, hi, hz0, hz1, hz2⟩ := info_parts info_node
  clear h
  rcases h0 with h0 | ⟨h0, rfl⟩
  all_goals
    go_enter Tryz.func7, Tryz.ntmps7
    go_wp2_with (first | (at_make; refine wpList_make_full _ rfl _ _ 27 rfl w.heap.size 40 i0 (.agg #[.int .i64 0, .int .i64 0]) 2 Tryz.underlying27 hi hz0 hz1 _ _ _ _ ns.length rfl rfl rfl rfl (by rw [hz2]; omega) hm (Nat.le_refl _) ?_; intro w1 hown hgr; clear hi hz0 hz1 hz2))
    rw [made_nodes] at hown
    go_loopw [4] (fun i wr => ∃ k : Nat, k ≤ ns.length ∧ i = .int .i64 k ∧ wr.ownsRow w.heap.size 40 2 (.slice (some ⟨w.heap.size, 0, none⟩) ns.length ns.length) ns.length (cellsN (ns.take k ++ (List.replicate ns.length (0, 0)).drop k)) ∧ Below w.heap.size w wr) (fun i _ => ns.length - (intOf i).toNat)
    case atStart => exact ⟨0, Nat.zero_le _, rfl, by simpa using hown, below_of_grownBy hgr (Nat.le_refl _) (by simp)⟩
    case round =>
      obtain ⟨k, hk, rfl, ho, hb⟩ := hrel
      by_cases hlt : k < ns.length
      · all_goals try (exfalso; omega)
        all_goals
          obtain ⟨x, y, hx, hcx, hcy⟩ := hcell.out k hlt
          have hcx := (hb.cell (p := ⟨b, o + k * 2, none⟩) (World.block_lt_of_cell? w _ hcx)).trans hcx
          have hcy := (hb.cell (p := ⟨b, o + k * 2 + 1, none⟩) (World.block_lt_of_cell? w _ hcy)).trans hcy
          have hx := Lib.hid hx
          go_wp2_with fail
          refine (toNode_any _ _ _).mono ?_
          rintro e w2 ⟨rfl, b2⟩
          have ho := own_below ho b2 (Nat.le_refl _)
          have hb := hb.trans (b2.mono hb.size)
          obtain ⟨⟨z, z', _, hcz, hcz'⟩, hfz, hfz'⟩ := own_cellN ho hlt
          have ho := Lib.hid ho
          go_wp2_with fail
          go_roundw
          case rel => exact ⟨k + 1, by omega, by go_num, own_storeN ho.out hx.out (by simp; omega), (hb.setCell (Nat.le_refl _) _).setCell (Nat.le_refl _) _⟩
          case measure => simp [intOf]; omega
      · obtain rfl : k = ns.length := by omega
        have ho := Lib.hid ho
        go_wp2_with fail
        go_ret
        refine ⟨_, rfl, ?_, hb⟩
        have := ho.out
        simpa using this

set_option maxHeartbeats 800000 in
theorem eqNodeS_same (v u : Value) (ns : List Nd) (w : World) (h : Nodes w v ns) (h' : Nodes w u ns) :
    Calls Tryz.prog 10 #[v, u] w fun e w' => e = .returned (.bool true) ∧ Below w.heap.size w w' := by
  obtain ⟨hm, a, c, b, o, rfl, hc, h0, hcell⟩ := h.opened
  obtain ⟨_, a', c', b', o', rfl, hc', h0', hcell'⟩ := h'.opened
  unfold maxLen at hm
  have hz : ns.length ≤ 0 ∨ (0 < ns.length ∧ a = some ⟨b, o, none⟩ ∧ a' = some ⟨b', o', none⟩) := by
    rcases h0 with h0 | ⟨h0, e⟩
    · exact .inl h0
    · rcases h0' with h1 | ⟨_, e'⟩
      · omega
      · exact .inr ⟨h0, e, e'⟩
  clear h0 h0' h h'
  rcases hz with h0 | ⟨h0, rfl, rfl⟩
  all_goals
    go_enter Tryz.func10, Tryz.ntmps10
    go_wp2_with fail
    go_loopw [5] (fun i wr => ∃ k : Nat, k ≤ ns.length ∧ i = .int .i64 k ∧ Below w.heap.size w wr) (fun i _ => ns.length - (intOf i).toNat)
    case atStart => exact ⟨0, Nat.zero_le _, rfl, Below.refl _ _⟩
    case round =>
      obtain ⟨k, hk, rfl, hb⟩ := hrel
      by_cases hlt : k < ns.length
      · all_goals try (exfalso; omega)
        all_goals
          obtain ⟨x, y, hx, hcx, hcy⟩ := hcell.out k hlt
          obtain ⟨x', y', hx', hcx', hcy'⟩ := hcell'.out k hlt
          obtain ⟨rfl, rfl⟩ : x = x' ∧ y = y' := by rw [hx] at hx'; simpa using hx'
          have lx := World.block_lt_of_cell? w _ hcx
          have lx' := World.block_lt_of_cell? w _ hcx'
          have hcx := (hb.cell (p := ⟨b, o + k * 2, none⟩) lx).trans hcx
          have hcy := (hb.cell (p := ⟨b, o + k * 2 + 1, none⟩) lx).trans hcy
          have hcx' := (hb.cell (p := ⟨b', o' + k * 2, none⟩) lx').trans hcx'
          have hcy' := (hb.cell (p := ⟨b', o' + k * 2 + 1, none⟩) lx').trans hcy'
          clear hx hx'
          go_wp2_with fail
          go_region_held3 (fun W => Below w.heap.size w W ∧ W.cell? ⟨b, o + k * 2, none⟩ = some (.int .i64 x) ∧ W.cell? ⟨b, o + k * 2 + 1, none⟩ = some (.int .i64 y) ∧ W.cell? ⟨b', o' + k * 2, none⟩ = some (.int .i64 x) ∧ W.cell? ⟨b', o' + k * 2 + 1, none⟩ = some (.int .i64 y)) (first | (refine ⟨?_, ?_, ?_, ?_, ?_⟩ <;> (first | assumption | (exact Below.drew (by assumption)))) | (obtain ⟨hs1, hs2, hs3, hs4, hs5⟩ := ‹Below _ _ _ ∧ _ ∧ _ ∧ _ ∧ _›; exact ⟨keep_step (by assumption) hs1, keep_cell (by assumption) hs2, keep_cell (by assumption) hs3, keep_cell (by assumption) hs4, keep_cell (by assumption) hs5⟩)) (first | (go_at_call 26; refine (eqNode_same _ _ _).mono ?_; rintro e w' ⟨rfl, hb'⟩))
          all_goals
            go_wp2_with fail
            go_roundw
            case rel => exact ⟨k + 1, by omega, by go_num, by first | assumption | exact (‹Below w.heap.size w _ ∧ _ ∧ _ ∧ _ ∧ _›).1⟩
            case measure => simp [intOf]; omega
      · obtain rfl : k = ns.length := by omega
        go_wp2_with fail
        go_ret
        exact ⟨rfl, hb⟩

/-- What is left of a bound behind a list of n elements. -/
def szR (l : Int) (n : Nat) : Int := if l < n then -1 else l - n
theorem szR_lt {l : Int} {n : Nat} (h : l < n) : szR l n = -1 := if_pos h
theorem szR_ge {l : Int} {n : Nat} (h : (n : Int) ≤ l) : szR l n = l - n := if_neg (by omega)

theorem szNodeS_any (v : Value) (ns : List Nd) (l : Int) (w : World) (h : Nodes w v ns) (h0 : 0 ≤ l) (h1 : l ≤ 1048576) :
    Calls Tryz.prog 5 #[v, .int .i64 l] w fun e w' => e = .returned (.int .i64 (szR l ns.length)) ∧ w = w' := by
  obtain ⟨hm, a, c, b, o, rfl, hc, _, _⟩ := h.opened
  unfold maxLen at hm
  clear h
  by_cases hlt : l < ns.length
  · have hf := Lib.hid (szR_lt hlt)
    go_enter Tryz.func5, Tryz.ntmps5
    go_wp2_with fail
    go_ret
    exact ⟨ret_int hf.out.symm, rfl⟩
  · have hf := Lib.hid (szR_ge (show (ns.length : Int) ≤ l by omega))
    go_enter Tryz.func5, Tryz.ntmps5
    go_wp2_with fail
    go_ret
    exact ⟨ret_int hf.out.symm, rfl⟩

/-- The marks of nodes. -/
def marksN (k : Int) : Nat → List Nd
  | 0 => []
  | n + 1 => (k, k + 1) :: marksN (k + 2) n

theorem marksN_length (k : Int) (n : Nat) : (marksN k n).length = n := by
  induction n generalizing k with
  | zero => rfl
  | succ n ih => simp [marksN, ih]

theorem marksN_get (k : Int) (n i : Nat) (h : i < n) : (marksN k n)[i]? = some (k + 2 * i, k + 2 * i + 1) := by
  induction n generalizing k i with
  | zero => omega
  | succ n ih =>
    cases i with
    | zero => simp [marksN]
    | succ i =>
      simp only [marksN, List.getElem?_cons_succ]
      rw [ih (k + 2) i (by omega)]
      congr 2 <;> omega

set_option maxHeartbeats 400000 in
theorem markNodeS_any (v : Value) (B n : Nat) (ns : List Nd) (k0 : Int) (w : World) (h : w.ownsRow B 40 2 v n (cellsN ns)) (hk : 0 ≤ k0) (hk2 : k0 + 2 * n ≤ 4611686018427387904) :
    Calls Tryz.prog 11 #[v, .int .i64 k0] w fun e w' => e = .returned (.int .i64 (k0 + 2 * n)) ∧ w'.ownsRow B 40 2 v n (cellsN (marksN k0 n)) ∧ w.grownBy w' v.ownBlock := by
  have hl : ns.length = n := by have := h.1; rw [cellsN_length] at this; omega
  rcases h.2 with ⟨rfl, rfl⟩ | ⟨g, cap, cur, rfl, hB, hg, hnc, hcm, _, _⟩
  · go_enter Tryz.func11, Tryz.ntmps11
    go_wp2_with fail
    refine wp_loop_rounds 1 ?_
    rw [rounds_succ]
    go_wp2_with fail
    go_ret
    exact ⟨ret_int (by omega), World.ownsRow_nil _ _ _ _, World.grownBy.refl _ _⟩
  · unfold maxLen at hcm
    clear hg
    go_enter Tryz.func11, Tryz.ntmps11
    go_wp2_with fail
    go_loopw [1, 5] (fun j i wr => ∃ k : Nat, k ≤ n ∧ i = .int .i64 k ∧ j = .int .i64 (k0 + 2 * k) ∧ wr.ownsRow B 40 2 (.slice (some ⟨g, 0, none⟩) n cap) n (cellsN ((marksN k0 n).take k ++ ns.drop k)) ∧ w.grownBy wr (some g)) (fun _ i _ => n - (intOf i).toNat)
    case atStart => exact ⟨0, Nat.zero_le _, rfl, by go_num, by simpa using h, World.grownBy.refl _ _⟩
    case round =>
      obtain ⟨k, hk', rfl, rfl, ho, hb⟩ := hrel
      by_cases hlt : k < n
      · obtain ⟨⟨z, z', _, hcz, hcz'⟩, hfz, hfz'⟩ := own_cellN ho hlt
        have hm := Lib.hid (marksN_get k0 n k hlt)
        have ho := Lib.hid ho
        go_wp2_with fail
        go_roundw
        case rel =>
          refine ⟨k + 1, by omega, by go_num, by go_num, own_storeN ho.out hm.out (by omega), ⟨hb.os, hb.tape, hb.output, by simpa using hb.size, fun j hj hne => ?_⟩⟩
          rw [Below.heap_setCell _ _ _ _ (by simpa using hne), Below.heap_setCell _ _ _ _ (by simpa using hne)]
          exact hb.block j hj hne
        case measure => simp [intOf]; omega
      · obtain rfl : k = n := by omega
        have ho := Lib.hid ho
        go_wp2_with fail
        go_ret
        refine ⟨rfl, ?_, hb⟩
        have := ho.out
        rw [List.drop_of_length_le (by omega), List.append_nil, List.take_of_length_le (by rw [marksN_length]; omega)] at this
        exact this

end Go.Proofs.YtmhkcicjbgifnaaGreat
