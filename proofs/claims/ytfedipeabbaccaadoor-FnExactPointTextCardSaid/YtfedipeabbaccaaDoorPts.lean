/- The laws' own helpers on []PointNode: a copy, equality, the marks that are written into a result and read again. -/
import Derived.Test.YtfedipeabbaccaaDoorInts
import Derived.Deep.RegionHeld3
namespace Go.Proofs.YtfedipeabbaccaaDoor
open Go.RowKit

abbrev Pt := Int × Int × Int
/-- The cells of a point node. -/
def encP (n : Pt) : List Value := [.int .i64 n.1, .int .i64 n.2.1, .int .i64 n.2.2]
def cellsP (ns : List Pt) : List Value := ns.flatMap encP

theorem cellsP_length (ns : List Pt) : (cellsP ns).length = ns.length * 3 := by
  induction ns with
  | nil => rfl
  | cons n ns ih => simp only [cellsP, List.flatMap_cons, List.length_append] at ih ⊢; rw [ih]; simp [encP]; omega

theorem cellsP_get (ns : List Pt) (k : Nat) (n : Pt) (h : ns[k]? = some n) : (cellsP ns)[k * 3]? = some (.int .i64 n.1) ∧ (cellsP ns)[k * 3 + 1]? = some (.int .i64 n.2.1) ∧ (cellsP ns)[k * 3 + 2]? = some (.int .i64 n.2.2) := by
  induction ns generalizing k with
  | nil => simp at h
  | cons m ns ih =>
    cases k with
    | zero => simp at h; subst h; simp [cellsP, encP]
    | succ k =>
      simp only [List.getElem?_cons_succ] at h
      have := ih k h
      rw [show (k + 1) * 3 = k * 3 + 1 + 1 + 1 by omega]
      simp only [cellsP, List.flatMap_cons, encP, List.cons_append, List.nil_append, List.getElem?_cons_succ]
      exact this

theorem cellsP_append (a b : List Pt) : cellsP (a ++ b) = cellsP a ++ cellsP b := by simp [cellsP]

theorem cellsP_set (ns : List Pt) (k : Nat) (m n : Pt) (h : ns[k]? = some m) : (((cellsP ns).set (k * 3) (.int .i64 n.1)).set (k * 3 + 1) (.int .i64 n.2.1)).set (k * 3 + 2) (.int .i64 n.2.2) = cellsP (ns.set k n) := by
  induction ns generalizing k with
  | nil => simp at h
  | cons x ns ih =>
    cases k with
    | zero => simp [cellsP, encP]
    | succ k =>
      simp only [List.getElem?_cons_succ] at h
      have := ih k h
      rw [show (k + 1) * 3 = k * 3 + 1 + 1 + 1 by omega]
      simp only [cellsP, List.flatMap_cons, encP, List.cons_append, List.nil_append, List.set_cons_succ] at this ⊢
      rw [this]

/-- A slice of point nodes. -/
def Points (w : World) (v : Value) (ns : List Pt) : Prop := Reads w 3 v ns.length (cellsP ns)

theorem Points.below {w w' : World} {v : Value} {ns : List Pt} {K : Nat} (h : Points w v ns) (hb : Below K w w') (hk : w.heap.size ≤ K) : Points w' v ns := Reads.below h hb hk

theorem points_of_own {w : World} {B : Nat} {e : TypeId} {v : Value} {n : Nat} {ns : List Pt} (h : w.ownsRow B e 3 v n (cellsP ns)) : Points w v ns := by
  have hn : n = ns.length := by have := h.1; rw [cellsP_length] at this; omega
  subst hn
  exact reads_of_own h

theorem Points.cap {w : World} {v : Value} {ns : List Pt} (h : Points w v ns) : ns.length ≤ maxLen := h.2.1
theorem Points.shape {w : World} {v : Value} {ns : List Pt} (h : Points w v ns) : ∃ a c, v = .slice a ns.length c := by
  obtain ⟨_, _, a, c, _, _, hv, _⟩ := h
  exact ⟨a, c, hv⟩

theorem Points.opened {w : World} {v : Value} {ns : List Pt} (h : Points w v ns) : ns.length ≤ maxLen ∧ ∃ a c b o, v = .slice a ns.length c ∧ ns.length ≤ c ∧ (ns.length ≤ 0 ∨ 0 < ns.length ∧ a = some ⟨b, o, none⟩) ∧
    Hid (∀ k, k < ns.length → ∃ x y z, ns[k]? = some (x, y, z) ∧ w.cell? ⟨b, o + k * 3, none⟩ = some (.int .i64 x) ∧ w.cell? ⟨b, o + k * 3 + 1, none⟩ = some (.int .i64 y) ∧ w.cell? ⟨b, o + k * 3 + 2, none⟩ = some (.int .i64 z)) := by
  obtain ⟨_, h2, a, c, b, o, hv, hc, ha, hcell⟩ := h
  refine ⟨h2, a, c, b, o, hv, hc, ?_, fun k hk => ⟨ns[k].1, ns[k].2.1, ns[k].2.2, by simp [hk], ?_, ?_, ?_⟩⟩
  · rcases Nat.eq_zero_or_pos ns.length with h | h
    · exact .inl (by omega)
    · exact .inr ⟨h, ha h⟩
  · exact hcell (k * 3) _ (cellsP_get ns k ns[k] (by simp [hk])).1
  · rw [Nat.add_assoc]; exact hcell (k * 3 + 1) _ (cellsP_get ns k ns[k] (by simp [hk])).2.1
  · rw [Nat.add_assoc]; exact hcell (k * 3 + 2) _ (cellsP_get ns k ns[k] (by simp [hk])).2.2

theorem info_point : (Tryd.prog.info? 49).map (fun i => (i.zero, i.size, i.bytes)) = some (some (.agg #[.int .i64 0, .int .i64 0, .int .i64 0]), 3, 24) := by kernel_rfl

theorem toPointNode_any (x y z : Int) (w : World) :
    Calls Tryd.prog 29 #[.agg #[.int .i64 x, .int .i64 y, .int .i64 z]] w fun e w' => e = .returned (.agg #[.int .i64 x, .int .i64 y, .int .i64 z]) ∧ Below w.heap.size w w' := by
  go_enter Tryd.func29, Tryd.ntmps29
  go_wp2
  refine bodyPost_ret (v := .agg #[.int .i64 x, .int .i64 y, .int .i64 z]) (by simp [results, Tryd.results29, go_sem]) rfl ⟨rfl, ?_⟩
  exact ((((Below.refl _ _).alloc (Nat.le_refl _) _).alloc (by simp) _).alloc (by simp; omega) _)

theorem eqPointNode_same (x y z : Int) (w : World) :
    Calls Tryd.prog 32 #[.agg #[.int .i64 x, .int .i64 y, .int .i64 z], .agg #[.int .i64 x, .int .i64 y, .int .i64 z]] w fun e w' => e = .returned (.bool true) ∧ Below w.heap.size w w' := by
  go_enter Tryd.func32, Tryd.ntmps32
  go_wp2
  go_ret
  exact ⟨rfl, ((Below.refl _ _).alloc (Nat.le_refl _) _).alloc (by simp) _⟩

theorem made_points (n : Nat) : (madeCells (Value.agg #[.int .i64 0, .int .i64 0, .int .i64 0]).cells (n * 3)).toList = cellsP (List.replicate n (0, 0, 0)) := by
  have e : (Value.agg #[.int .i64 0, .int .i64 0, .int .i64 0]).cells = #[.int .i64 0, .int .i64 0, .int .i64 0] := rfl
  rw [e]
  have h1 : ∀ m i, i < m * 3 → (madeCells #[Value.int .i64 0, .int .i64 0, .int .i64 0] (m * 3)).toList[i]? = some (.int .i64 0) := by
    intro m i hi
    have h2 : i % 3 = 0 ∨ i % 3 = 1 ∨ i % 3 = 2 := by omega
    rcases h2 with h2 | h2 | h2 <;> simp [madeCells, hi, h2]
  have h3 : cellsP (List.replicate n (0, 0, 0)) = List.replicate (n * 3) (.int .i64 0) := by
    clear h1
    induction n with
    | zero => rfl
    | succ n ih =>
      rw [List.replicate_succ, show (n + 1) * 3 = n * 3 + 1 + 1 + 1 by omega, List.replicate_succ, List.replicate_succ, List.replicate_succ]
      simp only [cellsP, List.flatMap_cons, encP, List.cons_append, List.nil_append] at ih ⊢
      rw [ih]
  rw [h3]
  apply List.ext_getElem?
  intro i
  by_cases hi : i < n * 3
  · rw [h1 n i hi]; simp [hi]
  · simp [madeCells, hi]

theorem own_cellP {w : World} {B : Nat} {e : TypeId} {g n cap k : Nat} {zs : List Pt} (h : w.ownsRow B e 3 (.slice (some ⟨g, 0, none⟩) n cap) n (cellsP zs)) (hk : k < n) :
    (∃ x y z, zs[k]? = some (x, y, z) ∧ w.cell? ⟨g, k * 3, none⟩ = some (.int .i64 x) ∧ w.cell? ⟨g, k * 3 + 1, none⟩ = some (.int .i64 y) ∧ w.cell? ⟨g, k * 3 + 2, none⟩ = some (.int .i64 z)) ∧ w.frozen? ⟨g, k * 3, none⟩ = false ∧ w.frozen? ⟨g, k * 3 + 1, none⟩ = false ∧ w.frozen? ⟨g, k * 3 + 2, none⟩ = false := by
  refine ⟨?_, h.frozenAt _, h.frozenAt _, h.frozenAt _⟩
  have hl : zs.length = n := by have := h.1; rw [cellsP_length] at this; omega
  have hz : zs[k]? = some (zs[k]'(by omega)) := by simp [hl, hk]
  have hc := cellsP_get zs k _ hz
  refine ⟨(zs[k]'(by omega)).1, (zs[k]'(by omega)).2.1, (zs[k]'(by omega)).2.2, hz, ?_, ?_, ?_⟩
  · rw [h.cellAt (k * 3) (by omega)]; exact hc.1
  · rw [h.cellAt (k * 3 + 1) (by omega)]; exact hc.2.1
  · rw [h.cellAt (k * 3 + 2) (by omega)]; exact hc.2.2

theorem own_storeP {w : World} {B : Nat} {e : TypeId} {g n cap k : Nat} {xs bs : List Pt} {x y z : Int}
    (h : w.ownsRow B e 3 (.slice (some ⟨g, 0, none⟩) n cap) n (cellsP (xs.take k ++ bs.drop k))) (hx : xs[k]? = some (x, y, z)) (hk : k < bs.length) :
    (((w.setCell ⟨g, k * 3, none⟩ (.int .i64 x)).setCell ⟨g, k * 3 + 1, none⟩ (.int .i64 y)).setCell ⟨g, k * 3 + 2, none⟩ (.int .i64 z)).ownsRow B e 3 (.slice (some ⟨g, 0, none⟩) n cap) n (cellsP (xs.take (k + 1) ++ bs.drop (k + 1))) := by
  have h1 := (((h.stored (k * 3) (.int .i64 x)).1.stored (k * 3 + 1) (.int .i64 y)).1.stored (k * 3 + 2) (.int .i64 z)).1
  have hka : k < xs.length := (List.getElem?_eq_some_iff.1 hx).1
  have hm : (xs.take k ++ bs.drop k)[k]? = some (bs[k]) := by
    rw [List.getElem?_append_right (by simp; omega)]
    simp [Nat.min_eq_left (Nat.le_of_lt hka)]
  rw [cellsP_set _ k _ (x, y, z) hm, set_take_drop xs bs k (x, y, z) hx hk] at h1
  exact h1

set_option maxHeartbeats 400000 in
theorem toPointNodeS_any (v : Value) (ns : List Pt) (w : World) (h : Points w v ns) (hn : ns.length ≤ 1048576) :
    Calls Tryd.prog 10 #[v] w fun e w' => ∃ v', e = .returned v' ∧ w'.ownsRow w.heap.size 49 3 v' ns.length (cellsP ns) ∧ Below w.heap.size w w' := by
  obtain ⟨hm, a, c, b, o, rfl, hc, h0, hcell⟩ := h.opened
  obtain ⟨i0, hi, hz0, hz1, hz2⟩ := info_parts info_point
  clear h
  rcases h0 with h0 | ⟨h0, rfl⟩
  all_goals
    go_enter Tryd.func10, Tryd.ntmps10
    go_wp2_with (first | (at_make; refine wpList_make_full _ rfl _ _ 26 rfl w.heap.size 49 i0 (.agg #[.int .i64 0, .int .i64 0, .int .i64 0]) 3 Tryd.underlying26 hi hz0 hz1 _ _ _ _ ns.length rfl rfl rfl rfl (by rw [hz2]; omega) hm (Nat.le_refl _) ?_; intro w1 hown hgr; clear hi hz0 hz1 hz2))
    rw [made_points] at hown
    go_loopw [4] (fun i wr => ∃ k : Nat, k ≤ ns.length ∧ i = .int .i64 k ∧ wr.ownsRow w.heap.size 49 3 (.slice (some ⟨w.heap.size, 0, none⟩) ns.length ns.length) ns.length (cellsP (ns.take k ++ (List.replicate ns.length (0, 0, 0)).drop k)) ∧ Below w.heap.size w wr) (fun i _ => ns.length - (intOf i).toNat)
    case atStart => exact ⟨0, Nat.zero_le _, rfl, by simpa using hown, below_of_grownBy hgr (Nat.le_refl _) (by simp)⟩
    case round =>
      obtain ⟨k, hk, rfl, ho, hb⟩ := hrel
      by_cases hlt : k < ns.length
      · all_goals try (exfalso; omega)
        all_goals
          obtain ⟨x, y, z, hx, hcx, hcy, hcz⟩ := hcell.out k hlt
          have hcx := (hb.cell (p := ⟨b, o + k * 3, none⟩) (World.block_lt_of_cell? w _ hcx)).trans hcx
          have hcy := (hb.cell (p := ⟨b, o + k * 3 + 1, none⟩) (World.block_lt_of_cell? w _ hcy)).trans hcy
          have hcz := (hb.cell (p := ⟨b, o + k * 3 + 2, none⟩) (World.block_lt_of_cell? w _ hcz)).trans hcz
          have hx := Lib.hid hx
          go_wp2_with fail
          refine (toPointNode_any _ _ _ _).mono ?_
          rintro e w2 ⟨rfl, b2⟩
          have ho := own_below ho b2 (Nat.le_refl _)
          have hb := hb.trans (b2.mono hb.size)
          obtain ⟨⟨z0, z1, z2, _, hcz0, hcz1, hcz2⟩, hfz, hfz', hfz''⟩ := own_cellP ho hlt
          have ho := Lib.hid ho
          go_wp2_with fail
          go_roundw
          case rel => exact ⟨k + 1, by omega, by go_num, own_storeP ho.out hx.out (by simp; omega), ((hb.setCell (Nat.le_refl _) _).setCell (Nat.le_refl _) _).setCell (Nat.le_refl _) _⟩
          case measure => simp [intOf]; omega
      · obtain rfl : k = ns.length := by omega
        have ho := Lib.hid ho
        go_wp2_with fail
        go_ret
        refine ⟨_, rfl, ?_, hb⟩
        have := ho.out
        simpa using this

set_option maxHeartbeats 1600000 in
theorem eqPointNodeS_same (v u : Value) (ns : List Pt) (w : World) (h : Points w v ns) (h' : Points w u ns) :
    Calls Tryd.prog 12 #[v, u] w fun e w' => e = .returned (.bool true) ∧ Below w.heap.size w w' := by
  obtain ⟨hm, a, c, b, o, rfl, hc, h0, hcell⟩ := h.opened
  obtain ⟨_, a', c', b', o', rfl, hc', h0', hcell'⟩ := h'.opened
  unfold maxLen at hm
  have hz : ns.length ≤ 0 ∨ (0 < ns.length ∧ a = some ⟨b, o, none⟩ ∧ a' = some ⟨b', o', none⟩) := by
    rcases h0 with h0 | ⟨h0, e⟩
    · exact .inl h0
    · rcases h0' with h1 | ⟨_, e'⟩
      · omega
      · exact .inr ⟨h0, e, e'⟩
  clear h0 h0' h h'
  rcases hz with h0 | ⟨h0, rfl, rfl⟩
  all_goals
    go_enter Tryd.func12, Tryd.ntmps12
    go_wp2_with fail
    go_loopw [5] (fun i wr => ∃ k : Nat, k ≤ ns.length ∧ i = .int .i64 k ∧ Below w.heap.size w wr) (fun i _ => ns.length - (intOf i).toNat)
    case atStart => exact ⟨0, Nat.zero_le _, rfl, Below.refl _ _⟩
    case round =>
      obtain ⟨k, hk, rfl, hb⟩ := hrel
      by_cases hlt : k < ns.length
      · all_goals try (exfalso; omega)
        all_goals
          obtain ⟨x, y, z, hx, hcx, hcy, hcz⟩ := hcell.out k hlt
          obtain ⟨x', y', z', hx', hcx', hcy', hcz'⟩ := hcell'.out k hlt
          obtain ⟨rfl, rfl, rfl⟩ : x = x' ∧ y = y' ∧ z = z' := by rw [hx] at hx'; simpa using hx'
          have lx := World.block_lt_of_cell? w _ hcx
          have lx' := World.block_lt_of_cell? w _ hcx'
          have hcx := (hb.cell (p := ⟨b, o + k * 3, none⟩) lx).trans hcx
          have hcy := (hb.cell (p := ⟨b, o + k * 3 + 1, none⟩) lx).trans hcy
          have hcz := (hb.cell (p := ⟨b, o + k * 3 + 2, none⟩) lx).trans hcz
          have hcx' := (hb.cell (p := ⟨b', o' + k * 3, none⟩) lx').trans hcx'
          have hcy' := (hb.cell (p := ⟨b', o' + k * 3 + 1, none⟩) lx').trans hcy'
          have hcz' := (hb.cell (p := ⟨b', o' + k * 3 + 2, none⟩) lx').trans hcz'
          clear hx hx'
          go_wp2_with fail
          (first | (go_region_held3 (fun W => Below w.heap.size w W ∧ W.cell? ⟨b, o + k * 3, none⟩ = some (.int .i64 x) ∧ W.cell? ⟨b, o + k * 3 + 1, none⟩ = some (.int .i64 y) ∧ W.cell? ⟨b, o + k * 3 + 2, none⟩ = some (.int .i64 z) ∧ W.cell? ⟨b', o' + k * 3, none⟩ = some (.int .i64 x) ∧ W.cell? ⟨b', o' + k * 3 + 1, none⟩ = some (.int .i64 y) ∧ W.cell? ⟨b', o' + k * 3 + 2, none⟩ = some (.int .i64 z)) (first | (refine ⟨?_, ?_, ?_, ?_, ?_, ?_, ?_⟩ <;> (first | assumption | (exact Below.drew (by assumption)))) | (obtain ⟨hs1, hs2, hs3, hs4, hs5, hs6, hs7⟩ := ‹Below _ _ _ ∧ _ ∧ _ ∧ _ ∧ _ ∧ _ ∧ _›; exact ⟨keep_step (by assumption) hs1, keep_cell (by assumption) hs2, keep_cell (by assumption) hs3, keep_cell (by assumption) hs4, keep_cell (by assumption) hs5, keep_cell (by assumption) hs6, keep_cell (by assumption) hs7⟩)) (first | (go_at_call 32; refine (eqPointNode_same _ _ _ _).mono ?_; rintro e w' ⟨rfl, hb'⟩))) | fail)
          all_goals
            go_wp2_with fail
            go_roundw
            case rel => exact ⟨k + 1, by omega, by go_num, by first | assumption | exact (‹Below w.heap.size w _ ∧ _ ∧ _ ∧ _ ∧ _ ∧ _ ∧ _›).1⟩
            case measure => simp [intOf]; omega
      · obtain rfl : k = ns.length := by omega
        go_wp2_with fail
        go_ret
        exact ⟨rfl, hb⟩

/-- What is left of a bound behind a list of n point nodes. -/
def szP (l : Int) (n : Nat) : Int := if l < n then -1 else l - n
theorem szP_lt {l : Int} {n : Nat} (h : l < n) : szP l n = -1 := if_pos h
theorem szP_ge {l : Int} {n : Nat} (h : (n : Int) ≤ l) : szP l n = l - n := if_neg (by omega)
theorem szPointNodeS_any (v : Value) (ns : List Pt) (l : Int) (w : World) (h : Points w v ns) (h0 : 0 ≤ l) (h1 : l ≤ 1048576) :
    Calls Tryd.prog 8 #[v, .int .i64 l] w fun e w' => e = .returned (.int .i64 (szP l ns.length)) ∧ w = w' := by
  obtain ⟨hm, a, c, b, o, rfl, hc, _, _⟩ := h.opened
  unfold maxLen at hm
  clear h
  by_cases hlt : l < ns.length
  · have hf := Lib.hid (szP_lt hlt)
    go_enter Tryd.func8, Tryd.ntmps8
    go_wp2_with fail
    go_ret
    exact ⟨ret_int hf.out.symm, rfl⟩
  · have hf := Lib.hid (szP_ge (show (ns.length : Int) ≤ l by omega))
    go_enter Tryd.func8, Tryd.ntmps8
    go_wp2_with fail
    go_ret
    exact ⟨ret_int hf.out.symm, rfl⟩

/-- The marks of point nodes. -/
def marksP (k : Int) : Nat → List Pt
  | 0 => []
  | n + 1 => (k, k + 1, k + 2) :: marksP (k + 3) n

theorem marksP_length (k : Int) (n : Nat) : (marksP k n).length = n := by
  induction n generalizing k with
  | zero => rfl
  | succ n ih => simp [marksP, ih]

theorem marksP_get (k : Int) (n i : Nat) (h : i < n) : (marksP k n)[i]? = some (k + 3 * i, k + 3 * i + 1, k + 3 * i + 1 + 1) := by
  induction n generalizing k i with
  | zero => omega
  | succ n ih =>
    cases i with
    | zero => simp [marksP]; omega
    | succ i =>
      simp only [marksP, List.getElem?_cons_succ]
      rw [ih (k + 3) i (by omega)]
      simp only [Option.some.injEq, Prod.mk.injEq]
      refine ⟨?_, ?_, ?_⟩ <;> omega


end Go.Proofs.YtfedipeabbaccaaDoor
